/- Lines of words and numbers: how they are written, and read again; no Go and no memory. Two lists of numbers, and loops over lists. -/
import Derived.Test.YtpmnhbjbkoackaaDoorPDig
namespace Go.Proofs.YtpmnhbjbkoackaaDoor.En
open Go Go.RowKit Go.Proofs.YtpmnhbjbkoackaaDoor.Dig
set_option linter.unusedVariables false
set_option linter.unusedSimpArgs false
theorem join_is : ∀ ws : List (List UInt8), Lib.join ws [32] = joinL ws
  | [] => rfl
  | [w] => by simp [Lib.join, List.intercalate, joinL]
  | w :: v :: ws => by
    have ih := join_is (v :: ws)
    unfold Lib.join List.intercalate at ih ⊢
    simp only [joinL, ← ih]
    simp [List.intersperse]
def toB (w : List UInt8) : ByteArray := ⟨w.toArray⟩
theorem toB_data (w : List UInt8) : (toB w).data.toList = w := by simp [toB]
theorem toB_size (w : List UInt8) : (toB w).size = w.length := by simp [toB, ByteArray.size]
theorem toB_eq {a b : List UInt8} : toB a = toB b ↔ a = b := ⟨fun h => by rw [← toB_data a, h, toB_data], fun h => by rw [h]⟩
theorem bs_toB (w : List UInt8) : bs w = toB w := rfl
theorem itoaB_toB (n : Int) : itoaB n = toB (Lib.itoa n) := rfl
theorem toB_of (s : ByteArray) : toB s.data.toList = s := rfl
theorem wordsB_toB (s : ByteArray) : wordsB s = (wordsL s.data.toList).map toB := rfl
theorem xjoin_is (ws : List (List UInt8)) (h1 : (joinL ws).length ≤ 140737488355328) (h2 : ws.length ≤ 140737488355328) : x_Join (ws.map toB) (bs [32]) = some (toB (joinL ws)) := by
  have e : (ws.map toB).map (·.data.toList) = ws := by
    rw [List.map_map]
    conv => rhs; rw [← List.map_id ws]
    congr 1
  unfold x_Join
  rw [e, bs_data, join_is, List.length_map, if_pos ⟨h1, h2⟩]; rfl
/-- a head and numbers -/
def numL (hd : List UInt8) (l : List Int) : List UInt8 := joinL (hd :: l.map Lib.itoa)
theorem numL_nil (hd : List UInt8) : numL hd [] = hd := rfl
theorem numL_snoc (hd : List UInt8) (l : List Int) (n : Int) : numL hd (l ++ [n]) = numL hd l ++ 32 :: Lib.itoa n := by
  unfold numL
  rw [List.map_append, ← List.cons_append]
  exact joinL_snoc _ _ (by simp)
theorem numL_len (hd : List UInt8) : ∀ (l : List Int), (∀ n ∈ l, In64 n) → (numL hd l).length ≤ hd.length + 21 * l.length := by
  intro l
  have h : ∀ (m : Nat) (l : List Int), l.length = m → (∀ n ∈ l, In64 n) → (numL hd l).length ≤ hd.length + 21 * l.length := by
    intro m
    induction m with
    | zero => intro l hl _; rw [List.length_eq_zero_iff.1 hl, numL_nil]; omega
    | succ m ih =>
      intro l hl hn
      have hne : l ≠ [] := by intro e; rw [e] at hl; cases hl
      rw [← List.dropLast_concat_getLast hne, numL_snoc]
      have := ih l.dropLast (by simp; omega) (fun n h => hn n (List.dropLast_subset l h))
      have h2 := itoa_len (hn _ (List.getLast_mem hne))
      simp at this h2 ⊢
      omega
  exact h l.length l rfl
theorem numL_words (hd : List UInt8) (l : List Int) (h : ∀ c ∈ hd, c ≠ 32) : wordsL (numL hd l) = hd :: l.map Lib.itoa := by
  refine words_join _ (by simp) fun w hw => ?_
  rcases List.mem_cons.1 hw with rfl | hw
  · exact h
  · obtain ⟨n, _, rfl⟩ := List.mem_map.1 hw
    exact itoa_no32 n
theorem joinL_words : ∀ l : List UInt8, joinL (wordsL l) = l
  | [] => rfl
  | c :: l => by
    have ih := joinL_words l
    rw [wordsL]
    by_cases h : c = 32
    · rw [if_pos h]
      cases hw : wordsL l with
      | nil => exact absurd hw (wordsL_ne l)
      | cons w ws => rw [hw] at ih; show [] ++ 32 :: joinL (w :: ws) = _; rw [ih, h]; rfl
    · rw [if_neg h]
      cases hw : wordsL l with
      | nil => exact absurd hw (wordsL_ne l)
      | cons w ws =>
        rw [hw] at ih
        cases ws with
        | nil => show c :: w = _; rw [show w = l from ih]
        | cons v vs => show (c :: w) ++ 32 :: joinL (v :: vs) = _; rw [← ih]; rfl
theorem numsG_back : ∀ (ws : List (List UInt8)) (acc r : List Int), numsG (ws.map toB) acc = (r, true) → ∃ l, r = acc ++ l ∧ ws = l.map Lib.itoa ∧ ∀ n ∈ l, In64 n
  | [], acc, r, h => by cases h; exact ⟨[], by simp, rfl, by simp⟩
  | w :: ws, acc, r, h => by
    rw [List.map_cons, numsG] at h
    split at h
    · rename_i hb
      obtain ⟨l, h1, h2, h3⟩ := numsG_back ws _ r h
      have hg := get_back (s := toB w) (x := (getN (toB w)).1) (by rw [← hb])
      refine ⟨(getN (toB w)).1 :: l, by simp [h1], by rw [List.map_cons, hg.2, toB_data, h2], fun n hn => ?_⟩
      rcases List.mem_cons.1 hn with rfl | hn
      · exact hg.1
      · exact h3 n hn
    · cases h
theorem numsG_toB (l : List Int) (h : ∀ n ∈ l, In64 n) : numsG ((l.map Lib.itoa).map toB) [] = (l, true) := by
  rw [List.map_map]
  exact (numsG_itoa l [] h).trans (by simp)
theorem cutL_one {α : Type} (l : List α) (m : Nat) : cutL l (m : Int) (l.length : Int) = l.drop m := by
  unfold cutL
  rw [Int.toNat_natCast, Int.toNat_natCast, List.take_of_length_le (by omega)]
/-! ### numbers, compared -/
theorem nums3_loop (k : Nat) (a b : List Int) (hl : a.length ≤ 1000000000) (hab : a.length = b.length) : ∀ (d i n : Nat), i + d = a.length → d < n →
    ref03_Nums.l0 k n a b (i : Int) = some (if a.drop i = b.drop i then .inr () else .inl false) := by
  intro d
  induction d with
  | zero =>
    intro i n hi hn
    obtain ⟨n, rfl⟩ : ∃ q, n = q + 1 := ⟨n - 1, by omega⟩
    simp only [ref03_Nums.l0]
    rw [if_neg (by simp; omega), List.drop_eq_nil_of_le (by omega), List.drop_eq_nil_of_le (by omega), if_pos rfl]
  | succ d ih =>
    intro i n hi hn
    obtain ⟨n, rfl⟩ : ∃ q, n = q + 1 := ⟨n - 1, by omega⟩
    simp only [ref03_Nums.l0]
    rw [if_pos (by simp; omega), if_pos (by omega), if_pos (by omega), rdT_nat, rdT_nat, getD_drop a i (Ty.dflt (.int .i64)) (by omega), getD_drop b i (Ty.dflt (.int .i64)) (by omega)]
    by_cases he : a.getD i (Ty.dflt (.int .i64)) = b.getD i (Ty.dflt (.int .i64))
    · rw [if_neg (by rw [he]; simp), w64n (by omega), ih (i + 1) n (by omega) (by omega), he]
      simp
    · rw [if_pos (by simpa using he)]
      rw [if_neg (by intro e; exact he (List.cons.inj e).1)]
theorem nums3_is {k : Nat} {a b : List Int} (hl : a.length ≤ 1000000000) (hl2 : b.length ≤ 1000000000) (hk : a.length < k) : ref03_Nums.f k a b = some (decide (a = b)) := by
  unfold ref03_Nums.f
  by_cases h : a.length = b.length
  · rw [if_neg (by simp [h]), show (0 : Int) = ((0 : Nat) : Int) from rfl, nums3_loop k a b hl h a.length 0 k (by omega) hk, List.drop_zero, List.drop_zero]
    by_cases e : a = b
    · rw [if_pos e, Option.bind_some, decide_eq_true e]
    · rw [if_neg e, Option.bind_some, decide_eq_false e]
  · rw [if_pos (by simp; omega), decide_eq_false (by intro e; rw [e] at h; exact h rfl)]
end Go.Proofs.YtpmnhbjbkoackaaDoor.En
