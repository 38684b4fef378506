/- A record's line and back, as the document has them: RecordLines. -/
import Derived.Test.YtpmnhbjbkoackaaDoorPRec
import Derived.Test.YtpmnhbjbkoackaaDoorPRef10
namespace Go.Proofs.YtpmnhbjbkoackaaDoor.En
open Go Go.RowKit Go.Proofs.YtpmnhbjbkoackaaDoor.Dig
set_option linter.unusedVariables false
set_option linter.unusedSimpArgs false
theorem refMayR_is (k : Nat) (r : Rc) : ref33_May.f k r = some (mayR r) := by
  obtain ⟨a, t, q, l⟩ := r
  unfold ref33_May.f mayR
  by_cases h1 : a = 1
  · subst h1; simp
  · by_cases h3 : a = 3
    · subst h3
      cases l with
      | nil => simp
      | cons x l => simp; omega
    · by_cases h2 : a = 2
      · subst h2
        by_cases hq : q = 0
        · cases l with
          | nil => simp [hq]
          | cons x l => simp [hq]; omega
        · cases l with
          | nil => simp [hq]
          | cons x l => simp [hq]
      · simp [h1, h2, h3]
theorem refRline_loop (k : Nat) (hk : 20 < k) (a b c : Int) (l : List Int) (hl : l.length ≤ 1000000) (hin : ∀ n ∈ l, In64 n) (hd : List UInt8) (hhd : hd.length ≤ 100) : ∀ (d i n : Nat) (s : ByteArray), i + d = l.length → s = toB (numL hd (l.take i)) → d < n →
    ref33_Line.l1 k n s (i : Int) a b c l = some (toB (numL hd l)) := by
  intro d
  induction d with
  | zero =>
    intro i n s hi hs hn
    obtain ⟨n, rfl⟩ : ∃ q, n = q + 1 := ⟨n - 1, by omega⟩
    simp only [ref33_Line.l1]
    rw [if_neg (by simp <;> omega), hs, List.take_of_length_le (by omega)]
  | succ d ih =>
    intro i n s hi hs hn
    obtain ⟨n, rfl⟩ : ∃ q, n = q + 1 := ⟨n - 1, by omega⟩
    have hlt : i < l.length := by omega
    have hmem : l.getD i (Ty.dflt (.int .i64)) ∈ l := by rw [List.getD_eq_getElem?_getD, List.getElem?_eq_getElem hlt]; exact List.getElem_mem hlt
    have hlen := numL_len hd (l.take i) (fun n hn => hin n (List.mem_of_mem_take hn))
    have hsz : s.size ≤ 21000200 := by rw [hs, toB_size]; simp at hlen; omega
    have hp := itoaB_size (hin _ hmem)
    simp only [ref33_Line.l1]
    rw [if_pos (by simp <;> omega), if_pos (by rw [bs_size]; simp; omega), if_pos (by omega), rdT_nat, refPut_is hk (hin _ hmem), Option.bind_some, if_pos (by rw [ByteArray.size_append, bs_size]; simp only [List.length_cons, List.length_nil]; omega), w64n (by omega)]
    refine ih (i + 1) n _ (by omega) ?_ (by omega)
    apply ba_ext
    rw [app_data, app_data, hs, toB_data, toB_data, List.take_succ_eq_append_getElem hlt, numL_snoc, itoaB_toB, toB_data, List.getD_eq_getElem?_getD, List.getElem?_eq_getElem hlt]
    simp [bs_data]
theorem refRline_is {k : Nat} {r : Rc} (hr : okRc r) (hk : r.2.2.2.length < k) (hk2 : 20 < k) : ref33_Line.f k r = some (lineR r) := by
  obtain ⟨a, t, q, l⟩ := r
  obtain ⟨ha, ht, hq, hl, hn⟩ := hr
  simp only at ha ht hq hl hn hk
  unfold ref33_Line.f lineR
  rw [refMayR_is, Option.bind_some]
  cases hm : mayR (a, t, q, l) with
  | false => rw [if_pos (by simp), if_neg (by simp)]
  | true =>
    rw [if_neg (by simp), if_pos rfl]
    have h3 : a = 1 ∨ a = 2 ∨ a = 3 := by unfold mayR at hm; simp at hm; omega
    have hx : rdT .str [(bs []), (bs [101, 32]), (bs [119, 32]), (bs [120, 32])] a = toB (sgnR a ++ [32]) := by rcases h3 with rfl | rfl | rfl <;> rfl
    have hpt := itoaB_size ht
    have hpq := itoaB_size hq
    have hit := itoa_len ht
    have hiq := itoa_len hq
    have hsl := sgnR_len a
    simp only
    rw [if_pos (by rcases h3 with rfl | rfl | rfl <;> decide), refPut_is hk2 ht, Option.bind_some, hx, if_pos (by rw [toB_size, List.length_append, hsl]; simp only [List.length_cons, List.length_nil]; omega)]
    unfold ref33_Line.j0
    by_cases h2 : a = 2
    · subst h2
      have hl0 : q = 0 ∧ l = [] := by unfold mayR at hm; simpa using hm
      obtain ⟨rfl, rfl⟩ := hl0
      rw [if_neg (by decide), Option.bind_some]
      simp only
      rw [show (0 : Int) = ((0 : Nat) : Int) from rfl, refRline_loop k hk2 2 t _ [] (by simp) (by simp) (sgnR 2 ++ 32 :: Lib.itoa t) (by simp [sgnR]; omega) 0 0 k _ (by simp) ?_ hk]
      · rfl
      · apply ba_ext; rw [app_data, List.take_zero, numL_nil, toB_data, toB_data, itoaB_toB, toB_data]; rfl
    · rw [if_pos (by simpa using h2), if_pos (by rw [ByteArray.size_append, toB_size, List.length_append, hsl, bs_size]; simp only [List.length_cons, List.length_nil]; omega), refPut_is hk2 hq, Option.bind_some, if_pos (by rw [ByteArray.size_append, ByteArray.size_append, toB_size, List.length_append, hsl, bs_size]; simp only [List.length_cons, List.length_nil]; omega), Option.bind_some]
      simp only
      rw [show (0 : Int) = ((0 : Nat) : Int) from rfl, refRline_loop k hk2 a t q l hn hl (sgnR a ++ 32 :: (Lib.itoa t ++ 32 :: Lib.itoa q)) (by simp [hsl]; omega) l.length 0 k _ (by omega) ?_ hk, Option.bind_some]
      · congr 2
        unfold numL numsR
        rw [if_neg h2]
        cases l with
        | nil => simp [joinL]
        | cons x l => simp [joinL]
      · apply ba_ext; rw [app_data, app_data, app_data, List.take_zero, numL_nil, toB_data, toB_data, itoaB_toB, itoaB_toB, toB_data, toB_data, bs_data]; simp
theorem eqB1 (w v : List UInt8) : ((toB w).toList == (bs v).toList) = decide (w = v) := by
  rw [ba_eqb, bs_toB]
  exact decide_eq_decide.2 toB_eq
theorem refRread_is {k : Nat} {s : ByteArray} (hs : s.size ≤ 1000000) (hk : s.size + 2 < k) (hk2 : 20 < k) : ref33_Read.f k s = some (readR s) := by
  have hsl := ba_len s
  have hlen := wordsL_len s.data.toList
  have hwl := wordsL_le s.data.toList
  unfold ref33_Read.f readR
  rw [rwords10_is hs (by omega), Option.bind_some, wordsB_toB]
  cases hw : wordsL s.data.toList with
  | nil => exact absurd hw (wordsL_ne _)
  | cons w ws =>
    rw [hw] at hlen hwl
    simp only [List.length_cons] at hlen
    have e1 : rdT .str ((w :: ws).map toB) (0 : Int) = toB w := rfl
    have hc : cutL ((w :: ws).map toB) (1 : Int) (((w :: ws).map toB).length : Int) = ws.map toB := cutL_one _ 1
    have hi : (0 : Int) ≤ 0 ∧ (0 : Int) < ((w :: ws).map toB).length := by simp <;> omega
    have hi1 : (0 : Int) ≤ 1 ∧ (1 : Int) ≤ (((w :: ws).map toB).length : Int) ∧ (((w :: ws).map toB).length : Int) ≤ (((w :: ws).map toB).length : Int) := by simp <;> omega
    have hnl := numsG_len (ws.map toB) []
    have hnum : ref10_Nums.f k (ws.map toB) = some (numsG (ws.map toB) []) := by
      refine rnums_is s.size (by simp; omega) (fun x hx => ?_) (by omega) (by omega) hk2 (by simp; omega)
      obtain ⟨y, hy, rfl⟩ := List.mem_map.1 hx
      rw [toB_size]
      have := hwl y (List.mem_cons_of_mem _ hy)
      omega
    unfold ref33_Read.j0 ref33_Read.j1 ref33_Read.j2 ref33_Read.j3
    simp only
    simp only [if_pos hi, e1, eqB1]
    have e2 : ∀ m : List Int, cutL m (2 : Int) (m.length : Int) = m.drop 2 := fun m => cutL_one m 2
    have fin : ∀ kd : Int, (kd = 0 ∧ w ≠ [101] ∧ w ≠ [119] ∧ w ≠ [120] ∨ kd = 1 ∧ w = [101] ∨ kd = 2 ∧ w = [119] ∨ kd = 3 ∧ w = [120]) →
        ((ref10_Nums.f k (ws.map toB)).bind fun y24 =>
        (if (kd == (2 : Int)) = true then some (kd, y24.1, y24.2, (1 : Int), (0 : Int), (0 : Int), (0 : Int), ([] : List Int)) else some (kd, y24.1, y24.2, (2 : Int), (0 : Int), (0 : Int), (0 : Int), ([] : List Int))).bind fun r33 =>
        if (r33.1 == (0 : Int)) = true then
          some (((0 : Int), (0 : Int), (0 : Int), ([] : List Int)), false)
        else
        if (!r33.2.2.1) = true then
          some (((0 : Int), (0 : Int), (0 : Int), ([] : List Int)), false)
        else
        if (decide ((List.length r33.2.1 : Int) < r33.2.2.2.1)) = true then
          some (((0 : Int), (0 : Int), (0 : Int), ([] : List Int)), false)
        else
        if (decide ((1 : Int) < r33.1)) = true then
          if (decide (r33.2.2.2.1 < (List.length r33.2.1 : Int))) = true then
            some (((0 : Int), (0 : Int), (0 : Int), ([] : List Int)), false)
          else
          if 0 ≤ (0 : Int) ∧ (0 : Int) < List.length r33.2.1 then
          if (r33.1 != (2 : Int)) = true then
            if 0 ≤ (1 : Int) ∧ (1 : Int) < List.length r33.2.1 then
            if 0 ≤ (2 : Int) ∧ (2 : Int) ≤ (List.length r33.2.1 : Int) ∧ (List.length r33.2.1 : Int) ≤ (List.length r33.2.1 : Int) then
            some ((r33.1, (rdT (.int .i64) r33.2.1 (0 : Int)), (rdT (.int .i64) r33.2.1 (1 : Int)), (cutL r33.2.1 (2 : Int) (List.length r33.2.1 : Int))), true)
            else none
            else none
          else
          some ((r33.1, (rdT (.int .i64) r33.2.1 (0 : Int)), (0 : Int), ([] : List Int)), true)
          else none
        else
        if 0 ≤ (0 : Int) ∧ (0 : Int) < List.length r33.2.1 then
        if (r33.1 != (2 : Int)) = true then
          if 0 ≤ (1 : Int) ∧ (1 : Int) < List.length r33.2.1 then
          if 0 ≤ (2 : Int) ∧ (2 : Int) ≤ (List.length r33.2.1 : Int) ∧ (List.length r33.2.1 : Int) ≤ (List.length r33.2.1 : Int) then
          some ((r33.1, (rdT (.int .i64) r33.2.1 (0 : Int)), (rdT (.int .i64) r33.2.1 (1 : Int)), (cutL r33.2.1 (2 : Int) (List.length r33.2.1 : Int))), true)
          else none
          else none
        else
        some ((r33.1, (rdT (.int .i64) r33.2.1 (0 : Int)), (0 : Int), ([] : List Int)), true)
        else none) = some (match numsG (ws.map toB) [] with
          | (n0 :: ns, true) => readN w n0 ns
          | _ => failR) := by
      intro kd hkd
      rw [hnum, Option.bind_some]
      rcases hq : numsG (ws.map toB) [] with ⟨r, ok⟩
      simp only
      have r0 : ∀ (a : Int) (l : List Int), rdT (.int .i64) (a :: l) (0 : Int) = a := fun _ _ => rfl
      have r1 : ∀ (a b : Int) (l : List Int), rdT (.int .i64) (a :: b :: l) (1 : Int) = b := fun _ _ _ => rfl
      have l2 : ∀ (a b : Int) (l : List Int), (a :: b :: l).drop 2 = l := fun _ _ _ => rfl
      simp only [e2]
      rcases hkd with ⟨rfl, w1, w2, w3⟩ | ⟨rfl, rfl⟩ | ⟨rfl, rfl⟩ | ⟨rfl, rfl⟩
      · rw [if_neg (by simp), Option.bind_some, if_pos (by simp)]
        cases ok with
        | false => cases r <;> rfl
        | true =>
          cases r with
          | nil => rfl
          | cons n0 ns => simp only [readN, if_neg w1, if_neg w2, if_neg w3]; rfl
      · rw [if_neg (by simp), Option.bind_some, if_neg (by simp)]
        cases ok with
        | false => rw [if_pos (by simp)]; cases r <;> rfl
        | true =>
          rw [if_neg (by simp)]
          rcases r with _ | ⟨n0, _ | ⟨q, vs⟩⟩
          · rfl
          · rfl
          · simp only [r0, r1, l2]
            rw [if_neg (by simp <;> omega), if_neg (by simp), if_pos (by simp <;> omega), if_pos (by simp), if_pos (by simp <;> omega), if_pos (by simp <;> omega)]; rfl
      · rw [if_pos (by simp), Option.bind_some, if_neg (by simp)]
        cases ok with
        | false => rw [if_pos (by simp)]; cases r <;> rfl
        | true =>
          rw [if_neg (by simp)]
          rcases r with _ | ⟨n0, _ | ⟨q, vs⟩⟩
          · rfl
          · rfl
          · rw [if_neg (by simp <;> omega), if_pos (by simp), if_pos (by simp <;> omega)]; rfl
      · rw [if_neg (by simp), Option.bind_some, if_neg (by simp)]
        cases ok with
        | false => rw [if_pos (by simp)]; cases r <;> rfl
        | true =>
          rw [if_neg (by simp)]
          rcases r with _ | ⟨n0, _ | ⟨q, _ | ⟨v, vs⟩⟩⟩
          · rfl
          · rfl
          · rfl
          · rw [if_neg (by simp <;> omega), if_pos (by simp), if_pos (by simp <;> omega)]; rfl
    by_cases w1 : w = [101]
    · subst w1
      rw [if_pos (by decide), Option.bind_some]
      simp only [if_pos hi, e1, eqB1]
      rw [if_neg (by decide), Option.bind_some]
      simp only [if_pos hi, e1, eqB1]
      rw [if_neg (by decide), Option.bind_some]
      simp only [if_pos hi1, hc]
      exact fin 1 (.inr (.inl ⟨rfl, rfl⟩))
    · rw [if_neg (by simpa using w1), Option.bind_some]
      simp only [if_pos hi, e1, eqB1]
      by_cases w2 : w = [119]
      · subst w2
        rw [if_pos (by decide), Option.bind_some]
        simp only [if_pos hi, e1, eqB1]
        rw [if_neg (by decide), Option.bind_some]
        simp only [if_pos hi1, hc]
        exact fin 2 (.inr (.inr (.inl ⟨rfl, rfl⟩)))
      · rw [if_neg (by simpa using w2), Option.bind_some]
        simp only [if_pos hi, e1, eqB1]
        by_cases w3 : w = [120]
        · subst w3
          rw [if_pos (by decide), Option.bind_some]
          simp only [if_pos hi1, hc]
          exact fin 3 (.inr (.inr (.inr ⟨rfl, rfl⟩)))
        · rw [if_neg (by simpa using w3), Option.bind_some]
          simp only [if_pos hi1, hc]
          exact fin 0 (.inl ⟨rfl, w1, w2, w3⟩)
theorem readN_len (w : List UInt8) (n0 : Int) (ns : List Int) : (readN w n0 ns).1.2.2.2.length ≤ ns.length := by
  unfold readN
  split
  · split <;> simp [failR]
  · split
    · split <;> simp [failR]
    · split
      · split <;> simp [failR]
      · simp [failR]
theorem readR_len (s : ByteArray) : (readR s).1.2.2.2.length ≤ s.size + 1 := by
  have hsl := ba_len s
  have hlen := wordsL_len s.data.toList
  unfold readR
  split
  · simp [failR]
  · rename_i w ws hw
    rw [hw] at hlen
    simp only [List.length_cons] at hlen
    have hnl := numsG_len (ws.map toB) []
    split
    · rename_i n0 ns hq
      rw [hq] at hnl
      simp only [List.length_cons, List.length_map, List.length_nil] at hnl
      have := readN_len w n0 ns
      omega
    · simp [failR]
theorem recordLines_law (r : Rc) (line : ByteArray) (hr : inRc r) : ∃ k, law33_RecordLines.f k r line = some true := by
  refine ⟨20000, ?_⟩
  obtain ⟨k, hk⟩ : ∃ k, k = 20000 := ⟨_, rfl⟩
  rw [← hk]
  unfold law33_RecordLines.f
  by_cases h1 : 200 < r.2.2.2.length
  · rw [if_pos (by simp <;> omega), lives33 (by omega), Option.bind_some]
  rw [if_neg (by simp <;> omega)]
  by_cases h2 : 3000 < line.size
  · rw [if_pos (by simp <;> omega), lives33 (by omega), Option.bind_some]
  rw [if_neg (by simp <;> omega)]
  have hok : okRc r := ⟨hr.1, hr.2.1, hr.2.2.1, hr.2.2.2, by omega⟩
  have hl := readR_len line
  rw [rread_is (by omega) (by omega), Option.bind_some, refRread_is (by omega) (by omega) (by omega), Option.bind_some, mayR_is, Option.bind_some, refMayR_is, Option.bind_some, if_pos (by simp), rline_is hok (by omega), Option.bind_some, refRline_is hok (by omega) (by omega), Option.bind_some, if_pos (by simp), sameR_is (by omega) (by omega) (by omega), Option.bind_some, if_pos (by simp), if_pos (by simp), lives33 (by omega), Option.bind_some]
theorem recordLines_wf (r : Ty.T RcTy) (line : Ty.T .str) (h : Wfd RcTy r) (hl : Wfd .str line) : ∃ k, law33_RecordLines.f k r line = some true := recordLines_law r line (inRc_of h)
end Go.Proofs.YtpmnhbjbkoackaaDoor.En
