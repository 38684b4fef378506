/- The words of a text and the numbers of words: DigitsWords: what its printed function comes to is true. -/
import Derived.Test.YtpaeefnepfppfaaDoorDigPure
import Derived.Lib.SplitLaws
import Derived.Test.YtpaeefnepfppfaaDoorXd5
import Derived.Test.YtpaeefnepfppfaaDoorXd6
namespace Go.Proofs.YtpaeefnepfppfaaDoor.Xd
open Go Go.RowKit Go.Proofs.YtpaeefnepfppfaaDoor.Dig Go.Proofs.YtpaeefnepfppfaaDoorW.PrintWords Go.Proofs.YtpaeefnepfppfaaDoorW.PrintLast Go.Proofs.YtpaeefnepfppfaaDoorW.PrintMore
set_option linter.unusedVariables false
set_option linter.unusedSimpArgs false
theorem app_data (a b : ByteArray) : (a ++ b).data.toList = a.data.toList ++ b.data.toList := by simp
/-! ### a text's words -/
def consW (c : UInt8) : List (List UInt8) → List (List UInt8)
  | [] => [[c]]
  | w :: ws => (c :: w) :: ws
def wordsL : List UInt8 → List (List UInt8)
  | [] => [[]]
  | c :: l => if c = 32 then [] :: wordsL l else consW c (wordsL l)
theorem wordsL_ne (l : List UInt8) : wordsL l ≠ [] := by
  cases l with
  | nil => simp [wordsL]
  | cons c l =>
    unfold wordsL
    split
    · simp
    · cases wordsL l <;> simp [consW]
theorem split_one : ∀ l : List UInt8, Lib.splitK [32] 0 (Lib.count l [32]) l = wordsL l
  | [] => by rw [Lib.count_one]; rfl
  | c :: l => by
    have ih := split_one l
    by_cases h : c = 32
    · subst h
      have hix : Lib.index ((32 : UInt8) :: l) [32] = 0 := by rw [Lib.index]; simp [List.isPrefixOf]
      rw [Lib.count_cons_eq, Nat.add_comm, Lib.splitK, hix, wordsL, if_pos rfl, ← ih]
      rw [if_neg (by decide)]; rfl
    · rw [Lib.count_cons_ne c 32 l h, wordsL, if_neg h, ← ih]
      have hp : ([32] : List UInt8).isPrefixOf (c :: l) = false := by simp [List.isPrefixOf, Ne.symm h]
      have hix : Lib.index (c :: l) [32] = if Lib.index l [32] == -1 then -1 else Lib.index l [32] + 1 := by rw [Lib.index, hp]; simp
      by_cases hm : Lib.index l [32] = -1
      · rw [Lib.count_miss hm]; rfl
      · have hge := Lib.index_ge l [32]
        obtain ⟨j, hj⟩ : ∃ j : Nat, Lib.index l [32] = j := ⟨(Lib.index l [32]).toNat, by omega⟩
        have hc := Lib.count_hit (s := l) (sub := [32]) (by simp) hj
        rw [hc, Nat.add_comm, Lib.splitK, Lib.splitK, hix, hj]
        rw [if_neg (c := ((j : Int) == -1) = true) (by simp), if_neg (by simp; omega)]
        have e1 : ((j : Int) + 1).toNat = j + 1 := by omega
        have e2 : ((j : Int)).toNat = j := by omega
        rw [e1, e2]; rfl
def stepW (ws : List (List UInt8)) (c : UInt8) : List (List UInt8) := if c = 32 then ws ++ [[]] else ws.set (ws.length - 1) (ws.getD (ws.length - 1) [] ++ [c])
theorem stepW_cons {ws : List (List UInt8)} (w : List UInt8) (c : UInt8) (h : ws ≠ []) : stepW (w :: ws) c = w :: stepW ws c := by
  unfold stepW
  cases ws with
  | nil => exact absurd rfl h
  | cons v ws =>
    split
    · rfl
    · simp
theorem stepW_consW {ws : List (List UInt8)} (d c : UInt8) (h : ws ≠ []) : stepW (consW d ws) c = consW d (stepW ws c) := by
  cases ws with
  | nil => exact absurd rfl h
  | cons v ws =>
    cases ws with
    | nil =>
      unfold stepW
      by_cases hc : c = 32
      · simp [hc, consW]
      · simp [hc, consW]
    | cons u ws =>
      have e : ∀ w, consW d (w :: u :: ws) = (d :: w) :: u :: ws := fun w => rfl
      rw [e, stepW_cons (ws := u :: ws) _ _ (by simp), stepW_cons (ws := u :: ws) _ _ (by simp)]; rfl
theorem wordsL_snoc : ∀ (l : List UInt8) (c : UInt8), wordsL (l ++ [c]) = stepW (wordsL l) c
  | [], c => by
    by_cases hc : c = 32
    · simp [wordsL, stepW, hc]
    · simp [wordsL, stepW, hc, consW]
  | d :: l, c => by
    have ih := wordsL_snoc l c
    rw [List.cons_append, wordsL, wordsL, ih]
    by_cases hd : d = 32
    · rw [if_pos hd, if_pos hd, stepW_cons _ _ (wordsL_ne l)]
    · rw [if_neg hd, if_neg hd, stepW_consW _ _ (wordsL_ne l)]
theorem wordsL_len : ∀ l : List UInt8, (wordsL l).length ≤ l.length + 1
  | [] => by simp [wordsL]
  | c :: l => by
    have ih := wordsL_len l
    unfold wordsL
    split
    · simp; omega
    · cases h : wordsL l with
      | nil => simp [consW]
      | cons w ws => rw [h] at ih; simp [consW] at ih ⊢; omega
theorem wordsL_le : ∀ (l : List UInt8), ∀ w ∈ wordsL l, w.length ≤ l.length
  | [], w, h => by simp [wordsL] at h; subst h; simp
  | c :: l, w, h => by
    have ih := wordsL_le l
    unfold wordsL at h
    split at h
    · rcases List.mem_cons.1 h with rfl | h
      · simp
      · have := ih w h; simp; omega
    · cases hl : wordsL l with
      | nil => exact absurd hl (wordsL_ne l)
      | cons v vs =>
        rw [hl] at h ih
        simp only [consW] at h
        rcases List.mem_cons.1 h with rfl | h
        · have := ih v List.mem_cons_self; simp; omega
        · have := ih w (List.mem_cons_of_mem _ h); simp; omega
/-- the words, as texts -/
def wordsB (s : ByteArray) : List ByteArray := (wordsL s.data.toList).map fun w => ⟨w.toArray⟩
theorem toB_inj : ∀ {a : List ByteArray} {b : List (List UInt8)}, a.map (·.data.toList) = b → a = b.map fun w => ⟨w.toArray⟩
  | [], b, h => by subst h; rfl
  | x :: a, b, h => by
    subst h
    rw [List.map_cons, List.map_cons, ← toB_inj (a := a) rfl]
theorem words_is (s : ByteArray) (hs : s.size < 4294967281) : digits_Words.f s = some (wordsB s) := by
  unfold digits_Words.f strings_Split.f
  rw [if_pos ⟨hs, by decide⟩, Option.bind_some]
  congr 1
  refine toB_inj ?_
  rw [Lib.splitB_data]
  exact split_one s.data.toList
theorem rdOf_nat {α : Type} (d : α) (l : List α) (i : Nat) : rdOf d l (i : Int) = l.getD i d := by unfold rdOf; rw [Int.toNat_natCast]
theorem rd_nat (l : List Int) (i : Nat) : rd l (i : Int) = l.getD i 0 := by unfold rd; rw [Int.toNat_natCast]
theorem words_loop (s : ByteArray) (hs : s.size ≤ 1000000) : ∀ (d i : Nat) (out : List ByteArray), i + d = s.size → out.map (·.data.toList) = wordsL (s.data.toList.take i) → Ev (fun k => riffleref10_Words.l0 k s out (i : Int)) (wordsB s) := by
  intro d
  induction d with
  | zero =>
    intro i out hi ho
    rw [List.take_of_length_le (by simp; omega)] at ho
    rw [toB_inj ho]
    refine Ev.step (f := fun _ => some (wordsB s)) (fun k => ?_) (Ev.now _)
    simp only [riffleref10_Words.l0]
    rw [if_neg (by omega)]; rfl
  | succ d ih =>
    intro i out hi ho
    have hl : i < s.data.toList.length := by simp; omega
    have hbt := bt_list s i hl
    have hlen : out.length ≤ i + 1 := by
      have := congrArg List.length ho
      rw [List.length_map] at this
      have h2 := wordsL_len (s.data.toList.take i)
      rw [List.length_take] at h2
      omega
    have hpos : 1 ≤ out.length := by
      have := congrArg List.length ho
      rw [List.length_map] at this
      have h2 : 0 < (wordsL (s.data.toList.take i)).length := List.length_pos_iff.2 (wordsL_ne _)
      omega
    have hsn : wordsL (s.data.toList.take (i + 1)) = stepW (wordsL (s.data.toList.take i)) (s.data.toList[i]'hl) := by rw [List.take_succ_eq_append_getElem hl, wordsL_snoc]
    have wl : wrap64 ((out.length : Int) - 1) = ((out.length - 1 : Nat) : Int) := by rw [w64 (by omega) (by omega)]; omega
    have wi : wrap64 ((i : Int) + 1) = ((i + 1 : Nat) : Int) := by rw [w64 (by omega) (by omega)]; rfl
    by_cases hc : s.data.toList[i]'hl = 32
    · have hb : bt s i = 32 := by rw [hbt, hc]; rfl
      refine Ev.step (fun k => ?_) (ih (i + 1) (out ++ [(⟨#[]⟩ : ByteArray)]) (by omega) ?_)
      · simp only [riffleref10_Words.l0]
        rw [if_pos (by omega), if_pos (by omega), if_pos hb, if_pos (by omega), wi]
      · rw [hsn, List.map_append, ho, stepW, if_pos hc]; rfl
    · have hb : ¬ bt s i = 32 := by
        rw [hbt]
        intro e
        exact hc (UInt8.toNat_inj.mp (by show _ = 32; omega))
      have hget : (out.getD (out.length - 1) ByteArray.empty).data.toList = (wordsL (s.data.toList.take i)).getD ((wordsL (s.data.toList.take i)).length - 1) [] := by
        rw [← ho, List.length_map, List.getD_eq_getElem?_getD, List.getD_eq_getElem?_getD, List.getElem?_map]
        rw [List.getElem?_eq_getElem (by omega)]; rfl
      have hsz : (out.getD (out.length - 1) ByteArray.empty).size ≤ i := by
        have e : (out.getD (out.length - 1) ByteArray.empty).size = (out.getD (out.length - 1) ByteArray.empty).data.toList.length := by simp
        rw [e, hget]
        have h2 : (wordsL (s.data.toList.take i)).length - 1 < (wordsL (s.data.toList.take i)).length := by
          have := List.length_pos_iff.2 (wordsL_ne (s.data.toList.take i)); omega
        rw [List.getD_eq_getElem?_getD, List.getElem?_eq_getElem h2]
        have := wordsL_le (s.data.toList.take i) _ (List.getElem_mem h2)
        rw [List.length_take] at this
        show ((wordsL (s.data.toList.take i))[(wordsL (s.data.toList.take i)).length - 1]'h2).length ≤ i
        omega
      refine Ev.step (fun k => ?_) (ih (i + 1) (out.set (out.length - 1) ((out.getD (out.length - 1) ByteArray.empty) ++ s.extract i (i + 1))) (by omega) ?_)
      · simp only [riffleref10_Words.l0]
        rw [if_pos (by omega), if_pos (by omega), if_neg hb, wl, if_pos (by omega), if_pos (by omega), wi, if_pos (by omega), if_pos (by omega), rdOf_nat]
        simp only [Int.toNat_natCast]
        rw [if_pos]
        rw [ByteArray.size_extract]; omega
      · rw [hsn, List.map_set, ho, stepW, if_neg hc]
        congr 1
        · have := congrArg List.length ho
          rw [List.length_map] at this
          rw [this]
        · rw [app_data, hget]
          congr 1
          rw [Lib.extract_data, List.drop_eq_getElem_cons hl, show i + 1 - i = 1 by omega]; rfl
theorem refWords_ev (s : ByteArray) (hs : s.size ≤ 1000000) : Ev (fun k => riffleref10_Words.f k s) (wordsB s) := by
  exact words_loop s hs s.size 0 [(⟨#[]⟩ : ByteArray)] (by omega) rfl
theorem same_loop (l : List ByteArray) (hl : l.length ≤ 1000000000) : ∀ (d i : Nat), i + d = l.length → Ev (fun k => riffleref10_Same.l0 k l l (i : Int)) true := by
  intro d
  induction d with
  | zero =>
    intro i hi
    refine Ev.step (f := fun _ => some true) (fun k => ?_) (Ev.now _)
    simp only [riffleref10_Same.l0]
    rw [if_neg (by omega)]
  | succ d ih =>
    intro i hi
    refine Ev.step (fun k => ?_) (ih (i + 1) (by omega))
    simp only [riffleref10_Same.l0]
    rw [if_pos (by omega), if_pos (by omega), if_pos (by omega), if_pos trivial, w64 (by omega) (by omega)]; rfl
theorem same_ev (l : List ByteArray) (hl : l.length ≤ 1000000000) : Ev (fun k => riffleref10_Same.f k l l) true := by
  refine Ev.congr (fun k => ?_) (same_loop l hl l.length 0 (by omega))
  unfold riffleref10_Same.f
  rw [if_pos rfl]; rfl
theorem nums_loop (l : List Int) (hl : l.length ≤ 1000000000) : ∀ (d i : Nat), i + d = l.length → Ev (fun k => riffleref03_Nums.l0 k l l (i : Int)) true := by
  intro d
  induction d with
  | zero =>
    intro i hi
    refine Ev.step (f := fun _ => some true) (fun k => ?_) (Ev.now _)
    simp only [riffleref03_Nums.l0]
    rw [if_neg (by omega)]
  | succ d ih =>
    intro i hi
    refine Ev.step (fun k => ?_) (ih (i + 1) (by omega))
    simp only [riffleref03_Nums.l0]
    rw [if_pos (by omega), if_pos (by omega), if_pos (by omega), if_pos trivial, w64 (by omega) (by omega)]; rfl
theorem nums3_ev (l : List Int) (hl : l.length ≤ 1000000000) : Ev (fun k => riffleref03_Nums.f k l l) true := by
  refine Ev.congr (fun k => ?_) (nums_loop l hl l.length 0 (by omega))
  unfold riffleref03_Nums.f
  rw [if_pos rfl]; rfl
/-! ### the numbers of words -/
def numsG : List ByteArray → List Int → List Int × Bool
  | [], acc => (acc, true)
  | w :: l, acc => if (getB w).2 = true then numsG l (acc ++ [(getB w).1]) else ([], false)
theorem numsG_len : ∀ (l : List ByteArray) (acc : List Int), (numsG l acc).1.length ≤ acc.length + l.length
  | [], acc => by simp [numsG]
  | w :: l, acc => by
    unfold numsG
    split
    · have := numsG_len l (acc ++ [(getB w).1]); simp at this ⊢; omega
    · simp
theorem getD_drop {α : Type} (l : List α) (i : Nat) (d : α) (h : i < l.length) : l.drop i = l.getD i d :: l.drop (i + 1) := by
  rw [List.drop_eq_getElem_cons h, List.getD_eq_getElem?_getD, List.getElem?_eq_getElem h]; rfl
theorem nums_is_loop (l : List ByteArray) (hl : l.length ≤ 1000000000) (hw : ∀ w ∈ l, w.size ≤ 9223372036854775807) : ∀ (d i : Nat) (acc : List Int), i + d = l.length → acc.length ≤ i → Ev (fun k => digits_Nums.l0 k acc l (l.length : Int) (i : Int)) (numsG (l.drop i) acc) := by
  intro d
  induction d with
  | zero =>
    intro i acc hi ha
    rw [List.drop_eq_nil_of_le (by omega)]
    refine Ev.step (f := fun _ => some (acc, true)) (fun k => ?_) (Ev.now _)
    simp only [digits_Nums.l0]
    rw [if_neg (by omega)]
  | succ d ih =>
    intro i acc hi ha
    have hlt : i < l.length := by omega
    have hmem : l.getD i ByteArray.empty ∈ l := by rw [List.getD_eq_getElem?_getD, List.getElem?_eq_getElem hlt]; exact List.getElem_mem hlt
    have hg := get_is (l.getD i ByteArray.empty) (hw _ hmem)
    rw [getD_drop l i ByteArray.empty hlt, numsG]
    by_cases hb : (getB (l.getD i ByteArray.empty)).2 = true
    · rw [if_pos hb]
      refine Ev.step (fun k => ?_) (ih (i + 1) (acc ++ [(getB (l.getD i ByteArray.empty)).1]) (by omega) (by simp; omega))
      simp only [digits_Nums.l0]
      rw [if_pos (by omega), if_pos (by omega), if_pos (by omega), rdOf_nat, hg, Option.bind_some, if_pos hb, if_pos (by omega), w64 (by omega) (by omega)]; rfl
    · rw [if_neg hb]
      refine Ev.step (f := fun _ => some (([] : List Int), false)) (fun k => ?_) (Ev.now _)
      simp only [digits_Nums.l0]
      rw [if_pos (by omega), if_pos (by omega), if_pos (by omega), rdOf_nat, hg, Option.bind_some, if_neg hb]
theorem nums_ev (l : List ByteArray) (hl : l.length ≤ 1000000000) (hw : ∀ w ∈ l, w.size ≤ 9223372036854775807) : Ev (fun k => digits_Nums.f k l) (numsG l []) := by
  have := nums_is_loop l hl hw l.length 0 [] (by omega) (by simp)
  exact this
theorem refNums_loop (l : List ByteArray) (hl : l.length ≤ 1000000000) (hw : ∀ w ∈ l, w.size ≤ 9223372036854775807) : ∀ (d i : Nat) (acc : List Int), i + d = l.length → acc.length ≤ i → Ev (fun k => riffleref10_Nums.l0 k l acc (i : Int)) (numsG (l.drop i) acc) := by
  intro d
  induction d with
  | zero =>
    intro i acc hi ha
    rw [List.drop_eq_nil_of_le (by omega)]
    refine Ev.step (f := fun _ => some (acc, true)) (fun k => ?_) (Ev.now _)
    simp only [riffleref10_Nums.l0]
    rw [if_neg (by omega)]
  | succ d ih =>
    intro i acc hi ha
    have hlt : i < l.length := by omega
    have hmem : l.getD i ByteArray.empty ∈ l := by rw [List.getD_eq_getElem?_getD, List.getElem?_eq_getElem hlt]; exact List.getElem_mem hlt
    have hg := refGet_ev (l.getD i ByteArray.empty) (hw _ hmem)
    rw [getD_drop l i ByteArray.empty hlt, numsG]
    refine Ev.step (f := fun k => (riffleref10_Get.f k (l.getD i ByteArray.empty)).bind fun b => (if b.2 = true then (if acc.length < 17592186044416 then (riffleref10_Nums.l0 k l (acc ++ [b.1]) ((i + 1 : Nat) : Int)) else (none)) else (some (([] : List Int), false)))) (fun k => ?_) (Ev.bind hg ?_)
    · simp only [riffleref10_Nums.l0]
      rw [if_pos (by omega), if_pos (by omega), rdOf_nat, w64 (by omega) (by omega)]; rfl
    · by_cases hb : (getB (l.getD i ByteArray.empty)).2 = true
      · rw [if_pos hb]
        refine Ev.congr (fun k => ?_) (ih (i + 1) (acc ++ [(getB (l.getD i ByteArray.empty)).1]) (by omega) (by simp; omega))
        rw [if_pos hb, if_pos (by omega)]
      · rw [if_neg hb]
        exact Ev.congr (fun k => if_neg hb) (Ev.now _)
theorem refNums_ev (l : List ByteArray) (hl : l.length ≤ 1000000000) (hw : ∀ w ∈ l, w.size ≤ 9223372036854775807) : Ev (fun k => riffleref10_Nums.f k l) (numsG l []) := by
  have := refNums_loop l hl hw l.length 0 [] (by omega) (by simp)
  exact this
theorem digitsWords_law (a0 : ByteArray) (l1 : List ByteArray) (h0 : a0.size ≤ 140737488351232) (h1 : l1.length ≤ maxLen) (h2 : ∀ x ∈ l1, x.size ≤ maxLen) : ∃ k, rifflelaw10_DigitsWords.f k a0 l1 = some true := by
  refine Ev.rounds ?_
  have yes : Ev (fun k => rifflelaw10_DigitsWords.j0 k a0 l1 true) true := by
    refine Ev.step (f := fun _ => some true) (fun k => ?_) (Ev.now _)
    simp only [rifflelaw10_DigitsWords.j0]
    rw [if_pos trivial, lives_is]; rfl
  by_cases hs : (a0.size : Int) > 2000
  · refine Ev.congr (fun k => ?_) yes
    unfold rifflelaw10_DigitsWords.f
    rw [if_pos hs]
  · by_cases hl : (l1.length : Int) > 300
    · refine Ev.congr (fun k => ?_) yes
      unfold rifflelaw10_DigitsWords.f
      rw [if_neg hs, decide_eq_true hl]
    · have e0 : ∀ k, rifflelaw10_DigitsWords.f k a0 l1 = rifflelaw10_DigitsWords.j0 k a0 l1 false := fun k => by
        unfold rifflelaw10_DigitsWords.f
        rw [if_neg hs, decide_eq_false hl]
      have hw : ∀ w ∈ l1, w.size ≤ 9223372036854775807 := fun w hw => by have := h2 w hw; unfold maxLen at this; omega
      have hws : (wordsB a0).length ≤ 1000000000 := by
        unfold wordsB
        rw [List.length_map]
        have := wordsL_len a0.data.toList
        have e : a0.data.toList.length = a0.size := by simp
        omega
      have hnl := numsG_len l1 []
      have e1 : ∀ k, rifflelaw10_DigitsWords.j0 (k + 1) a0 l1 false = (digits_Nums.f k l1).bind fun b1 => ((riffleref10_Nums.f k l1).bind fun b2 => ((riffleref10_Words.f k a0).bind fun t230 => ((riffleref10_Same.f k (wordsB a0) t230).bind fun t233 => (if t233 = true then ((riffleref03_Nums.f k b1.1 b2.1).bind fun t234 => (if t234 = true then (if b1.2 = true then (if b2.2 = true then some true else some false) else (if b2.2 = true then some false else some true)) else some false)) else some false)))) := fun k => by
        simp only [rifflelaw10_DigitsWords.j0]
        rw [if_neg (by simp), words_is a0 (by omega), lives_is]; rfl
      refine Ev.congr e0 (Ev.step e1 (Ev.bind (nums_ev l1 (by omega) hw) (Ev.bind (refNums_ev l1 (by omega) hw) (Ev.bind (refWords_ev a0 (by omega)) (Ev.bind (same_ev _ hws) (Ev.congr (fun k => if_pos rfl) (Ev.bind (nums3_ev (numsG l1 []).1 (by simp at hnl; omega)) (Ev.congr (f := fun _ => some true) (fun k => ?_) (Ev.now _)))))))))
      rw [if_pos rfl]
      by_cases q : (numsG l1 []).2 = true
      · simp only [q, if_true]
      · simp only [q, if_true, if_false, Bool.false_eq_true]
end Go.Proofs.YtpaeefnepfppfaaDoor.Xd
