/- What the printed functions of digits, and the document's, come to; no Go and no memory. -/
import Derived.Test.YtpaeefnepfppfaaDoorDigMath
import Derived.LaidSub
import Derived.Lib.LaidTab
import Derived.Test.YtpaeefnepfppfaaDoorXd1
import Derived.Test.YtpaeefnepfppfaaDoorXd2
import Derived.Test.YtpaeefnepfppfaaDoorXd3
namespace Go.Proofs.YtpaeefnepfppfaaDoor.Xd
open Go Go.RowKit Go.Proofs.YtpaeefnepfppfaaDoor.Dig Go.Proofs.YtpaeefnepfppfaaDoorW.PrintWords Go.Proofs.YtpaeefnepfppfaaDoorW.PrintLast Go.Proofs.YtpaeefnepfppfaaDoorW.PrintMore
set_option linter.unusedVariables false
set_option linter.unusedSimpArgs false
theorem w64 {x : Int} (h0 : -9223372036854775808 ≤ x) (h1 : x < 9223372036854775808) : wrap64 x = x := by unfold wrap64; omega
theorem ba_ext {a b : ByteArray} (h : a.data.toList = b.data.toList) : a = b := ByteArray.ext (Array.ext' h)
theorem bt_list (s : ByteArray) (j : Nat) (h : j < s.data.toList.length) : bt s j = ((s.data.toList[j]'h).toNat : Int) := by
  have e1 : ((j : Int)).toNat = j := rfl
  have hj : j < s.size := by simpa using h
  unfold bt
  rw [dif_pos (by rw [e1]; exact hj)]
  simp only [e1]
  rfl
/-! ### the document's digits -/
theorem tdiv10 {n : Int} (h : In64 n) : wrap64 (Int.tdiv n 10) = Int.tdiv n 10 ∧ In64 (Int.tdiv n 10) ∧ (Int.tdiv n 10).natAbs = n.natAbs / 10 := by
  have e : (Int.tdiv n 10).natAbs = n.natAbs / 10 := by rw [Int.natAbs_tdiv]; rfl
  have b : In64 (Int.tdiv n 10) := by obtain ⟨a, b⟩ := h; constructor <;> omega
  exact ⟨w64 b.1 (by have := b.2; omega), b, e⟩
theorem tmod10 (n : Int) : (Int.tmod n 10).natAbs = n.natAbs % 10 := by rw [Int.natAbs_tmod]; rfl
theorem str_dig (d : Nat) (h : d < 10) : strOfNums ([((48 + d : Nat) : Int) % 256] : List Int) = ⟨#[digB d]⟩ := by
  have : ((48 + d : Nat) : Int) % 256 = ((48 + d : Nat) : Int) := by omega
  rw [this]
  unfold strOfNums digB
  show (⟨#[UInt8.ofNat (((48 + d : Nat) : Int)).toNat]⟩ : ByteArray) = _
  rw [Int.toNat_natCast]
theorem digits_step (k : Nat) (n : Int) (h : In64 n) : riffleref10_digits.f (k + 1) n =
    if n.natAbs < 10 then some ⟨#[digB (n.natAbs % 10)]⟩ else (riffleref10_digits.f k (Int.tdiv n 10)).bind fun t => if t.size + 1 ≤ 9223372036854775807 then some (t ++ ⟨#[digB (n.natAbs % 10)]⟩) else none := by
  obtain ⟨e1, _, e3⟩ := tdiv10 h
  have e2 := tmod10 n
  have hz : (Int.tdiv n 10 = 0) ↔ n.natAbs < 10 := by omega
  have key : ∀ z : Int, z = ((48 + n.natAbs % 10 : Nat) : Int) → ((some (([z % 256] : List Int) : List Int)).bind fun y => (if (wrap64 (Int.tdiv n 10)) = 0 then (some (strOfNums y)) else ((riffleref10_digits.f k (wrap64 (Int.tdiv n 10))).bind fun t => (if t.size + (strOfNums y).size ≤ 9223372036854775807 then (some (t ++ (strOfNums y))) else (none))))) =
      if n.natAbs < 10 then some ⟨#[digB (n.natAbs % 10)]⟩ else (riffleref10_digits.f k (Int.tdiv n 10)).bind fun t => if t.size + 1 ≤ 9223372036854775807 then some (t ++ ⟨#[digB (n.natAbs % 10)]⟩) else none := by
    rintro z rfl
    rw [Option.bind_some, str_dig _ (by omega), e1]
    by_cases hq : n.natAbs < 10
    · rw [if_pos (hz.2 hq), if_pos hq]
    · rw [if_neg (fun e => hq (hz.1 e)), if_neg hq]; rfl
  show (if (Int.tmod n 10) < 0 then _ else _) = _
  by_cases hm : Int.tmod n 10 < 0
  · rw [if_pos hm]
    exact key _ (by rw [w64 (x := -(Int.tmod n 10)) (by omega) (by omega), w64 (by omega) (by omega)]; omega)
  · rw [if_neg hm]
    exact key _ (by rw [w64 (by omega) (by omega)]; omega)
theorem digits_ev : ∀ (m : Nat) (n : Int), n.natAbs = m → In64 n → Ev (fun k => riffleref10_digits.f k n) ⟨(dec n.natAbs).toArray⟩ := by
  intro m
  induction m using Nat.strongRecOn with
  | ind m ih =>
    intro n hn h
    obtain ⟨e1, e2, e3⟩ := tdiv10 h
    by_cases hs : n.natAbs < 10
    · refine Ev.step (f := fun _ => some ⟨(dec n.natAbs).toArray⟩) (fun k => ?_) (Ev.now _)
      rw [digits_step k n h, if_pos hs, dec_small hs, Nat.mod_eq_of_lt hs]
    · refine Ev.step (fun k => (digits_step k n h).trans (if_neg hs)) (Ev.bind (ih (n.natAbs / 10) (by omega) (Int.tdiv n 10) e3 e2) ?_)
      have hl := dec_len (u := n.natAbs) (k := 19) (by decide) (Nat.lt_of_le_of_lt (show n.natAbs ≤ 9223372036854775808 by obtain ⟨a, b⟩ := h; omega) (by decide))
      rw [dec_big hs, List.length_append] at hl
      refine Ev.congr (f := fun _ => some ⟨(dec n.natAbs).toArray⟩) (fun k => ?_) (Ev.now _)
      rw [if_pos ?_]
      · congr 1
        apply ba_ext
        rw [dec_big hs, e3]
        simp
      · rw [e3]
        show (dec (n.natAbs / 10)).toArray.size + 1 ≤ _
        rw [List.size_toArray]
        simp at hl
        omega
theorem refPut_ev (n : Int) (h : In64 n) : Ev (fun k => riffleref10_Put.f k n) ⟨(Lib.itoa n).toArray⟩ := by
  have hd := digits_ev _ n rfl h
  have hl := dec_len (u := n.natAbs) (k := 19) (by decide) (Nat.lt_of_le_of_lt (show n.natAbs ≤ 9223372036854775808 by obtain ⟨a, b⟩ := h; omega) (by decide))
  rw [itoa_data]
  by_cases h0 : n < 0
  · refine Ev.congr (fun k => by unfold riffleref10_Put.f; rw [if_pos h0]) (Ev.bind hd (Ev.congr (f := fun _ => _) (fun k => ?_) (Ev.now _)))
    rw [if_pos (by show 1 + (dec n.natAbs).toArray.size ≤ _; rw [List.size_toArray]; omega), if_pos h0]
    exact congrArg some (ba_ext (by simp))
  · refine Ev.congr (fun k => by unfold riffleref10_Put.f; rw [if_neg h0]) (Ev.bind hd (Ev.congr (f := fun _ => _) (fun k => ?_) (Ev.now _)))
    rw [if_neg h0]
/-- a number, written for a reader of this language -/
def highB (n : Int) : ByteArray := ⟨((if n < 0 then [194, 175] else []) ++ dec n.natAbs).toArray⟩
theorem refHigh_ev (n : Int) (h : In64 n) : Ev (fun k => riffleref10_High.f k n) (highB n) := by
  have hd := digits_ev _ n rfl h
  have hl := dec_len (u := n.natAbs) (k := 19) (by decide) (Nat.lt_of_le_of_lt (show n.natAbs ≤ 9223372036854775808 by obtain ⟨a, b⟩ := h; omega) (by decide))
  unfold highB
  by_cases h0 : n < 0
  · refine Ev.congr (fun k => by unfold riffleref10_High.f; rw [if_pos h0]) (Ev.bind hd (Ev.congr (f := fun _ => _) (fun k => ?_) (Ev.now _)))
    rw [if_pos (by show 2 + (dec n.natAbs).toArray.size ≤ _; rw [List.size_toArray]; omega), if_pos h0]
    exact congrArg some (ba_ext (by simp))
  · refine Ev.congr (fun k => by unfold riffleref10_High.f; rw [if_neg h0]) (Ev.bind hd (Ev.congr (f := fun _ => _) (fun k => ?_) (Ev.now _)))
    rw [if_neg h0]; rfl
theorem put_is (n : Int) (h : In64 n) : digits_Put.f n = some ⟨(Lib.itoa n).toArray⟩ := by
  unfold digits_Put.f strconv_FormatInt.f
  rw [if_pos ⟨rfl, h.1, h.2⟩]; rfl
theorem pre_one (c : UInt8) (l : List UInt8) : Lib.hasPrefix l [c] = true ↔ l.head? = some c := by
  unfold Lib.hasPrefix
  cases l with
  | nil => simp [List.isPrefixOf]
  | cons a l =>
    show ((c == a) && List.isPrefixOf [] l) = true ↔ some a = some c
    have e : List.isPrefixOf [] l = true := by cases l <;> rfl
    rw [e, Bool.and_true, beq_iff_eq, Option.some.injEq]
    exact ⟨Eq.symm, Eq.symm⟩
theorem itoa_pre (n : Int) : Lib.hasPrefix (Lib.itoa n) [45] = decide (n < 0) ∧ Lib.trimPrefix (Lib.itoa n) [45] = dec n.natAbs := by
  rw [itoa_data]
  by_cases h0 : n < 0
  · have hp : Lib.hasPrefix (45 :: dec n.natAbs) [45] = true := (pre_one _ _).2 rfl
    rw [if_pos h0, decide_eq_true h0]
    refine ⟨hp, ?_⟩
    unfold Lib.trimPrefix
    rw [if_pos hp]; rfl
  · have hp : Lib.hasPrefix (dec n.natAbs) [45] = false := by
      rw [Bool.eq_false_iff]
      intro e
      rw [pre_one] at e
      cases hd : dec n.natAbs with
      | nil => rw [hd] at e; simp at e
      | cons a l =>
        rw [hd] at e
        have := dec_dig n.natAbs a (by rw [hd]; exact List.mem_cons_self)
        rw [show a = 45 from Option.some.inj e] at this
        exact absurd this.1 (by decide)
    rw [if_neg h0, decide_eq_false h0]
    refine ⟨hp, ?_⟩
    unfold Lib.trimPrefix
    rw [hp, if_neg (by decide)]
theorem high_is (n : Int) (h : In64 n) : digits_High.f n = some (highB n) := by
  have hl := dec_len (u := n.natAbs) (k := 19) (by decide) (Nat.lt_of_le_of_lt (show n.natAbs ≤ 9223372036854775808 by obtain ⟨a, b⟩ := h; omega) (by decide))
  obtain ⟨h1, h2⟩ := itoa_pre n
  unfold digits_High.f strings_CutPrefix.f
  rw [put_is n h, Option.bind_some, Option.bind_some]
  simp only [h1, h2]
  unfold highB
  by_cases h0 : n < 0
  · rw [decide_eq_true h0, if_pos rfl, if_pos h0, if_pos (by show 2 + (dec n.natAbs).toArray.size ≤ _; rw [List.size_toArray]; omega)]
    exact congrArg some (ba_ext (by simp))
  · rw [decide_eq_false h0, if_neg (by decide), if_neg h0]; rfl
/-! ### how many digits a text begins with -/
theorem long_is (s : ByteArray) (h : s.size < 9223372036854775808) : digits_long.f s = some (lead s : Int) := by
  unfold digits_long.f
  rw [if_pos h, run_lead]
theorem isDig_bt (s : ByteArray) (i : Nat) (hi : i < s.data.toList.length) : isDig (s.data.toList[i]'hi) = true ↔ 48 ≤ bt s i ∧ bt s i ≤ 57 := by
  rw [bt_list s i hi, isDig_iff]; omega
theorem long_loop (s : ByteArray) (hs : s.size ≤ 9223372036854775807) : ∀ (d i : Nat), i + d = s.size → Ev (fun k => riffleref10_long.l0 k s (i : Int)) ((i + ((s.data.toList.drop i).takeWhile isDig).length : Nat) : Int) := by
  intro d
  induction d with
  | zero =>
    intro i hi
    rw [List.drop_eq_nil_of_le (by simp; omega)]
    refine Ev.step (f := fun _ => some ((i : Nat) : Int)) (fun k => ?_) (Ev.now _)
    simp only [riffleref10_long.l0]
    rw [if_neg (by omega)]
  | succ d ih =>
    intro i hi
    have hl : i < s.data.toList.length := by simp; omega
    rw [List.drop_eq_getElem_cons hl, List.takeWhile_cons]
    by_cases hd : isDig (s.data.toList[i]'hl) = true
    · rw [if_pos hd, List.length_cons]
      have hb := (isDig_bt s i hl).1 hd
      have ih' := ih (i + 1) (by omega)
      rw [show i + 1 + ((s.data.toList.drop (i + 1)).takeWhile isDig).length = i + (((s.data.toList.drop (i + 1)).takeWhile isDig).length + 1) by omega] at ih'
      refine Ev.step (f := fun k => riffleref10_long.l0 k s ((i + 1 : Nat) : Int)) (fun k => ?_) ih'
      simp only [riffleref10_long.l0]
      rw [if_pos (by omega), if_pos (by omega), if_pos hb.1, if_pos hb.2, w64 (by omega) (by omega)]; rfl
    · rw [if_neg hd]
      have hb : ¬ (48 ≤ bt s i ∧ bt s i ≤ 57) := fun e => hd ((isDig_bt s i hl).2 e)
      refine Ev.step (f := fun _ => some ((i : Nat) : Int)) (fun k => ?_) (Ev.now _)
      simp only [riffleref10_long.l0]
      rw [if_pos (by omega), if_pos (by omega)]
      by_cases h1 : bt s i ≥ 48
      · rw [if_pos h1, if_neg (by omega)]
      · rw [if_neg h1]
theorem refLong_ev (s : ByteArray) (hs : s.size ≤ 9223372036854775807) : Ev (fun k => riffleref10_long.f k s) (lead s : Int) := by
  have := long_loop s hs s.size 0 (by omega)
  simpa [lead, riffleref10_long.f] using this
/-! ### the document's value -/
/-- the number of the first digits, as the document counts it -/
def part (s : ByteArray) (b : Bool) (i : Nat) : Int := wrap64 ((if b then -1 else 1) * (valF (s.data.toList.take i) 0 : Int))
theorem wrap_step (b : Bool) (v d : Int) : wrap64 (wrap64 (10 * wrap64 ((if b then -1 else 1) * v)) + (if b then -1 else 1) * d) = wrap64 ((if b then -1 else 1) * (10 * v + d)) := by
  cases b with
  | true => simp only [if_true, wrap64]; omega
  | false => simp only [Bool.false_eq_true, if_false, wrap64]; omega
theorem value_end (s : ByteArray) (b : Bool) (hd : s.data.toList.all isDig = true) :
    Ev (fun k => (riffleref10_digits.f k (part s b s.size)).bind fun t => (if t.toList = s.toList then (if b = true then (if part s b s.size < 0 then (some (part s b s.size, true)) else (some (0, false))) else (if part s b s.size < 0 then (some (0, false)) else (some (part s b s.size, true)))) else (some (0, false)))) (valued s b) := by
  have hin : In64 (part s b s.size) := by unfold part wrap64 In64; omega
  refine Ev.bind (digits_ev _ _ rfl hin) ?_
  rw [Lib.toList_data, Lib.toList_data]
  rcases valued_spec hd b with ⟨n, h1, h2, h3, h4⟩ | ⟨h1, h2⟩
  · have hp : part s b s.size = n := by
      unfold part
      rw [List.take_of_length_le (by simp), h3, val_dec]
      obtain ⟨ha, hb⟩ := h1
      cases b with
      | true => have := of_decide_eq_true h2.symm; simp only [if_true]; rw [w64 (by omega) (by omega)]; omega
      | false => have := of_decide_eq_false h2.symm; simp only [Bool.false_eq_true, if_false]; rw [w64 (by omega) (by omega)]; omega
    rw [hp, h4]
    refine Ev.congr (f := fun _ => some (n, true)) (fun k => ?_) (Ev.now _)
    rw [if_pos (by rw [h3])]
    cases b with
    | true => rw [if_pos rfl, if_pos (of_decide_eq_true h2.symm)]
    | false => rw [if_neg (by decide), if_neg (of_decide_eq_false h2.symm)]
  · rw [h2]
    refine Ev.congr (f := fun _ => some ((0 : Int), false)) (fun k => ?_) (Ev.now _)
    by_cases q : (⟨(dec (part s b s.size).natAbs).toArray⟩ : ByteArray).data.toList = s.data.toList
    · rw [if_pos q]
      have q' : s.data.toList = dec (part s b s.size).natAbs := by rw [← q]
      cases b with
      | true =>
        rw [if_pos rfl]
        by_cases hz : part s true s.size < 0
        · exact absurd q' (h1 _ hin (decide_eq_true hz).symm)
        · rw [if_neg hz]
      | false =>
        rw [if_neg (by decide)]
        by_cases hz : part s false s.size < 0
        · rw [if_pos hz]
        · exact absurd q' (h1 _ hin (decide_eq_false hz).symm)
    · rw [if_neg q]
theorem value_loop (s : ByteArray) (b : Bool) (hs : s.size ≤ 9223372036854775807) (hd : s.data.toList.all isDig = true) : ∀ (d i : Nat), i + d = s.size → Ev (fun k => riffleref10_value.l0 k s b (part s b i) (i : Int)) (valued s b) := by
  intro d
  induction d with
  | zero =>
    intro i hi
    obtain rfl : i = s.size := by omega
    refine Ev.step (fun k => ?_) (value_end s b hd)
    simp only [riffleref10_value.l0]
    rw [if_neg (by omega)]
  | succ d ih =>
    intro i hi
    have hl : i < s.data.toList.length := by simp; omega
    have hb := (isDig_bt s i hl).1 (List.all_eq_true.1 hd _ (List.getElem_mem hl))
    have hv : valF (s.data.toList.take (i + 1)) 0 = 10 * valF (s.data.toList.take i) 0 + ((s.data.toList[i]'hl).toNat - 48) := by
      rw [List.take_succ_eq_append_getElem hl, valF_app]; rfl
    have hbt := bt_list s i hl
    have hv' : (valF (s.data.toList.take (i + 1)) 0 : Int) = 10 * (valF (s.data.toList.take i) 0 : Int) + (bt s i - 48) := by rw [hv, hbt]; omega
    have hm : (bt s i - 48) % 256 = bt s i - 48 := by omega
    have hp : part s b (i + 1) = wrap64 (wrap64 (10 * part s b i) + (if b then -1 else 1) * (bt s i - 48)) := by
      unfold part
      rw [wrap_step, hv']
    refine Ev.step (fun k => ?_) (ih (i + 1) (by omega))
    simp only [riffleref10_value.l0]
    rw [if_pos (by omega), if_pos (by omega), hm, w64 (x := (i : Int) + 1) (by omega) (by omega), hp]
    cases b with
    | true =>
      rw [if_pos rfl]
      congr 2
      simp only [if_true]
      congr 1
      omega
    | false =>
      rw [if_neg (by decide)]
      congr 2
      simp only [Bool.false_eq_true, if_false]
      congr 1
      omega
theorem refValue_ev (s : ByteArray) (b : Bool) (hs : s.size ≤ 9223372036854775807) (hd : s.data.toList.all isDig = true) : Ev (fun k => riffleref10_value.f k s b) (valued s b) := by
  have hlen : s.toList = [] ↔ s.size = 0 := by
    rw [Lib.toList_data, ← List.length_eq_zero_iff]; simp
  have bad_ : s.size = 0 ∨ 19 < s.size → valued s b = (0, false) := fun h => by
    rw [valued, if_pos]
    simp only [bad, Bool.or_eq_true, Bool.and_eq_true, decide_eq_true_eq, beq_iff_eq]
    exact .inl (.inl h)
  by_cases h0 : s.size = 0 ∨ 19 < s.size
  · rw [bad_ h0]
    refine Ev.congr (g := fun k => riffleref10_value.f k s b) (f := fun k => riffleref10_value.j0 k s b true) (fun k => ?_) (Ev.step (f := fun _ => some (0, false)) (fun k => ?_) (Ev.now _))
    · unfold riffleref10_value.f
      by_cases h : s.size = 0
      · rw [if_pos (hlen.2 h)]
      · rw [if_neg (fun e => h (hlen.1 e)), decide_eq_true (by omega)]
    · simp only [riffleref10_value.j0]
      rw [if_pos trivial]
  · have hl := value_loop s b hs hd s.size 0 (by omega)
    have hp0 : part s b 0 = 0 := by
      unfold part
      rw [List.take_zero]
      cases b <;> decide +kernel
    rw [hp0] at hl
    refine Ev.congr (g := fun k => riffleref10_value.f k s b) (f := fun k => riffleref10_value.j0 k s b false) (fun k => ?_) (Ev.step (f := fun k => riffleref10_value.l0 k s b 0 0) (fun k => ?_) hl)
    · unfold riffleref10_value.f
      rw [if_neg (fun e => h0 (.inl (hlen.1 e))), decide_eq_false (by omega)]
    · simp only [riffleref10_value.j0]
      rw [if_neg (by decide)]
/-! ### what a text is -/
def getB (s : ByteArray) : Int × Bool :=
  if lead ⟨(Lib.trimPrefix s.data.toList [45]).toArray⟩ = (Lib.trimPrefix s.data.toList [45]).length then valued ⟨(Lib.trimPrefix s.data.toList [45]).toArray⟩ (Lib.hasPrefix s.data.toList [45]) else (0, false)
theorem get_is (s : ByteArray) (hs : s.size ≤ 9223372036854775807) : digits_Get.f s = some (getB s) := by
  have hle := Lib.trimPrefix_le s.data.toList [45]
  have hsz : (⟨(Lib.trimPrefix s.data.toList [45]).toArray⟩ : ByteArray).size = (Lib.trimPrefix s.data.toList [45]).length := rfl
  have hll : s.data.toList.length = s.size := by simp
  unfold digits_Get.f strings_CutPrefix.f getB
  rw [Option.bind_some]
  simp only
  rw [long_is _ (by rw [hsz]; omega), Option.bind_some, hsz]
  by_cases h : lead ⟨(Lib.trimPrefix s.data.toList [45]).toArray⟩ = (Lib.trimPrefix s.data.toList [45]).length
  · rw [if_pos h, if_pos (by rw [h])]
    unfold digits_valued.f
    rw [if_pos (all_of_lead (h.trans hsz.symm))]; rfl
  · rw [if_neg h, if_neg (by omega)]
theorem refGet_j1 (r : ByteArray) (b : Bool) (hs : r.size ≤ 9223372036854775807) : Ev (fun k => riffleref10_Get.j1 k r b) (if lead r = r.size then valued r b else (0, false)) := by
  refine Ev.step (f := fun k => (riffleref10_long.f k r).bind fun t115 => (if t115 = (r.size : Int) then ((riffleref10_value.f k r b).bind fun bt116 => (some (bt116.1, bt116.2))) else (some (0, false)))) (fun k => by simp only [riffleref10_Get.j1]) (Ev.bind (refLong_ev r hs) ?_)
  by_cases h : lead r = r.size
  · rw [if_pos h]
    refine Ev.congr (fun k => if_pos (by rw [h])) (Ev.bind (refValue_ev r b hs (all_of_lead h)) (Ev.now _))
  · rw [if_neg h]
    exact Ev.congr (fun k => if_neg (by omega)) (Ev.now _)
theorem bt0_is (s : ByteArray) (c : UInt8) (h : 0 < s.size) : (bt s 0 == (c.toNat : Int)) = Lib.hasPrefix s.data.toList [c] := by
  have hl : 0 < s.data.toList.length := by simpa using h
  have e := bt_list s 0 hl
  have e0 : bt s ((0 : Nat) : Int) = bt s 0 := rfl
  rw [e0] at e
  rw [Bool.eq_iff_iff, beq_iff_eq, pre_one, e, List.head?_eq_getElem?, List.getElem?_eq_getElem hl, Option.some.injEq]
  exact ⟨fun q => UInt8.toNat_inj.mp (by omega), fun q => by rw [q]⟩
theorem refGet_ev (s : ByteArray) (hs : s.size ≤ 9223372036854775807) : Ev (fun k => riffleref10_Get.f k s) (getB s) := by
  have hll : s.data.toList.length = s.size := by simp
  have main : ∀ b, Lib.hasPrefix s.data.toList [45] = b → Ev (fun k => riffleref10_Get.j0 k s b) (getB s) := by
    intro b hb
    unfold getB Lib.trimPrefix
    rw [hb]
    cases b with
    | true =>
      have h1 : 1 ≤ s.size := by
        rw [pre_one] at hb
        cases hd : s.data.toList with
        | nil => rw [hd] at hb; simp at hb
        | cons a l => rw [hd] at hll; simp at hll; omega
      rw [if_pos (c := true = true) rfl]
      have e : s.extract 1 s.size = ⟨(s.data.toList.drop [(45 : UInt8)].length).toArray⟩ := by
        apply ba_ext
        rw [Lib.extract_data]
        simp
        rw [List.take_of_length_le (by simp)]
      have := refGet_j1 (s.extract 1 s.size) true (by rw [ByteArray.size_extract]; omega)
      rw [e] at this
      refine Ev.step (f := fun k => riffleref10_Get.j1 k (s.extract 1 s.size) true) (fun k => ?_) (by rw [e]; exact this)
      simp only [riffleref10_Get.j0]
      rw [if_pos trivial, if_pos (by omega)]
    | false =>
      rw [if_neg (c := false = true) (by decide)]
      have := refGet_j1 s false hs
      refine Ev.step (f := fun k => riffleref10_Get.j1 k s false) (fun k => ?_) (by simpa using this)
      simp only [riffleref10_Get.j0]
      rw [if_neg (by decide)]
  by_cases h0 : 0 < s.size
  · refine Ev.congr (fun k => ?_) (main _ rfl)
    unfold riffleref10_Get.f
    rw [if_pos (by omega), if_pos (by omega), ← bt0_is s 45 h0]; rfl
  · have hn : s.data.toList = [] := List.length_eq_zero_iff.1 (by omega)
    have hp : Lib.hasPrefix s.data.toList [45] = false := by rw [hn]; rfl
    refine Ev.congr (fun k => ?_) (main _ hp)
    unfold riffleref10_Get.f
    rw [if_neg (by omega)]
/-! ### what a text begins with -/
def cutR (s : ByteArray) : ByteArray × Bool :=
  if Lib.hasPrefix s.data.toList [194, 175] then (⟨(s.data.toList.drop 2).toArray⟩, true) else if Lib.hasPrefix s.data.toList [95] then (⟨(s.data.toList.drop 1).toArray⟩, true) else (s, false)
def readB (s : ByteArray) : Int × Int × Bool :=
  ((valued ((cutR s).1.extract 0 (lead (cutR s).1)) (cutR s).2).1, (s.size : Int) - ((cutR s).1.size : Int) + (lead (cutR s).1 : Int), (valued ((cutR s).1.extract 0 (lead (cutR s).1)) (cutR s).2).2)
theorem cutR_le (s : ByteArray) : (cutR s).1.size ≤ s.size := by
  unfold cutR
  split
  · show (s.data.toList.drop 2).toArray.size ≤ _
    simp
  · split
    · show (s.data.toList.drop 1).toArray.size ≤ _
      simp
    · exact Nat.le_refl _
theorem extract_all (s : ByteArray) : (s.extract 0 (lead s)).data.toList.all isDig = true := by
  rw [Lib.extract_data]
  simpa using take_lead_all s
theorem read_core (s r : ByteArray) (b : Bool) (hr : r.size ≤ s.size) (hs : s.size ≤ 140737488355327) :
    ((digits_long.f r).bind fun t => (if 0 ≤ t then (if t ≤ (r.size : Int) then ((digits_valued.f (r.extract 0 (t : Int).toNat) b).bind fun v => (some (v.1, wrap64 ((wrap64 ((s.size : Int) - (r.size : Int))) + t), v.2))) else (none)) else (none))) =
      some ((valued (r.extract 0 (lead r)) b).1, (s.size : Int) - (r.size : Int) + (lead r : Int), (valued (r.extract 0 (lead r)) b).2) := by
  have hl := lead_le r
  rw [long_is r (by omega), Option.bind_some, if_pos (by omega), if_pos (by omega), Int.toNat_natCast]
  unfold digits_valued.f
  rw [if_pos (extract_all r), Option.bind_some, w64 (x := (s.size : Int) - (r.size : Int)) (by omega) (by omega), w64 (by omega) (by omega)]
theorem cut_hit {s p : ByteArray} (h : Lib.hasPrefix s.data.toList p.data.toList = true) : strings_CutPrefix.f s p = some (⟨(s.data.toList.drop p.data.toList.length).toArray⟩, true) := by
  unfold strings_CutPrefix.f Lib.trimPrefix
  rw [h, if_pos rfl]
theorem cut_miss {s p : ByteArray} (h : Lib.hasPrefix s.data.toList p.data.toList = false) : strings_CutPrefix.f s p = some (s, false) := by
  have hid : (⟨s.data.toList.toArray⟩ : ByteArray) = s := ba_ext (by simp)
  unfold strings_CutPrefix.f Lib.trimPrefix
  rw [h, if_neg (by decide), hid]
theorem read_is (s : ByteArray) (hs : s.size ≤ 140737488355327) : digits_Read.f s = some (readB s) := by
  have hcut := cutR_le s
  unfold readB
  unfold digits_Read.f
  by_cases h2 : Lib.hasPrefix s.data.toList [194, 175] = true
  · have hc : cutR s = (⟨(s.data.toList.drop 2).toArray⟩, true) := by unfold cutR; rw [if_pos h2]
    rw [hc] at hcut ⊢
    rw [cut_hit (p := ⟨#[194, 175]⟩) h2, Option.bind_some]
    exact (if_pos rfl).trans (read_core s ⟨(s.data.toList.drop 2).toArray⟩ true hcut hs)
  · rw [cut_miss (p := ⟨#[194, 175]⟩) (by simpa using h2), Option.bind_some]
    refine (if_neg (by simp)).trans ?_
    by_cases h1 : Lib.hasPrefix s.data.toList [95] = true
    · have hc : cutR s = (⟨(s.data.toList.drop 1).toArray⟩, true) := by unfold cutR; rw [if_neg h2, if_pos h1]
      rw [hc] at hcut ⊢
      rw [cut_hit (p := ⟨#[95]⟩) h1, Option.bind_some]
      exact read_core s ⟨(s.data.toList.drop 1).toArray⟩ true hcut hs
    · have hc : cutR s = (s, false) := by unfold cutR; rw [if_neg h2, if_neg h1]
      rw [hc] at hcut ⊢
      rw [cut_miss (p := ⟨#[95]⟩) (by simpa using h1), Option.bind_some]
      exact read_core s s false hcut hs
theorem refRead_core (s : ByteArray) (x : Nat) (hx : x ≤ s.size) (hs : s.size ≤ 140737488355327) (b : Bool) (hb : b = decide ((x : Int) > 0)) (r : ByteArray) (hr : r = ⟨(s.data.toList.drop x).toArray⟩) :
    Ev (fun k => (riffleref10_long.f k (s.extract x s.size)).bind fun t => (if (x : Int) ≤ (wrap64 ((x : Int) + t)) then (if (wrap64 ((x : Int) + t)) ≤ (s.size : Int) then ((riffleref10_value.f k (s.extract x ((wrap64 ((x : Int) + t)) : Int).toNat) b).bind fun v => (some (v.1, wrap64 ((x : Int) + t), v.2))) else (none)) else (none)))
      ((valued (r.extract 0 (lead r)) b).1, (s.size : Int) - (r.size : Int) + (lead r : Int), (valued (r.extract 0 (lead r)) b).2) := by
  have er : s.extract x s.size = r := by
    rw [hr]
    apply ba_ext
    rw [Lib.extract_data]
    simp
    rw [List.take_of_length_le (by simp)]
  have hrs : r.size = s.size - x := by rw [← er, ByteArray.size_extract]; omega
  have hl := lead_le r
  rw [er]
  refine Ev.bind (refLong_ev r (by omega)) ?_
  have e2 : s.extract x (x + lead r) = r.extract 0 (lead r) := by
    conv => rhs; arg 1; rw [← er]
    rw [ByteArray.extract_extract]
    congr 1; omega
  have ew : wrap64 ((x : Int) + (lead r : Int)) = ((x + lead r : Nat) : Int) := by rw [w64 (by omega) (by omega)]; rfl
  refine Ev.congr (fun k => by rw [ew, if_pos (by omega), if_pos (by omega), Int.toNat_natCast, e2]) (Ev.bind (refValue_ev _ b (by rw [ByteArray.size_extract]; omega) (extract_all r)) (Ev.congr (f := fun _ => _) (fun k => ?_) (Ev.now _)))
  congr 3
  omega
theorem pre_two (a b : UInt8) (s : ByteArray) (h : 2 ≤ s.size) : ((s.extract 0 2).toList == ([a, b] : List UInt8)) = Lib.hasPrefix s.data.toList [a, b] := by
  rw [← Lib.hasPrefix_of_take, Lib.toList_data, Lib.extract_data]
  have hl : s.data.toList.length = s.size := by simp
  have h2 : [a, b].length ≤ s.data.toList.length := by rw [hl]; exact h
  rw [decide_eq_true h2, Bool.true_and, List.drop_zero]; rfl
theorem pre_len {l p : List UInt8} (h : Lib.hasPrefix l p = true) : p.length ≤ l.length := by
  rw [← Lib.hasPrefix_of_take, Bool.and_eq_true] at h
  exact of_decide_eq_true h.1
theorem refRead_ev (s : ByteArray) (hs : s.size ≤ 140737488355327) : Ev (fun k => riffleref10_Read.f k s) (readB s) := by
  have hll : s.data.toList.length = s.size := by simp
  -- from the second question on
  have j2 : ∀ x : Nat, x ≤ s.size → x ≤ 1 → (Lib.hasPrefix s.data.toList [194, 175] = false → cutR s = (⟨(s.data.toList.drop x).toArray⟩, decide ((x : Int) > 0))) → Ev (fun k => riffleref10_Read.j2 k s (x : Int) (Lib.hasPrefix s.data.toList [194, 175])) (readB s) := by
    intro x hx hx1 hc
    unfold readB
    by_cases h2 : Lib.hasPrefix s.data.toList [194, 175] = true
    · have hc : cutR s = (⟨(s.data.toList.drop 2).toArray⟩, true) := by unfold cutR; rw [if_pos h2]
      have h2s : 2 ≤ s.size := by have := pre_len h2; rw [hll] at this; exact this
      rw [hc, h2]
      refine Ev.step (fun k => ?_) (refRead_core s 2 h2s hs true rfl _ rfl)
      simp only [riffleref10_Read.j2]
      rw [if_pos trivial, if_pos (by omega)]; rfl
    · have h2' : Lib.hasPrefix s.data.toList [194, 175] = false := by simpa using h2
      rw [hc h2', h2']
      refine Ev.step (fun k => ?_) (refRead_core s x hx hs _ rfl _ rfl)
      simp only [riffleref10_Read.j2]
      rw [if_neg (by simp), if_pos (by omega), if_pos (by omega)]
      simp only [Int.toNat_natCast]
  have j1 : ∀ x : Nat, x ≤ s.size → x ≤ 1 → (Lib.hasPrefix s.data.toList [194, 175] = false → cutR s = (⟨(s.data.toList.drop x).toArray⟩, decide ((x : Int) > 0))) → Ev (fun k => riffleref10_Read.j1 k s (x : Int)) (readB s) := by
    intro x hx hx1 hc
    refine Ev.step (fun k => ?_) (j2 x hx hx1 hc)
    simp only [riffleref10_Read.j1]
    by_cases h2s : 2 ≤ s.size
    · rw [if_pos (by omega), if_pos (by omega), if_pos (by omega), pre_two _ _ s h2s]
    · rw [if_neg (by omega)]
      congr 1
      symm
      rw [Bool.eq_false_iff]
      intro h
      have := pre_len h
      rw [hll] at this
      exact h2s this
  have hid : (⟨(s.data.toList.drop 0).toArray⟩ : ByteArray) = s := ba_ext (by simp)
  have main : Ev (fun k => riffleref10_Read.j0 k s 0 (Lib.hasPrefix s.data.toList [95])) (readB s) := by
    by_cases h1 : Lib.hasPrefix s.data.toList [95] = true
    · have h1s : 1 ≤ s.size := by have := pre_len h1; rw [hll] at this; exact this
      rw [h1]
      refine Ev.step (fun k => ?_) (j1 1 h1s (Nat.le_refl _) (fun h2 => by unfold cutR; rw [h2, if_neg (by decide), if_pos h1]; rfl))
      simp only [riffleref10_Read.j0]
      rw [if_pos trivial]; rfl
    · have h1' : Lib.hasPrefix s.data.toList [95] = false := by simpa using h1
      rw [h1']
      refine Ev.step (fun k => ?_) (j1 0 (Nat.zero_le _) (by decide) (fun h2 => by unfold cutR; rw [h2, if_neg (by decide), if_neg h1, hid]; rfl))
      simp only [riffleref10_Read.j0]
      rw [if_neg (by simp)]; rfl
  refine Ev.congr (fun k => ?_) main
  unfold riffleref10_Read.f
  by_cases h0 : 0 < s.size
  · rw [if_pos (by omega), if_pos (by omega), ← bt0_is s 95 h0]; rfl
  · have hn : s.data.toList = [] := List.length_eq_zero_iff.1 (by omega)
    have hp : Lib.hasPrefix s.data.toList [95] = false := by rw [hn]; rfl
    rw [if_neg (by omega), hp]
/-! ### the example -/
theorem dec12 : Lib.decDigits 12 = [49, 50] := by
  show dec 12 = _
  rw [dec_big (by decide), dec_small (by decide)]; rfl
theorem lives_is : rifflelaw10_lives.f = some true := by
  have h1 : digits_Read.f (⟨#[95, 49, 50, 120]⟩ : ByteArray) = some (-12, 3, true) := by decide +kernel
  have h2 : digits_Read.f (⟨#[48, 48, 55]⟩ : ByteArray) = some (0, 3, false) := by decide +kernel
  have h3 : digits_High.f (-12) = some (⟨#[194, 175, 49, 50]⟩) := by
    rw [high_is (-12) (by constructor <;> decide)]
    unfold highB
    rw [if_pos (by decide)]
    show some (⟨([194, 175] ++ Lib.decDigits 12).toArray⟩ : ByteArray) = _
    rw [dec12]; rfl
  unfold rifflelaw10_lives.f
  rw [h1, Option.bind_some, h2, Option.bind_some, h3, Option.bind_some]
  decide +kernel
theorem in64_wf {n : Int} (h : (Lit.int .i64 n).wf = true) : In64 n := by
  simpa [In64, Lit.wf, IntKind.min, IntKind.max, IntKind.signed, IntKind.bits] using h
end Go.Proofs.YtpaeefnepfppfaaDoor.Xd
