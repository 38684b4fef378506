/- The document's digits and words: what the plain functions come to. -/
import Derived.Test.YtpmnhbjbkoackaaDoorPDig
namespace Go.Proofs.YtpmnhbjbkoackaaDoor.En
open Go Go.RowKit Go.Proofs.YtpmnhbjbkoackaaDoor.Dig
set_option linter.unusedVariables false
set_option linter.unusedSimpArgs false
theorem bt_list (s : ByteArray) (j : Nat) (h : j < s.data.toList.length) : byteAt s (j : Int) = ((s.data.toList[j]'h).toNat : Int) := by
  unfold byteAt
  rw [Int.toNat_natCast, List.getD_eq_getElem?_getD, List.getElem?_eq_getElem h]; rfl
theorem isDig_bt (s : ByteArray) (i : Nat) (hi : i < s.data.toList.length) : isDig (s.data.toList[i]'hi) = true ↔ 48 ≤ byteAt s i ∧ byteAt s i ≤ 57 := by
  rw [bt_list s i hi, isDig_iff]; omega
theorem rlong_loop (k : Nat) (s : ByteArray) (hs : s.size ≤ 9223372036854775806) : ∀ (d i n : Nat), i + d = s.size → d < n → ref10_long.l0 k n s (i : Int) = some ((i + ((s.data.toList.drop i).takeWhile isDig).length : Nat) : Int) := by
  intro d
  induction d with
  | zero =>
    intro i n hi hn
    obtain ⟨n, rfl⟩ : ∃ q, n = q + 1 := ⟨n - 1, by omega⟩
    rw [List.drop_eq_nil_of_le (by simp <;> omega)]
    simp only [ref10_long.l0]
    rw [if_neg (by simp <;> omega)]; rfl
  | succ d ih =>
    intro i n hi hn
    obtain ⟨n, rfl⟩ : ∃ q, n = q + 1 := ⟨n - 1, by omega⟩
    have hl : i < s.data.toList.length := by simp <;> omega
    rw [List.drop_eq_getElem_cons hl, List.takeWhile_cons]
    simp only [ref10_long.l0]
    rw [if_pos (by simp <;> omega), if_pos (by omega)]
    by_cases hd : isDig (s.data.toList[i]'hl) = true
    · have hb := (isDig_bt s i hl).1 hd
      rw [if_pos hd, List.length_cons, if_pos (by simpa using hb.1), if_pos (by omega), if_pos (by simpa using hb.2), w64n (by omega), ih (i + 1) n (by omega) (by omega)]
      congr 2; omega
    · have hb : ¬ (48 ≤ byteAt s i ∧ byteAt s i ≤ 57) := fun e => hd ((isDig_bt s i hl).2 e)
      rw [if_neg hd]
      by_cases h1 : 48 ≤ byteAt s i
      · rw [if_pos (by simpa using h1), if_pos (by omega), if_neg (by simp <;> omega)]; rfl
      · rw [if_neg (by simpa using h1)]; rfl
theorem rlong_is {k : Nat} {s : ByteArray} (hs : s.size ≤ 9223372036854775806) (hk : s.size < k) : ref10_long.f k s = some (lead s : Int) := by
  unfold ref10_long.f
  rw [show (0 : Int) = ((0 : Nat) : Int) from rfl, rlong_loop k s hs s.size 0 k (by omega) hk, Option.bind_some]
  simp [lead]
def part (s : ByteArray) (b : Bool) (i : Nat) : Int := wrap64 ((if b then -1 else 1) * (valF (s.data.toList.take i) 0 : Int))
theorem wrap_step (b : Bool) (v d : Int) : wrap64 (wrap64 (10 * wrap64 ((if b then -1 else 1) * v)) + (if b then -1 else 1) * d) = wrap64 ((if b then -1 else 1) * (10 * v + d)) := by
  cases b with
  | true => simp only [if_true, wrap64]; omega
  | false => simp only [Bool.false_eq_true, if_false, wrap64]; omega
theorem wrap_one (a d : Int) : wrap64 (wrap64 a + d) = wrap64 (a + d) := by unfold wrap64; omega
theorem value_loop (k : Nat) (s : ByteArray) (b : Bool) (hs : s.size ≤ 9223372036854775806) (hd : s.data.toList.all isDig = true) : ∀ (d i n : Nat), i + d = s.size → d < n → ref10_value.l0 k n s b (part s b i) (i : Int) = some (s, b, part s b s.size) := by
  intro d
  induction d with
  | zero =>
    intro i n hi hn
    obtain ⟨n, rfl⟩ : ∃ q, n = q + 1 := ⟨n - 1, by omega⟩
    obtain rfl : i = s.size := by omega
    simp only [ref10_value.l0]
    rw [if_neg (by simp)]
  | succ d ih =>
    intro i n hi hn
    obtain ⟨n, rfl⟩ : ∃ q, n = q + 1 := ⟨n - 1, by omega⟩
    have hl : i < s.data.toList.length := by simp <;> omega
    have hb := (isDig_bt s i hl).1 (List.all_eq_true.1 hd _ (List.getElem_mem hl))
    have hv : valF (s.data.toList.take (i + 1)) 0 = 10 * valF (s.data.toList.take i) 0 + ((s.data.toList[i]'hl).toNat - 48) := by
      rw [List.take_succ_eq_append_getElem hl, valF_app]; rfl
    have hbt := bt_list s i hl
    have hv' : (valF (s.data.toList.take (i + 1)) 0 : Int) = 10 * (valF (s.data.toList.take i) 0 : Int) + (byteAt s i - 48) := by rw [hv, hbt]; omega
    have hm : (byteAt s i - 48) % 256 = byteAt s i - 48 := by omega
    have hw : wrap64 (byteAt s i - 48) = byteAt s i - 48 := w64' (by omega) (by omega)
    have hp : part s b (i + 1) = wrap64 (wrap64 (10 * part s b i) + (if b then -1 else 1) * (byteAt s i - 48)) := by
      unfold part
      rw [wrap_step, hv']
    simp only [ref10_value.l0]
    rw [if_pos (by simp <;> omega), if_pos (by omega), hm, hw, w64n (by omega)]
    cases b with
    | true =>
      rw [if_pos rfl]
      rw [show wrap64 (wrap64 (10 * part s true i) - (byteAt s i - 48)) = part s true (i + 1) by rw [hp, if_pos rfl, Int.neg_mul, Int.one_mul, Int.sub_eq_add_neg]]
      exact ih (i + 1) n (by omega) (by omega)
    | false =>
      rw [if_neg (by decide)]
      rw [show wrap64 (wrap64 (10 * part s false i) + (byteAt s i - 48)) = part s false (i + 1) by rw [hp, if_neg (by decide), Int.one_mul]]
      exact ih (i + 1) n (by omega) (by omega)
theorem part_in (s : ByteArray) (b : Bool) (i : Nat) : In64 (part s b i) := by unfold part wrap64 In64; omega
theorem rvalue_is {k : Nat} {s : ByteArray} (b : Bool) (hk : s.size < k) (hk2 : 20 < k) (hd : s.data.toList.all isDig = true) : ref10_value.f k s b = some (valued s b) := by
  have hll := ba_len s
  have hlen : s = bs [] ↔ s.size = 0 := by
    constructor
    · rintro rfl; rfl
    · intro h
      apply ba_ext
      rw [bs_data, ← List.length_eq_zero_iff, hll, h]
  have bad_ : s.size = 0 ∨ 19 < s.size → valued s b = (0, false) := fun h => by
    rw [valued, if_pos]
    simp only [bad, Bool.or_eq_true, Bool.and_eq_true, decide_eq_true_eq, beq_iff_eq]
    exact .inl (.inl h)
  unfold ref10_value.f
  rw [ba_eqb]
  by_cases h0 : s.size = 0
  · rw [if_pos (by simpa using hlen.2 h0), bad_ (.inl h0)]
  rw [if_neg (by simpa using fun e => h0 (hlen.1 e))]
  by_cases h1 : 19 < s.size
  · rw [if_pos (by simp <;> omega), bad_ (.inr h1)]
  rw [if_neg (by simp <;> omega)]
  have hl := value_loop k s b (by omega) hd s.size 0 k (by omega) hk
  have hp0 : part s b 0 = 0 := by
    unfold part
    rw [List.take_zero]
    cases b <;> decide +kernel
  rw [hp0] at hl
  rw [show ((0 : Nat) : Int) = (0 : Int) from rfl] at hl
  rw [hl, Option.bind_some]
  have hin := part_in s b s.size
  have hdg := digits_is 18 k (part s b s.size) (by omega) hin (by obtain ⟨h1, h2⟩ := hin; omega)
  simp only
  rw [hdg, Option.bind_some, ba_eqb]
  have heq : ((⟨(dec (part s b s.size).natAbs).toArray⟩ : ByteArray) = s) ↔ dec (part s b s.size).natAbs = s.data.toList := by
    constructor
    · intro e; exact congrArg (fun x : ByteArray => x.data.toList) e
    · intro e; exact ba_ext e
  rcases valued_spec hd b with ⟨n, h1, h2, h3, h4⟩ | ⟨h1, h2⟩
  · have hp : part s b s.size = n := by
      unfold part
      rw [List.take_of_length_le (by simp), h3, val_dec]
      obtain ⟨ha, hb⟩ := h1
      cases b with
      | true => have := of_decide_eq_true h2.symm; simp only [if_true]; rw [w64 (by omega) (by omega)]; omega
      | false => have := of_decide_eq_false h2.symm; simp only [Bool.false_eq_true, if_false]; rw [w64 (by omega) (by omega)]; omega
    rw [hp] at heq ⊢
    rw [decide_eq_true (heq.2 h3.symm), if_neg (by decide), h4, h2, if_neg (by simp)]
  · rw [h2]
    by_cases q : dec (part s b s.size).natAbs = s.data.toList
    · rw [decide_eq_true (heq.2 q), if_neg (by decide)]
      have := fun e => h1 _ hin e q.symm
      rw [if_pos (by simpa using this)]
    · rw [decide_eq_false (fun e => q (heq.1 e)), if_pos (by decide)]
theorem rget_is {k : Nat} {s : ByteArray} (hs : s.size ≤ 9223372036854775806) (hk : s.size < k) (hk2 : 20 < k) : ref10_Get.f k s = some (getN s) := by
  have hll := ba_len s
  have main : ∀ (r : ByteArray) (b : Bool), r.size ≤ s.size → ((ref10_long.f k r).bind fun y7 => if (y7 != (r.size : Int)) = true then some ((0 : Int), false) else (ref10_value.f k r b).bind fun y8 => some (y8.1, y8.2)) = some (if lead r = r.size then valued r b else (0, false)) := by
    intro r b hr
    rw [rlong_is (by omega) (by omega), Option.bind_some]
    by_cases h : lead r = r.size
    · rw [if_neg (by rw [h]; simp), if_pos h, rvalue_is b (by omega) hk2 (all_of_lead h), Option.bind_some]
    · rw [if_pos (by simp <;> omega), if_neg h]
  unfold ref10_Get.f ref10_Get.j0 ref10_Get.j1 getN
  have h45 : Lib.hasPrefix s.data.toList [45] = (decide (0 < s.size) && (byteAt s 0 == 45)) := by
    rw [Bool.eq_iff_iff, pre_one, Bool.and_eq_true, decide_eq_true_iff, beq_iff_eq]
    cases hd : s.data.toList with
    | nil => rw [hd] at hll; simp at hll; simp; omega
    | cons a l =>
      have hl : 0 < s.data.toList.length := by rw [hd]; simp
      have e := bt_list s 0 hl
      simp only [hd, List.getElem_cons_zero] at e
      rw [hd] at hll; simp at hll
      rw [show byteAt s 0 = (a.toNat : Int) from e]
      simp only [List.head?_cons, Option.some.injEq]
      constructor
      · rintro rfl; exact ⟨by omega, rfl⟩
      · intro q; apply UInt8.toNat_inj.mp; have := q.2; show _ = 45; omega
  unfold Lib.trimPrefix
  rw [h45]
  by_cases h0 : 0 < s.size
  · rw [if_pos (by simp <;> omega), if_pos (by omega), Option.bind_some, decide_eq_true h0, Bool.true_and]
    simp only
    cases hb : (byteAt s 0 == 45) with
    | true =>
      simp only [if_true]
      rw [if_pos (by omega), Option.bind_some]
      simp only
      rw [main _ _ (by rw [ByteArray.size_extract]; omega)]
      have e : s.extract ((1 : Int)).toNat ((s.size : Int)).toNat = ⟨(s.data.toList.drop [(45 : UInt8)].length).toArray⟩ := by
        apply ba_ext
        rw [ext_data, Int.toNat_natCast, List.take_of_length_le (by omega)]
        rfl
      rw [e]; rfl
    | false =>
      simp only [Bool.false_eq_true, if_false]
      rw [Option.bind_some]
      simp only
      rw [main _ _ (by omega)]
      rw [ba_list, hll]
  · rw [if_neg (by rw [decide_eq_true_eq]; omega), Option.bind_some, decide_eq_false h0, Bool.false_and]
    simp only [Bool.false_eq_true, if_false]
    rw [Option.bind_some]
    simp only
    rw [main _ _ (by omega)]
    rw [ba_list, hll]
theorem rnums_loop (k : Nat) (l : List ByteArray) (m : Nat) (hl : l.length ≤ 1000000000) (hw : ∀ w ∈ l, w.size ≤ m) (hm : m ≤ 1000000000) (hk : m < k) (hk2 : 20 < k) : ∀ (d i n : Nat) (acc : List Int), i + d = l.length → acc.length ≤ i → d < n →
    ref10_Nums.l0 k n l acc (i : Int) = some (if (numsG (l.drop i) acc).2 = true then .inr (numsG (l.drop i) acc).1 else .inl ([], false)) := by
  intro d
  induction d with
  | zero =>
    intro i n acc hi ha hn
    obtain ⟨n, rfl⟩ : ∃ q, n = q + 1 := ⟨n - 1, by omega⟩
    rw [List.drop_eq_nil_of_le (by omega)]
    simp only [ref10_Nums.l0, numsG]
    rw [if_neg (by simp <;> omega)]; rfl
  | succ d ih =>
    intro i n acc hi ha hn
    obtain ⟨n, rfl⟩ : ∃ q, n = q + 1 := ⟨n - 1, by omega⟩
    have hlt : i < l.length := by omega
    have hmem : l.getD i (Ty.dflt .str) ∈ l := by rw [List.getD_eq_getElem?_getD, List.getElem?_eq_getElem hlt]; exact List.getElem_mem hlt
    have hsz := hw _ hmem
    simp only [ref10_Nums.l0]
    rw [if_pos (by simp <;> omega), if_pos (by omega), rdT_nat, rget_is (by omega) (by omega) hk2, Option.bind_some, getD_drop l i (Ty.dflt .str) hlt, numsG]
    by_cases hb : (getN (l.getD i (Ty.dflt .str))).2 = true
    · rw [hb, if_neg (by decide), if_pos (by simp <;> omega), if_pos rfl, w64n (by omega), ih (i + 1) n _ (by omega) (by simp <;> omega) (by omega)]
    · rw [Bool.not_eq_true] at hb
      rw [hb, if_pos (by decide)]
      rfl
theorem numsG_false : ∀ (l : List ByteArray) (acc : List Int), (numsG l acc).2 = false → numsG l acc = ([], false) := by
  intro l
  induction l with
  | nil => intro acc h; simp [numsG] at h
  | cons w l ih =>
    intro acc h
    unfold numsG at h ⊢
    split at h
    · rename_i hb; rw [if_pos hb]; exact ih _ h
    · rename_i hb; rw [if_neg hb]
theorem rnums_is {k : Nat} {l : List ByteArray} (m : Nat) (hl : l.length ≤ 1000000000) (hw : ∀ w ∈ l, w.size ≤ m) (hm : m ≤ 1000000000) (hk : m < k) (hk2 : 20 < k) (hk3 : l.length < k) : ref10_Nums.f k l = some (numsG l []) := by
  unfold ref10_Nums.f
  rw [show (0 : Int) = ((0 : Nat) : Int) from rfl, rnums_loop k l m hl hw hm hk hk2 l.length 0 k [] (by omega) (by simp) hk3, List.drop_zero]
  cases hb : (numsG l []).2 with
  | true => rw [if_pos rfl, Option.bind_some, ← hb]
  | false => rw [if_neg (by decide), Option.bind_some, numsG_false l [] hb]
theorem rwords10_loop (k : Nat) (s : ByteArray) (hs : s.size ≤ 1000000) : ∀ (d i n : Nat) (out : List ByteArray), i + d = s.size → out.map (·.data.toList) = wordsL (s.data.toList.take i) → d < n → ref10_Words.l0 k n s (i : Int) out = some (wordsB s) := by
  intro d
  induction d with
  | zero =>
    intro i n out hi ho hn
    obtain ⟨n, rfl⟩ : ∃ q, n = q + 1 := ⟨n - 1, by omega⟩
    rw [List.take_of_length_le (by simp <;> omega)] at ho
    rw [toB_inj ho]
    simp only [ref10_Words.l0]
    rw [if_neg (by simp <;> omega)]; rfl
  | succ d ih =>
    intro i n out hi ho hn
    obtain ⟨n, rfl⟩ : ∃ q, n = q + 1 := ⟨n - 1, by omega⟩
    have hl : i < s.data.toList.length := by simp <;> omega
    have hbt := bt_list s i hl
    have hlen : out.length ≤ i + 1 := by
      have := congrArg List.length ho
      rw [List.length_map] at this
      have h2 := wordsL_len (s.data.toList.take i)
      rw [List.length_take] at h2
      omega
    have hpos : 1 ≤ out.length := by
      have := congrArg List.length ho
      rw [List.length_map] at this
      have h2 : 0 < (wordsL (s.data.toList.take i)).length := List.length_pos_iff.2 (wordsL_ne _)
      omega
    have hsn : wordsL (s.data.toList.take (i + 1)) = stepW (wordsL (s.data.toList.take i)) (s.data.toList[i]'hl) := by rw [List.take_succ_eq_append_getElem hl, wordsL_snoc]
    simp only [ref10_Words.l0]
    rw [if_pos (by simp <;> omega), if_pos (by omega)]
    by_cases hc : s.data.toList[i]'hl = 32
    · have hb : byteAt s i = 32 := by rw [hbt, hc]; rfl
      rw [if_pos (by simpa using hb), if_pos (by simp <;> omega), w64n (by omega)]
      refine ih (i + 1) n (out ++ [bs []]) (by omega) ?_ (by omega)
      rw [hsn, List.map_append, ho, stepW, if_pos hc]; rfl
    · have hb : ¬ byteAt s i = 32 := by
        rw [hbt]
        intro e
        exact hc (UInt8.toNat_inj.mp (by show _ = 32; omega))
      have hget : (out.getD (out.length - 1) (Ty.dflt .str)).data.toList = (wordsL (s.data.toList.take i)).getD ((wordsL (s.data.toList.take i)).length - 1) [] := by
        rw [← ho, List.length_map, List.getD_eq_getElem?_getD, List.getD_eq_getElem?_getD, List.getElem?_map]
        rw [List.getElem?_eq_getElem (by omega)]; rfl
      have hsz : (out.getD (out.length - 1) (Ty.dflt .str)).size ≤ i := by
        rw [← ba_len, hget]
        have h2 : (wordsL (s.data.toList.take i)).length - 1 < (wordsL (s.data.toList.take i)).length := by
          have := List.length_pos_iff.2 (wordsL_ne (s.data.toList.take i)); omega
        rw [List.getD_eq_getElem?_getD, List.getElem?_eq_getElem h2]
        have := wordsL_le (s.data.toList.take i) _ (List.getElem_mem h2)
        rw [List.length_take] at this
        show ((wordsL (s.data.toList.take i))[(wordsL (s.data.toList.take i)).length - 1]'h2).length ≤ i
        omega
      rw [if_neg (by simpa using hb), show wrap64 ((out.length : Int) - 1) = ((out.length - 1 : Nat) : Int) by (rw [w64 (by omega) (by omega)]; omega), w64n (by omega), if_pos (by omega), if_pos (by omega)]
      simp only [Int.toNat_natCast]
      rw [if_pos (by rw [ByteArray.size_extract]; omega), if_pos (by omega)]
      refine ih (i + 1) n _ (by omega) ?_ (by omega)
      rw [hsn, List.map_set, ho, stepW, if_neg hc]
      congr 1
      · have := congrArg List.length ho
        rw [List.length_map] at this
        rw [this]
      · rw [app_data, hget]
        congr 1
        rw [ext_data, List.take_succ_eq_append_getElem hl, List.drop_append_of_le_length (by rw [List.length_take]; omega), List.drop_eq_nil_of_le (by rw [List.length_take]; omega)]
        rfl
theorem rwords10_is {k : Nat} {s : ByteArray} (hs : s.size ≤ 1000000) (hk : s.size < k) : ref10_Words.f k s = some (wordsB s) := by
  unfold ref10_Words.f
  rw [show (0 : Int) = ((0 : Nat) : Int) from rfl, rwords10_loop k s hs s.size 0 k [bs []] (by omega) rfl hk]; rfl
end Go.Proofs.YtpmnhbjbkoackaaDoor.En
