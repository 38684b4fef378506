/- What the plain functions of digits, and the document's, come to. -/
import Derived.Test.YtpmnhbjbkoackaaDoorPMath
import Derived.Test.YtpmnhbjbkoackaaDoorFn0
namespace Go.Proofs.YtpmnhbjbkoackaaDoor.En
open Go Go.RowKit Go.Proofs.YtpmnhbjbkoackaaDoor.Dig
set_option linter.unusedVariables false
set_option linter.unusedSimpArgs false
theorem rdT_nat (τ : Ty) (l : List τ.T) (i : Nat) : rdT τ l (i : Int) = l.getD i τ.dflt := by unfold rdT; rw [Int.toNat_natCast]
theorem w64' {x : Int} (h0 : -9223372036854775808 ≤ x) (h1 : x ≤ 9223372036854775807) : wrap64 x = x := w64 h0 (by omega)
theorem w64n {i : Nat} (h : i < 9223372036854775807) : wrap64 ((i : Int) + 1) = ((i + 1 : Nat) : Int) := by rw [w64' (by omega) (by omega)]; rfl
theorem ba_size (l : List UInt8) : (⟨l.toArray⟩ : ByteArray).size = l.length := by simp [ByteArray.size]
theorem ba_list (s : ByteArray) : (⟨s.data.toList.toArray⟩ : ByteArray) = s := rfl
theorem ba_len (s : ByteArray) : s.data.toList.length = s.size := by simp
theorem toL (s : ByteArray) : s.toList = s.data.toList := Lib.toList_data s
theorem ba_eqb (a b : ByteArray) : (a.toList == b.toList) = decide (a = b) := by
  rw [toL, toL]
  by_cases h : a = b
  · subst h; simp
  · rw [decide_eq_false h, beq_eq_false_iff_ne]
    exact fun e => h (ba_ext e)
theorem ext_data (s : ByteArray) (a b : Nat) : (s.extract a b).data.toList = (s.data.toList.take b).drop a := by
  simp [ByteArray.data_extract, List.extract_eq_take_drop]
  rw [List.drop_take]
theorem bs_data (l : List UInt8) : (bs l).data.toList = l := rfl
theorem bs_size (l : List UInt8) : (bs l).size = l.length := rfl
/-! ### the document's digits -/
theorem tdiv10 {n : Int} (h : In64 n) : wrap64 (Int.tdiv n 10) = Int.tdiv n 10 ∧ In64 (Int.tdiv n 10) ∧ (Int.tdiv n 10).natAbs = n.natAbs / 10 := by
  have e : (Int.tdiv n 10).natAbs = n.natAbs / 10 := by rw [Int.natAbs_tdiv]; rfl
  have b : In64 (Int.tdiv n 10) := by obtain ⟨a, b⟩ := h; constructor <;> omega
  exact ⟨w64 b.1 (by have := b.2; omega), b, e⟩
theorem tmod10 (n : Int) : (Int.tmod n 10).natAbs = n.natAbs % 10 := by rw [Int.natAbs_tmod]; rfl
theorem str_dig (d : Nat) (h : d < 10) : strOfNums ([((48 + d : Nat) : Int) % 256] : List Int) = ⟨#[digB d]⟩ := by
  have : ((48 + d : Nat) : Int) % 256 = ((48 + d : Nat) : Int) := by omega
  rw [this]
  unfold strOfNums digB
  show (⟨#[UInt8.ofNat (((48 + d : Nat) : Int)).toNat]⟩ : ByteArray) = _
  rw [Int.toNat_natCast]
theorem digits_j0 (rf : Int → Option ByteArray) (k : Nat) (n : Int) : ref10_digits.j0 rf k n (n.tmod 10) = some (n, ((n.natAbs % 10 : Nat) : Int)) := by
  have e2 := tmod10 n
  unfold ref10_digits.j0
  by_cases hm : Int.tmod n 10 < 0
  · rw [if_pos (by simpa using hm), w64' (by omega) (by omega)]
    congr 2; omega
  · rw [if_neg (by simpa using hm)]
    congr 2; omega
theorem digits_is : ∀ (m k : Nat) (n : Int), m < k → In64 n → n.natAbs < 10 ^ (m + 1) → ref10_digits.f k n = some ⟨(dec n.natAbs).toArray⟩ := by
  intro m
  induction m with
  | zero =>
    intro k n hk h hn
    obtain ⟨k, rfl⟩ : ∃ q, k = q + 1 := ⟨k - 1, by omega⟩
    obtain ⟨e1, e2, e3⟩ := tdiv10 h
    have hn : n.natAbs < 10 := by simpa using hn
    unfold ref10_digits.f
    rw [if_pos (by decide), digits_j0, Option.bind_some, if_pos (by decide)]
    simp only [e1]
    rw [if_pos (by rw [beq_iff_eq]; omega), w64' (by omega) (by omega), show ((48 : Int) + ((n.natAbs % 10 : Nat) : Int)) = ((48 + n.natAbs % 10 : Nat) : Int) by omega, str_dig _ (by omega), dec_small hn, Nat.mod_eq_of_lt hn]
  | succ m ih =>
    intro k n hk h hn
    obtain ⟨k, rfl⟩ : ∃ q, k = q + 1 := ⟨k - 1, by omega⟩
    obtain ⟨e1, e2, e3⟩ := tdiv10 h
    have hw : wrap64 (48 + ((n.natAbs % 10 : Nat) : Int)) = ((48 + n.natAbs % 10 : Nat) : Int) := by rw [w64' (by omega) (by omega)]; omega
    unfold ref10_digits.f
    rw [if_pos (by decide), digits_j0, Option.bind_some, if_pos (by decide)]
    simp only [e1, hw]
    rw [str_dig _ (by omega)]
    by_cases hs : n.natAbs < 10
    · rw [if_pos (by rw [beq_iff_eq]; omega), dec_small hs, Nat.mod_eq_of_lt hs]
    · rw [if_neg (by rw [beq_iff_eq]; omega), if_pos (by decide), ih k _ (by omega) e2 (by rw [e3]; rw [Nat.pow_succ] at hn; omega), Option.bind_some]
      have hl := dec_len19 h
      rw [dec_big hs, List.length_append] at hl
      rw [e3, if_pos (by rw [ba_size]; show _ + 1 ≤ _; simp at hl; omega)]
      congr 1
      apply ba_ext
      rw [dec_big hs]
      simp
theorem refPut_is {k : Nat} {n : Int} (hk : 20 < k) (h : In64 n) : ref10_Put.f k n = some (itoaB n) := by
  have hd := digits_is 18 k n (by omega) h (by obtain ⟨a, b⟩ := h; omega)
  have hl := dec_len19 h
  unfold ref10_Put.f itoaB
  rw [hd, itoa_data]
  by_cases h0 : n < 0
  · rw [if_pos (by simpa using h0), Option.bind_some, if_pos (by show [(45 : UInt8)].length + (dec n.natAbs).toArray.size ≤ _; simp; omega), if_pos h0]
    exact congrArg some (ba_ext (by rw [app_data]; rfl))
  · rw [if_neg (by simpa using h0), Option.bind_some, if_neg h0]
theorem put_is (k : Nat) (n : Int) : digits_Put.f k n = some (itoaB n) := rfl
theorem itoaB_size {n : Int} (h : In64 n) : (itoaB n).size ≤ 20 := by unfold itoaB; rw [ba_size]; exact itoa_len h
theorem itoaB_ne (n : Int) : itoaB n ≠ bs [] := by
  intro e
  have h := congrArg (fun s : ByteArray => s.data.toList) e
  have : Lib.itoa n = [] := h
  rw [itoa_data] at this
  split at this
  · cases this
  · exact dec_ne _ this
/-! ### beginnings -/
theorem hasPre_is (k : Nat) (s p : ByteArray) : internal_stringslite_HasPrefix.f k s p = some (Lib.hasPrefix s.data.toList p.data.toList) := by
  unfold internal_stringslite_HasPrefix.f
  by_cases h : p.size ≤ s.size
  · rw [if_pos (by simpa using h), if_pos (by omega)]
    congr 1
    rw [toL, toL, ext_data]
    simp only [Int.toNat_natCast, show ((0 : Int)).toNat = 0 from rfl, List.drop_zero]
    unfold Lib.hasPrefix
    rw [Bool.eq_iff_iff, beq_iff_eq, List.isPrefixOf_iff_prefix, List.prefix_iff_eq_take, ba_len]
    exact ⟨Eq.symm, Eq.symm⟩
  · rw [if_neg (by simpa using h)]
    congr 1
    unfold Lib.hasPrefix
    rw [eq_comm, Bool.eq_false_iff]
    intro e
    rw [List.isPrefixOf_iff_prefix] at e
    have := e.length_le
    rw [ba_len, ba_len] at this
    exact h this
theorem cutPre_is (k : Nat) (s p : ByteArray) : strings_CutPrefix.f k s p = some (⟨(Lib.trimPrefix s.data.toList p.data.toList).toArray⟩, Lib.hasPrefix s.data.toList p.data.toList) := by
  unfold strings_CutPrefix.f internal_stringslite_CutPrefix.f
  rw [hasPre_is, Option.bind_some]
  unfold Lib.trimPrefix
  by_cases h : Lib.hasPrefix s.data.toList p.data.toList = true
  · have hle : p.size ≤ s.size := by
      unfold Lib.hasPrefix at h
      rw [List.isPrefixOf_iff_prefix] at h
      have := h.length_le
      rwa [ba_len, ba_len] at this
    rw [h, if_neg (by decide), if_pos (by omega), if_pos rfl, Option.bind_some]
    congr 2
    apply ba_ext
    rw [ext_data]
    simp only [Int.toNat_natCast]
    rw [List.take_of_length_le (by rw [ba_len]; omega), ba_len]
  · rw [Bool.not_eq_true] at h
    rw [h, if_pos (by decide), if_neg (by decide), Option.bind_some]
theorem cutPre45 (k : Nat) (s : ByteArray) : strings_CutPrefix.f k s (bs [45]) = some (⟨(Lib.trimPrefix s.data.toList [45]).toArray⟩, Lib.hasPrefix s.data.toList [45]) := cutPre_is k s (bs [45])
theorem long_is (s : ByteArray) : x_long s = some (lead s : Int) := by
  unfold x_long
  rw [run_lead]
theorem get_is (k : Nat) (s : ByteArray) : digits_Get.f k s = some (getN s) := by
  have hsz : (⟨(Lib.trimPrefix s.data.toList [45]).toArray⟩ : ByteArray).size = (Lib.trimPrefix s.data.toList [45]).length := rfl
  unfold digits_Get.f getN
  rw [cutPre45, Option.bind_some]
  dsimp only
  rw [long_is, Option.bind_some]
  by_cases h : lead ⟨(Lib.trimPrefix s.data.toList [45]).toArray⟩ = (Lib.trimPrefix s.data.toList [45]).length
  · rw [if_pos h, if_neg (by rw [h]; simp [hsz])]
    unfold x_valued
    rw [if_pos (all_of_lead (h.trans hsz.symm)), Option.bind_some]
  · rw [if_neg h, if_pos (by rw [bne_iff_ne, hsz]; omega)]
theorem words_is (k : Nat) (s : ByteArray) (hs : s.size < 4294967281) : digits_Words.f k s = some (wordsB s) := by
  unfold digits_Words.f x_Split
  rw [if_pos ⟨hs, by decide⟩, Option.bind_some]
  congr 1
  refine toB_inj ?_
  rw [Lib.splitB_data]
  exact split_one s.data.toList
theorem nums_loop (k : Nat) (l : List ByteArray) (hl : l.length ≤ 1000000000) : ∀ (d i n : Nat) (acc : List Int), i + d = l.length → acc.length ≤ i → d < n →
    digits_Nums.l0 k n acc l (l.length : Int) (i : Int) = some (if (numsG (l.drop i) acc).2 = true then .inr (numsG (l.drop i) acc).1 else .inl ([], false)) := by
  intro d
  induction d with
  | zero =>
    intro i n acc hi ha hn
    obtain ⟨n, rfl⟩ : ∃ q, n = q + 1 := ⟨n - 1, by omega⟩
    rw [List.drop_eq_nil_of_le (by omega)]
    simp only [digits_Nums.l0, numsG]
    rw [if_neg (by simp; omega)]; rfl
  | succ d ih =>
    intro i n acc hi ha hn
    obtain ⟨n, rfl⟩ : ∃ q, n = q + 1 := ⟨n - 1, by omega⟩
    have hlt : i < l.length := by omega
    simp only [digits_Nums.l0]
    rw [if_pos (by simp; omega), if_pos (by omega), rdT_nat, get_is, Option.bind_some, getD_drop l i (Ty.dflt .str) hlt, numsG]
    by_cases hb : (getN (l.getD i (Ty.dflt .str))).2 = true
    · rw [hb, if_neg (by decide), if_pos (by simp; omega), if_pos rfl, w64n (by omega), ih (i + 1) n _ (by omega) (by simp; omega) (by omega)]
    · rw [Bool.not_eq_true] at hb
      rw [hb, if_pos (by decide)]
      rfl
theorem nums_is {k : Nat} {l : List ByteArray} (hl : l.length ≤ 1000000000) (hk : l.length < k) : digits_Nums.f k l = some (numsG l []) := by
  unfold digits_Nums.f
  rw [show (0 : Int) = ((0 : Nat) : Int) from rfl, nums_loop k l hl l.length 0 k [] (by omega) (by simp) hk, List.drop_zero]
  have hf : ∀ (l : List ByteArray) (acc : List Int), (numsG l acc).2 = false → numsG l acc = ([], false) := by
    intro l
    induction l with
    | nil => intro acc h; simp [numsG] at h
    | cons w l ih =>
      intro acc h
      unfold numsG at h ⊢
      split at h
      · rename_i hb; rw [if_pos hb]; exact ih _ h
      · rename_i hb; rw [if_neg hb]
  cases hb : (numsG l []).2 with
  | true =>
    rw [if_pos rfl, Option.bind_some, ← hb]
  | false =>
    rw [if_neg (by decide), Option.bind_some, hf l [] hb]
end Go.Proofs.YtpmnhbjbkoackaaDoor.En
