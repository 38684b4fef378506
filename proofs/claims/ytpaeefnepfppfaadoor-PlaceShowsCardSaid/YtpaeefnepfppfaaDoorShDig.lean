/- A number, written: for PlaceShows: no Go and no memory. -/
import Derived.Test.YtpaeefnepfppfaaDoorShMath
import Derived.Test.YtpaeefnepfppfaaDoorShLines
import Derived.LaidSub
import Derived.Lib.LaidTab
namespace Go.Proofs.YtpaeefnepfppfaaDoor.Xs
open Go Go.RowKit Go.Proofs.YtpaeefnepfppfaaDoor.Dig Go.Proofs.YtpaeefnepfppfaaDoorW.PrintWords Go.Proofs.YtpaeefnepfppfaaDoorW.PrintLast Go.Proofs.YtpaeefnepfppfaaDoorW.PrintMore
set_option linter.unusedVariables false
set_option linter.unusedSimpArgs false
theorem ba_ext {a b : ByteArray} (h : a.data.toList = b.data.toList) : a = b := ByteArray.ext (Array.ext' h)
/-! ### the document's digits -/
theorem tdiv10 {n : Int} (h : In64 n) : wrap64 (Int.tdiv n 10) = Int.tdiv n 10 ∧ In64 (Int.tdiv n 10) ∧ (Int.tdiv n 10).natAbs = n.natAbs / 10 := by
  have e : (Int.tdiv n 10).natAbs = n.natAbs / 10 := by rw [Int.natAbs_tdiv]; rfl
  have b : In64 (Int.tdiv n 10) := by obtain ⟨a, b⟩ := h; constructor <;> omega
  exact ⟨w64 b.1 (by have := b.2; omega), b, e⟩
theorem tmod10 (n : Int) : (Int.tmod n 10).natAbs = n.natAbs % 10 := by rw [Int.natAbs_tmod]; rfl
theorem str_dig (d : Nat) (h : d < 10) : strOfNums ([((48 + d : Nat) : Int) % 256] : List Int) = ⟨#[digB d]⟩ := by
  have : ((48 + d : Nat) : Int) % 256 = ((48 + d : Nat) : Int) := by omega
  rw [this]
  unfold strOfNums digB
  show (⟨#[UInt8.ofNat (((48 + d : Nat) : Int)).toNat]⟩ : ByteArray) = _
  rw [Int.toNat_natCast]
theorem digits_step (k : Nat) (n : Int) (h : In64 n) : riffleref10_digits.f (k + 1) n =
    if n.natAbs < 10 then some ⟨#[digB (n.natAbs % 10)]⟩ else (riffleref10_digits.f k (Int.tdiv n 10)).bind fun t => if t.size + 1 ≤ 9223372036854775807 then some (t ++ ⟨#[digB (n.natAbs % 10)]⟩) else none := by
  obtain ⟨e1, _, e3⟩ := tdiv10 h
  have e2 := tmod10 n
  have hz : (Int.tdiv n 10 = 0) ↔ n.natAbs < 10 := by omega
  have key : ∀ z : Int, z = ((48 + n.natAbs % 10 : Nat) : Int) → ((some (([z % 256] : List Int) : List Int)).bind fun y => (if (wrap64 (Int.tdiv n 10)) = 0 then (some (strOfNums y)) else ((riffleref10_digits.f k (wrap64 (Int.tdiv n 10))).bind fun t => (if t.size + (strOfNums y).size ≤ 9223372036854775807 then (some (t ++ (strOfNums y))) else (none))))) =
      if n.natAbs < 10 then some ⟨#[digB (n.natAbs % 10)]⟩ else (riffleref10_digits.f k (Int.tdiv n 10)).bind fun t => if t.size + 1 ≤ 9223372036854775807 then some (t ++ ⟨#[digB (n.natAbs % 10)]⟩) else none := by
    rintro z rfl
    rw [Option.bind_some, str_dig _ (by omega), e1]
    by_cases hq : n.natAbs < 10
    · rw [if_pos (hz.2 hq), if_pos hq]
    · rw [if_neg (fun e => hq (hz.1 e)), if_neg hq]; rfl
  show (if (Int.tmod n 10) < 0 then _ else _) = _
  by_cases hm : Int.tmod n 10 < 0
  · rw [if_pos hm]
    exact key _ (by rw [w64 (x := -(Int.tmod n 10)) (by omega) (by omega), w64 (by omega) (by omega)]; omega)
  · rw [if_neg hm]
    exact key _ (by rw [w64 (by omega) (by omega)]; omega)
theorem digits_ev : ∀ (m : Nat) (n : Int), n.natAbs = m → In64 n → Ev (fun k => riffleref10_digits.f k n) ⟨(dec n.natAbs).toArray⟩ := by
  intro m
  induction m using Nat.strongRecOn with
  | ind m ih =>
    intro n hn h
    obtain ⟨e1, e2, e3⟩ := tdiv10 h
    by_cases hs : n.natAbs < 10
    · refine Ev.step (f := fun _ => some ⟨(dec n.natAbs).toArray⟩) (fun k => ?_) (Ev.now _)
      rw [digits_step k n h, if_pos hs, dec_small hs, Nat.mod_eq_of_lt hs]
    · refine Ev.step (fun k => (digits_step k n h).trans (if_neg hs)) (Ev.bind (ih (n.natAbs / 10) (by omega) (Int.tdiv n 10) e3 e2) ?_)
      have hl := dec_len (u := n.natAbs) (k := 19) (by decide) (Nat.lt_of_le_of_lt (show n.natAbs ≤ 9223372036854775808 by obtain ⟨a, b⟩ := h; omega) (by decide))
      rw [dec_big hs, List.length_append] at hl
      refine Ev.congr (f := fun _ => some ⟨(dec n.natAbs).toArray⟩) (fun k => ?_) (Ev.now _)
      rw [if_pos ?_]
      · congr 1
        apply ba_ext
        rw [dec_big hs, e3]
        simp
      · rw [e3]
        show (dec (n.natAbs / 10)).toArray.size + 1 ≤ _
        rw [List.size_toArray]
        simp at hl
        omega
theorem refPut_ev (n : Int) (h : In64 n) : Ev (fun k => riffleref10_Put.f k n) ⟨(Lib.itoa n).toArray⟩ := by
  have hd := digits_ev _ n rfl h
  have hl := dec_len (u := n.natAbs) (k := 19) (by decide) (Nat.lt_of_le_of_lt (show n.natAbs ≤ 9223372036854775808 by obtain ⟨a, b⟩ := h; omega) (by decide))
  rw [itoa_data]
  by_cases h0 : n < 0
  · refine Ev.congr (fun k => by unfold riffleref10_Put.f; rw [if_pos h0]) (Ev.bind hd (Ev.congr (f := fun _ => _) (fun k => ?_) (Ev.now _)))
    rw [if_pos (by show 1 + (dec n.natAbs).toArray.size ≤ _; rw [List.size_toArray]; omega), if_pos h0]
    exact congrArg some (ba_ext (by simp))
  · refine Ev.congr (fun k => by unfold riffleref10_Put.f; rw [if_neg h0]) (Ev.bind hd (Ev.congr (f := fun _ => _) (fun k => ?_) (Ev.now _)))
    rw [if_neg h0]
theorem put_is (n : Int) (h : In64 n) : digits_Put.f n = some ⟨(Lib.itoa n).toArray⟩ := by
  unfold digits_Put.f strconv_FormatInt.f
  rw [if_pos ⟨rfl, h.1, h.2⟩]; rfl
theorem in64_wf {n : Int} (h : (Lit.int .i64 n).wf = true) : In64 n := by
  simpa [In64, Lit.wf, IntKind.min, IntKind.max, IntKind.signed, IntKind.bits] using h
end Go.Proofs.YtpaeefnepfppfaaDoor.Xs
