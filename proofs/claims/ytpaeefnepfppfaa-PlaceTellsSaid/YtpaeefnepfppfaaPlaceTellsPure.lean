/- The law PlaceTells, of every text and any whole numbers: what the printed function comes to is true. -/
import Derived.Test.YtpaeefnepfppfaaPlaceLines
import Derived.Test.YtpaeefnepfppfaaXb5
namespace Go.Proofs.Ytpaeefnepfppfaa.Xb
open Go.RowKit Go.Proofs.YtpaeefnepfppfaaW.PrintWords Go.Proofs.YtpaeefnepfppfaaW.PrintLast Go.Proofs.YtpaeefnepfppfaaW.PrintMore
set_option linter.unusedVariables false
set_option linter.unusedSimpArgs false
theorem lives_ev2 : Ev (fun k => rifflelaw39_lives.f k) true := by
  have h := place_of (⟨#[120, 58, 10, 195, 151, 121]⟩ : ByteArray) (by decide) 5
  rw [show posA (⟨#[120, 58, 10, 195, 151, 121]⟩ : ByteArray) (upto (⟨#[120, 58, 10, 195, 151, 121]⟩ : ByteArray) 5) = (2, 2) by decide +kernel] at h
  exact Ev.bind h (Ev.now true)
theorem lives_bind2 : Ev (fun k => (rifflelaw39_lives.f k).bind fun t => some t) true := Ev.bind lives_ev2 (Ev.now true)
theorem place_tells (s : ByteArray) (a x0 x1 : Int) (hs : s.size ≤ 140737488351232) (ha : (Lit.int .i64 a).wf = true) (h0 : (Lit.int .i64 x0).wf = true) (h1 : (Lit.int .i64 x1).wf = true) : ∃ k, rifflelaw39_PlaceTells.f k s a x0 x1 = some true := by
  by_cases hbig : (s.size : Int) > 300
  · refine (Ev.congr (fun k => ?_) lives_bind2).rounds
    unfold rifflelaw39_PlaceTells.f
    rw [if_pos hbig]
  · have b0 : -9223372036854775808 ≤ x0 ∧ x0 ≤ 9223372036854775807 := by simpa [Lit.wf, IntKind.min, IntKind.max, IntKind.signed, IntKind.bits] using h0
    have b1 : -9223372036854775808 ≤ x1 ∧ x1 ≤ 9223372036854775807 := by simpa [Lit.wf, IntKind.min, IntKind.max, IntKind.signed, IntKind.bits] using h1
    have e1 := place_of s hs a
    have e2 := ref_of s hs a
    obtain ⟨n, ok, want, e3, e4, hn, hok⟩ := at_both s hs x0 x1 b1.2
    obtain ⟨t, is_, e5, hT⟩ := place_line s (by omega) x0
    obtain ⟨l, e6, hl⟩ := lines_all s (by omega)
    have hlen := hl.1
    refine Ev.rounds (g := fun k => rifflelaw39_PlaceTells.f k s a x0 x1) ?_
    refine Ev.congr (fun k => by unfold rifflelaw39_PlaceTells.f; rw [if_neg hbig]) ?_
    refine Ev.bind e1 ?_
    refine Ev.bind e2 ?_
    refine Ev.bind e3 ?_
    refine Ev.bind e4 ?_
    refine Ev.bind e5 ?_
    refine Ev.bind e6 ?_
    · refine Ev.congr (fun k => ?_) lives_bind2
      by_cases hx : x0 ≥ 1 ∧ x0 ≤ (l.length : Int)
      · have w : wrap64 (x0 - 1) = ((x0 - 1).toNat : Int) := by rw [w64 (by omega) (by omega)]; omega
        have hat := hl.at x0 hx.1 hx.2
        have ht : t.toList = (rdOf ByteArray.empty l (wrap64 (x0 - 1))).toList ∧ is_ = true := by
          rcases hT with ⟨i1, _, _, i4⟩ | ⟨_, _, i3⟩
          · refine ⟨?_, i1⟩
            rw [w, rdOf_nat, i4.one hat]
          · omega
        rw [if_pos hx.1, if_pos hx.2, if_pos (by omega), if_pos (by omega), if_pos rfl, if_pos rfl, if_pos hn, if_pos ht.1, if_pos ht.2]
        rw [hok]
        by_cases hw : want ≥ 0
        · rw [if_pos (by simpa using hw), if_pos hw]
        · rw [if_neg (by simpa using hw), if_neg hw]
      · have ht : t.toList = ([] : List UInt8) ∧ ¬ is_ = true := by
          rcases hT with ⟨_, i2, i3, _⟩ | ⟨i1, i2, _⟩
          · omega
          · rw [i1, i2]; exact ⟨by decide +kernel, by simp⟩
        by_cases hx1 : x0 ≥ 1
        · rw [if_pos hx1, if_neg (fun h => hx ⟨hx1, h⟩), if_pos rfl, if_pos rfl, if_pos hn, if_pos ht.1, if_neg ht.2, hok]
          by_cases hw : want ≥ 0
          · rw [if_pos (by simpa using hw), if_pos hw]
          · rw [if_neg (by simpa using hw), if_neg hw]
        · rw [if_neg hx1, if_pos rfl, if_pos rfl, if_pos hn, if_pos ht.1, if_neg ht.2, hok]
          by_cases hw : want ≥ 0
          · rw [if_pos (by simpa using hw), if_pos hw]
          · rw [if_neg (by simpa using hw), if_neg hw]
end Go.Proofs.Ytpaeefnepfppfaa.Xb
