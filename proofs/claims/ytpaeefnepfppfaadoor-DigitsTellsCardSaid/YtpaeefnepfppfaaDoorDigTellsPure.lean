/- DigitsTells: what its printed function comes to is true. -/
import Derived.Test.YtpaeefnepfppfaaDoorDigPure
import Derived.Test.YtpaeefnepfppfaaDoorXd4
namespace Go.Proofs.YtpaeefnepfppfaaDoor.Xd
open Go Go.RowKit Go.Proofs.YtpaeefnepfppfaaDoor.Dig Go.Proofs.YtpaeefnepfppfaaDoorW.PrintWords Go.Proofs.YtpaeefnepfppfaaDoorW.PrintLast Go.Proofs.YtpaeefnepfppfaaDoorW.PrintMore
set_option linter.unusedVariables false
set_option linter.unusedSimpArgs false
theorem digitsTells_law (a0 : Int) (a1 : ByteArray) (h0 : (Lit.int .i64 a0).wf = true) (h1 : a1.size ≤ 140737488351232) : ∃ k, rifflelaw10_DigitsTells.f k a0 a1 = some true := by
  have hn := in64_wf h0
  have hs : a1.size ≤ 140737488355327 := by omega
  refine Ev.rounds ?_
  unfold rifflelaw10_DigitsTells.f
  rw [get_is a1 hs, read_is a1 hs, put_is a0 hn, high_is a0 hn, lives_is]
  simp only [Option.bind_some]
  refine Ev.bind (refGet_ev a1 hs) (Ev.bind (refRead_ev a1 hs) (Ev.bind (refPut_ev a0 hn) (Ev.congr (f := fun k => _) (fun k => by rw [if_pos rfl]) (Ev.bind (refHigh_ev a0 hn) (Ev.congr (f := fun k => some true) (fun k => ?_) (Ev.now _))))))
  rw [if_pos rfl, if_pos rfl, if_pos rfl, if_pos rfl]
  by_cases q : (getB a1).2 = true
  · by_cases q2 : (readB a1).2.2 = true
    · simp only [q, q2, if_true, if_false, Bool.false_eq_true]
    · simp only [q, q2, if_true, if_false, Bool.false_eq_true]
  · by_cases q2 : (readB a1).2.2 = true
    · simp only [q, q2, if_true, if_false, Bool.false_eq_true]
    · simp only [q, q2, if_true, if_false, Bool.false_eq_true]
end Go.Proofs.YtpaeefnepfppfaaDoor.Xd
