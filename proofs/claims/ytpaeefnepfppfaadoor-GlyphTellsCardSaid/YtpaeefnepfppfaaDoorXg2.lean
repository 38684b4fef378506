-- Printed by a driver of this session around the kit's print (wip/tools/xprint.py): functions and contracts.
import Derived.Test.YtpaeefnepfppfaaDoorXg0
import Derived.Test.YtpaeefnepfppfaaDoorXg1
namespace Go.Proofs.YtpaeefnepfppfaaDoor.Xg
open Go.RowKit Go.Proofs.YtpaeefnepfppfaaDoorW.PrintWords Go.Proofs.YtpaeefnepfppfaaDoorW.PrintLast Go.Proofs.YtpaeefnepfppfaaDoorW.PrintMore
attribute [local go_sem] max2_int min2_int max_two min_two max_three min_three max_four min_four   -- for this text's walks alone
set_option linter.unusedVariables false
set_option linter.unusedSimpArgs false

/-! ### riffleref02_Signs: function 47 -/
def riffleref02_Signs.f  : Option (List ByteArray) := some (([(⟨#[]⟩ : ByteArray), (⟨#[43]⟩ : ByteArray), (⟨#[45]⟩ : ByteArray), (⟨#[195, 151]⟩ : ByteArray), (⟨#[195, 183]⟩ : ByteArray), (⟨#[226, 139, 134]⟩ : ByteArray), (⟨#[124]⟩ : ByteArray), (⟨#[226, 140, 136]⟩ : ByteArray), (⟨#[226, 140, 138]⟩ : ByteArray), (⟨#[61]⟩ : ByteArray), (⟨#[226, 137, 160]⟩ : ByteArray), (⟨#[60]⟩ : ByteArray), (⟨#[226, 137, 164]⟩ : ByteArray), (⟨#[62]⟩ : ByteArray), (⟨#[226, 137, 165]⟩ : ByteArray), (⟨#[226, 136, 167]⟩ : ByteArray), (⟨#[226, 136, 168]⟩ : ByteArray), (⟨#[226, 138, 163]⟩ : ByteArray), (⟨#[226, 138, 162]⟩ : ByteArray), (⟨#[126]⟩ : ByteArray), (⟨#[226, 141, 180]⟩ : ByteArray), (⟨#[44]⟩ : ByteArray), (⟨#[226, 140, 189]⟩ : ByteArray), (⟨#[226, 138, 150]⟩ : ByteArray), (⟨#[226, 141, 137]⟩ : ByteArray), (⟨#[226, 134, 145]⟩ : ByteArray), (⟨#[226, 134, 147]⟩ : ByteArray), (⟨#[226, 141, 179]⟩ : ByteArray), (⟨#[226, 137, 162]⟩ : ByteArray), (⟨#[226, 141, 135]⟩ : ByteArray), (⟨#[226, 141, 136]⟩ : ByteArray), (⟨#[47]⟩ : ByteArray), (⟨#[226, 140, 191]⟩ : ByteArray), (⟨#[92]⟩ : ByteArray), (⟨#[226, 141, 128]⟩ : ByteArray), (⟨#[226, 140, 186]⟩ : ByteArray), (⟨#[46]⟩ : ByteArray), (⟨#[226, 136, 152]⟩ : ByteArray), (⟨#[226, 141, 168]⟩ : ByteArray), (⟨#[40]⟩ : ByteArray), (⟨#[41]⟩ : ByteArray), (⟨#[226, 134, 144]⟩ : ByteArray), (⟨#[58]⟩ : ByteArray), (⟨#[226, 139, 132]⟩ : ByteArray)] : List ByteArray))
set_option maxHeartbeats 8000000 in
set_option maxRecDepth 100000 in
theorem riffleref02_Signs.calls  (r : List ByteArray) (w : World) (hG : GL w) (h : riffleref02_Signs.f  = some r) :
    Calls Tryd.prog 47 #[] w fun e w' => ∃ v0_ : Value, e = .returned (v0_) ∧ Kd.R Kd.string 9 w' w.heap.size (fun _ => True) v0_ r ∧ Below w.heap.size w w' := by
  have HG := Aside0.mk hG
  clear hG
  have HB := Aside0.mk (Below.refl w.heap.size w)
  have H : (some (([(⟨#[]⟩ : ByteArray), (⟨#[43]⟩ : ByteArray), (⟨#[45]⟩ : ByteArray), (⟨#[195, 151]⟩ : ByteArray), (⟨#[195, 183]⟩ : ByteArray), (⟨#[226, 139, 134]⟩ : ByteArray), (⟨#[124]⟩ : ByteArray), (⟨#[226, 140, 136]⟩ : ByteArray), (⟨#[226, 140, 138]⟩ : ByteArray), (⟨#[61]⟩ : ByteArray), (⟨#[226, 137, 160]⟩ : ByteArray), (⟨#[60]⟩ : ByteArray), (⟨#[226, 137, 164]⟩ : ByteArray), (⟨#[62]⟩ : ByteArray), (⟨#[226, 137, 165]⟩ : ByteArray), (⟨#[226, 136, 167]⟩ : ByteArray), (⟨#[226, 136, 168]⟩ : ByteArray), (⟨#[226, 138, 163]⟩ : ByteArray), (⟨#[226, 138, 162]⟩ : ByteArray), (⟨#[126]⟩ : ByteArray), (⟨#[226, 141, 180]⟩ : ByteArray), (⟨#[44]⟩ : ByteArray), (⟨#[226, 140, 189]⟩ : ByteArray), (⟨#[226, 138, 150]⟩ : ByteArray), (⟨#[226, 141, 137]⟩ : ByteArray), (⟨#[226, 134, 145]⟩ : ByteArray), (⟨#[226, 134, 147]⟩ : ByteArray), (⟨#[226, 141, 179]⟩ : ByteArray), (⟨#[226, 137, 162]⟩ : ByteArray), (⟨#[226, 141, 135]⟩ : ByteArray), (⟨#[226, 141, 136]⟩ : ByteArray), (⟨#[47]⟩ : ByteArray), (⟨#[226, 140, 191]⟩ : ByteArray), (⟨#[92]⟩ : ByteArray), (⟨#[226, 141, 128]⟩ : ByteArray), (⟨#[226, 140, 186]⟩ : ByteArray), (⟨#[46]⟩ : ByteArray), (⟨#[226, 136, 152]⟩ : ByteArray), (⟨#[226, 141, 168]⟩ : ByteArray), (⟨#[40]⟩ : ByteArray), (⟨#[41]⟩ : ByteArray), (⟨#[226, 134, 144]⟩ : ByteArray), (⟨#[58]⟩ : ByteArray), (⟨#[226, 139, 132]⟩ : ByteArray)] : List ByteArray))) = some r := h
  clear h
  obtain ⟨y135, hy135⟩ : ∃ y_ : List ByteArray, y_ = (([(⟨#[]⟩ : ByteArray), (⟨#[43]⟩ : ByteArray), (⟨#[45]⟩ : ByteArray), (⟨#[195, 151]⟩ : ByteArray), (⟨#[195, 183]⟩ : ByteArray), (⟨#[226, 139, 134]⟩ : ByteArray), (⟨#[124]⟩ : ByteArray), (⟨#[226, 140, 136]⟩ : ByteArray), (⟨#[226, 140, 138]⟩ : ByteArray), (⟨#[61]⟩ : ByteArray), (⟨#[226, 137, 160]⟩ : ByteArray), (⟨#[60]⟩ : ByteArray), (⟨#[226, 137, 164]⟩ : ByteArray), (⟨#[62]⟩ : ByteArray), (⟨#[226, 137, 165]⟩ : ByteArray), (⟨#[226, 136, 167]⟩ : ByteArray), (⟨#[226, 136, 168]⟩ : ByteArray), (⟨#[226, 138, 163]⟩ : ByteArray), (⟨#[226, 138, 162]⟩ : ByteArray), (⟨#[126]⟩ : ByteArray), (⟨#[226, 141, 180]⟩ : ByteArray), (⟨#[44]⟩ : ByteArray), (⟨#[226, 140, 189]⟩ : ByteArray), (⟨#[226, 138, 150]⟩ : ByteArray), (⟨#[226, 141, 137]⟩ : ByteArray), (⟨#[226, 134, 145]⟩ : ByteArray), (⟨#[226, 134, 147]⟩ : ByteArray), (⟨#[226, 141, 179]⟩ : ByteArray), (⟨#[226, 137, 162]⟩ : ByteArray), (⟨#[226, 141, 135]⟩ : ByteArray), (⟨#[226, 141, 136]⟩ : ByteArray), (⟨#[47]⟩ : ByteArray), (⟨#[226, 140, 191]⟩ : ByteArray), (⟨#[92]⟩ : ByteArray), (⟨#[226, 141, 128]⟩ : ByteArray), (⟨#[226, 140, 186]⟩ : ByteArray), (⟨#[46]⟩ : ByteArray), (⟨#[226, 136, 152]⟩ : ByteArray), (⟨#[226, 141, 168]⟩ : ByteArray), (⟨#[40]⟩ : ByteArray), (⟨#[41]⟩ : ByteArray), (⟨#[226, 134, 144]⟩ : ByteArray), (⟨#[58]⟩ : ByteArray), (⟨#[226, 139, 132]⟩ : ByteArray)] : List ByteArray)) := ⟨_, rfl⟩
  replace H : (some y135) = some r := by first | (rw [hy135]; with_reducible exact H) | (have H2_ := (Option.bind_some _ _).symm.trans H; rw [hy135]; with_reducible exact H2_) | (have H2_ := (Option.bind_some _ _).symm.trans H; with_reducible exact H2_) | with_reducible exact H | (rw [hy135]; exact H) | exact H
  have Ny135 := Aside0.mk hy135
  clear hy135
  obtain rfl := Option.some.inj H
  go_enter Tryd.func47, Tryd.ntmps47
  go_wp2_with (first | ((with_reducible refine gate_dst (N := 1) rfl ?_); refine Kd.R_lit Kd.string _ 9 ?hg (N := 1) ?hd (xs := ([(⟨#[]⟩ : ByteArray), (⟨#[43]⟩ : ByteArray), (⟨#[45]⟩ : ByteArray), (⟨#[195, 151]⟩ : ByteArray), (⟨#[195, 183]⟩ : ByteArray), (⟨#[226, 139, 134]⟩ : ByteArray), (⟨#[124]⟩ : ByteArray), (⟨#[226, 140, 136]⟩ : ByteArray), (⟨#[226, 140, 138]⟩ : ByteArray), (⟨#[61]⟩ : ByteArray), (⟨#[226, 137, 160]⟩ : ByteArray), (⟨#[60]⟩ : ByteArray), (⟨#[226, 137, 164]⟩ : ByteArray), (⟨#[62]⟩ : ByteArray), (⟨#[226, 137, 165]⟩ : ByteArray), (⟨#[226, 136, 167]⟩ : ByteArray), (⟨#[226, 136, 168]⟩ : ByteArray), (⟨#[226, 138, 163]⟩ : ByteArray), (⟨#[226, 138, 162]⟩ : ByteArray), (⟨#[126]⟩ : ByteArray), (⟨#[226, 141, 180]⟩ : ByteArray), (⟨#[44]⟩ : ByteArray), (⟨#[226, 140, 189]⟩ : ByteArray), (⟨#[226, 138, 150]⟩ : ByteArray), (⟨#[226, 141, 137]⟩ : ByteArray), (⟨#[226, 134, 145]⟩ : ByteArray), (⟨#[226, 134, 147]⟩ : ByteArray), (⟨#[226, 141, 179]⟩ : ByteArray), (⟨#[226, 137, 162]⟩ : ByteArray), (⟨#[226, 141, 135]⟩ : ByteArray), (⟨#[226, 141, 136]⟩ : ByteArray), (⟨#[47]⟩ : ByteArray), (⟨#[226, 140, 191]⟩ : ByteArray), (⟨#[92]⟩ : ByteArray), (⟨#[226, 141, 128]⟩ : ByteArray), (⟨#[226, 140, 186]⟩ : ByteArray), (⟨#[46]⟩ : ByteArray), (⟨#[226, 136, 152]⟩ : ByteArray), (⟨#[226, 141, 168]⟩ : ByteArray), (⟨#[40]⟩ : ByteArray), (⟨#[41]⟩ : ByteArray), (⟨#[226, 134, 144]⟩ : ByteArray), (⟨#[58]⟩ : ByteArray), (⟨#[226, 139, 132]⟩ : ByteArray)] : List ByteArray)) (inner := [.string (⟨#[]⟩ : ByteArray), .string (⟨#[43]⟩ : ByteArray), .string (⟨#[45]⟩ : ByteArray), .string (⟨#[195, 151]⟩ : ByteArray), .string (⟨#[195, 183]⟩ : ByteArray), .string (⟨#[226, 139, 134]⟩ : ByteArray), .string (⟨#[124]⟩ : ByteArray), .string (⟨#[226, 140, 136]⟩ : ByteArray), .string (⟨#[226, 140, 138]⟩ : ByteArray), .string (⟨#[61]⟩ : ByteArray), .string (⟨#[226, 137, 160]⟩ : ByteArray), .string (⟨#[60]⟩ : ByteArray), .string (⟨#[226, 137, 164]⟩ : ByteArray), .string (⟨#[62]⟩ : ByteArray), .string (⟨#[226, 137, 165]⟩ : ByteArray), .string (⟨#[226, 136, 167]⟩ : ByteArray), .string (⟨#[226, 136, 168]⟩ : ByteArray), .string (⟨#[226, 138, 163]⟩ : ByteArray), .string (⟨#[226, 138, 162]⟩ : ByteArray), .string (⟨#[126]⟩ : ByteArray), .string (⟨#[226, 141, 180]⟩ : ByteArray), .string (⟨#[44]⟩ : ByteArray), .string (⟨#[226, 140, 189]⟩ : ByteArray), .string (⟨#[226, 138, 150]⟩ : ByteArray), .string (⟨#[226, 141, 137]⟩ : ByteArray), .string (⟨#[226, 134, 145]⟩ : ByteArray), .string (⟨#[226, 134, 147]⟩ : ByteArray), .string (⟨#[226, 141, 179]⟩ : ByteArray), .string (⟨#[226, 137, 162]⟩ : ByteArray), .string (⟨#[226, 141, 135]⟩ : ByteArray), .string (⟨#[226, 141, 136]⟩ : ByteArray), .string (⟨#[47]⟩ : ByteArray), .string (⟨#[226, 140, 191]⟩ : ByteArray), .string (⟨#[92]⟩ : ByteArray), .string (⟨#[226, 141, 128]⟩ : ByteArray), .string (⟨#[226, 140, 186]⟩ : ByteArray), .string (⟨#[46]⟩ : ByteArray), .string (⟨#[226, 136, 152]⟩ : ByteArray), .string (⟨#[226, 141, 168]⟩ : ByteArray), .string (⟨#[40]⟩ : ByteArray), .string (⟨#[41]⟩ : ByteArray), .string (⟨#[226, 134, 144]⟩ : ByteArray), .string (⟨#[58]⟩ : ByteArray), .string (⟨#[226, 139, 132]⟩ : ByteArray)]) (ok := fun _ => True) (okp := fun _ => True) ?hr ?hp (fun _ hk => hk) trivial (Below.refl _ _) (Nat.le_refl _) (by simp) ?_; (case hd => rfl); (case hg => rfl); (case hr => first | (go_simp; done) | (go_simp; rfl)); (case hp => exact (Reps.one (show Kd.M Kd.string _ _ _ (⟨#[]⟩ : ByteArray) [.string (⟨#[]⟩ : ByteArray)] from rfl) (Reps.one (show Kd.M Kd.string _ _ _ (⟨#[43]⟩ : ByteArray) [.string (⟨#[43]⟩ : ByteArray)] from rfl) (Reps.one (show Kd.M Kd.string _ _ _ (⟨#[45]⟩ : ByteArray) [.string (⟨#[45]⟩ : ByteArray)] from rfl) (Reps.one (show Kd.M Kd.string _ _ _ (⟨#[195, 151]⟩ : ByteArray) [.string (⟨#[195, 151]⟩ : ByteArray)] from rfl) (Reps.one (show Kd.M Kd.string _ _ _ (⟨#[195, 183]⟩ : ByteArray) [.string (⟨#[195, 183]⟩ : ByteArray)] from rfl) (Reps.one (show Kd.M Kd.string _ _ _ (⟨#[226, 139, 134]⟩ : ByteArray) [.string (⟨#[226, 139, 134]⟩ : ByteArray)] from rfl) (Reps.one (show Kd.M Kd.string _ _ _ (⟨#[124]⟩ : ByteArray) [.string (⟨#[124]⟩ : ByteArray)] from rfl) (Reps.one (show Kd.M Kd.string _ _ _ (⟨#[226, 140, 136]⟩ : ByteArray) [.string (⟨#[226, 140, 136]⟩ : ByteArray)] from rfl) (Reps.one (show Kd.M Kd.string _ _ _ (⟨#[226, 140, 138]⟩ : ByteArray) [.string (⟨#[226, 140, 138]⟩ : ByteArray)] from rfl) (Reps.one (show Kd.M Kd.string _ _ _ (⟨#[61]⟩ : ByteArray) [.string (⟨#[61]⟩ : ByteArray)] from rfl) (Reps.one (show Kd.M Kd.string _ _ _ (⟨#[226, 137, 160]⟩ : ByteArray) [.string (⟨#[226, 137, 160]⟩ : ByteArray)] from rfl) (Reps.one (show Kd.M Kd.string _ _ _ (⟨#[60]⟩ : ByteArray) [.string (⟨#[60]⟩ : ByteArray)] from rfl) (Reps.one (show Kd.M Kd.string _ _ _ (⟨#[226, 137, 164]⟩ : ByteArray) [.string (⟨#[226, 137, 164]⟩ : ByteArray)] from rfl) (Reps.one (show Kd.M Kd.string _ _ _ (⟨#[62]⟩ : ByteArray) [.string (⟨#[62]⟩ : ByteArray)] from rfl) (Reps.one (show Kd.M Kd.string _ _ _ (⟨#[226, 137, 165]⟩ : ByteArray) [.string (⟨#[226, 137, 165]⟩ : ByteArray)] from rfl) (Reps.one (show Kd.M Kd.string _ _ _ (⟨#[226, 136, 167]⟩ : ByteArray) [.string (⟨#[226, 136, 167]⟩ : ByteArray)] from rfl) (Reps.one (show Kd.M Kd.string _ _ _ (⟨#[226, 136, 168]⟩ : ByteArray) [.string (⟨#[226, 136, 168]⟩ : ByteArray)] from rfl) (Reps.one (show Kd.M Kd.string _ _ _ (⟨#[226, 138, 163]⟩ : ByteArray) [.string (⟨#[226, 138, 163]⟩ : ByteArray)] from rfl) (Reps.one (show Kd.M Kd.string _ _ _ (⟨#[226, 138, 162]⟩ : ByteArray) [.string (⟨#[226, 138, 162]⟩ : ByteArray)] from rfl) (Reps.one (show Kd.M Kd.string _ _ _ (⟨#[126]⟩ : ByteArray) [.string (⟨#[126]⟩ : ByteArray)] from rfl) (Reps.one (show Kd.M Kd.string _ _ _ (⟨#[226, 141, 180]⟩ : ByteArray) [.string (⟨#[226, 141, 180]⟩ : ByteArray)] from rfl) (Reps.one (show Kd.M Kd.string _ _ _ (⟨#[44]⟩ : ByteArray) [.string (⟨#[44]⟩ : ByteArray)] from rfl) (Reps.one (show Kd.M Kd.string _ _ _ (⟨#[226, 140, 189]⟩ : ByteArray) [.string (⟨#[226, 140, 189]⟩ : ByteArray)] from rfl) (Reps.one (show Kd.M Kd.string _ _ _ (⟨#[226, 138, 150]⟩ : ByteArray) [.string (⟨#[226, 138, 150]⟩ : ByteArray)] from rfl) (Reps.one (show Kd.M Kd.string _ _ _ (⟨#[226, 141, 137]⟩ : ByteArray) [.string (⟨#[226, 141, 137]⟩ : ByteArray)] from rfl) (Reps.one (show Kd.M Kd.string _ _ _ (⟨#[226, 134, 145]⟩ : ByteArray) [.string (⟨#[226, 134, 145]⟩ : ByteArray)] from rfl) (Reps.one (show Kd.M Kd.string _ _ _ (⟨#[226, 134, 147]⟩ : ByteArray) [.string (⟨#[226, 134, 147]⟩ : ByteArray)] from rfl) (Reps.one (show Kd.M Kd.string _ _ _ (⟨#[226, 141, 179]⟩ : ByteArray) [.string (⟨#[226, 141, 179]⟩ : ByteArray)] from rfl) (Reps.one (show Kd.M Kd.string _ _ _ (⟨#[226, 137, 162]⟩ : ByteArray) [.string (⟨#[226, 137, 162]⟩ : ByteArray)] from rfl) (Reps.one (show Kd.M Kd.string _ _ _ (⟨#[226, 141, 135]⟩ : ByteArray) [.string (⟨#[226, 141, 135]⟩ : ByteArray)] from rfl) (Reps.one (show Kd.M Kd.string _ _ _ (⟨#[226, 141, 136]⟩ : ByteArray) [.string (⟨#[226, 141, 136]⟩ : ByteArray)] from rfl) (Reps.one (show Kd.M Kd.string _ _ _ (⟨#[47]⟩ : ByteArray) [.string (⟨#[47]⟩ : ByteArray)] from rfl) (Reps.one (show Kd.M Kd.string _ _ _ (⟨#[226, 140, 191]⟩ : ByteArray) [.string (⟨#[226, 140, 191]⟩ : ByteArray)] from rfl) (Reps.one (show Kd.M Kd.string _ _ _ (⟨#[92]⟩ : ByteArray) [.string (⟨#[92]⟩ : ByteArray)] from rfl) (Reps.one (show Kd.M Kd.string _ _ _ (⟨#[226, 141, 128]⟩ : ByteArray) [.string (⟨#[226, 141, 128]⟩ : ByteArray)] from rfl) (Reps.one (show Kd.M Kd.string _ _ _ (⟨#[226, 140, 186]⟩ : ByteArray) [.string (⟨#[226, 140, 186]⟩ : ByteArray)] from rfl) (Reps.one (show Kd.M Kd.string _ _ _ (⟨#[46]⟩ : ByteArray) [.string (⟨#[46]⟩ : ByteArray)] from rfl) (Reps.one (show Kd.M Kd.string _ _ _ (⟨#[226, 136, 152]⟩ : ByteArray) [.string (⟨#[226, 136, 152]⟩ : ByteArray)] from rfl) (Reps.one (show Kd.M Kd.string _ _ _ (⟨#[226, 141, 168]⟩ : ByteArray) [.string (⟨#[226, 141, 168]⟩ : ByteArray)] from rfl) (Reps.one (show Kd.M Kd.string _ _ _ (⟨#[40]⟩ : ByteArray) [.string (⟨#[40]⟩ : ByteArray)] from rfl) (Reps.one (show Kd.M Kd.string _ _ _ (⟨#[41]⟩ : ByteArray) [.string (⟨#[41]⟩ : ByteArray)] from rfl) (Reps.one (show Kd.M Kd.string _ _ _ (⟨#[226, 134, 144]⟩ : ByteArray) [.string (⟨#[226, 134, 144]⟩ : ByteArray)] from rfl) (Reps.one (show Kd.M Kd.string _ _ _ (⟨#[58]⟩ : ByteArray) [.string (⟨#[58]⟩ : ByteArray)] from rfl) (Reps.one (show Kd.M Kd.string _ _ _ (⟨#[226, 139, 132]⟩ : ByteArray) [.string (⟨#[226, 139, 132]⟩ : ByteArray)] from rfl) (Reps.none _ _)))))))))))))))))))))))))))))))))))))))))))))); intro v136 w1 ho2 hb hg_ hnew_; clear hg_ hnew_; (first | rw [← Ny135.out] at ho2 | (simp only [Int.reduceToNat] at ho2; rw [← Ny135.out] at ho2)); have n0_ := Aside0.mk (Kd.R_lower ho2 (below_size (by repeat (first | (with_reducible first | exact HB.out | apply below_alloc | apply pw_below_drewN | apply below_drew1) | exact HB.out | exact Below.refl _ _)))); have n1_ := Aside0.mk (below_step (by repeat (first | (with_reducible first | exact HB.out | apply below_alloc | apply pw_below_drewN | apply below_drew1) | exact HB.out | exact Below.refl _ _)) hb); clear HB; have HO137 := n0_; have HB := n1_; clear n0_ n1_; clear hb ho2))
  go_ret
  exact ⟨_, by first | rfl | (simp [errW_none, errW_some] <;> rfl) | (simp [*, errW_none, errW_some] <;> rfl), by (with_reducible repeat (first | apply Kd.R_alloc | apply Kd.R_drewN | apply Kd.R_drew)); exact HO137.out, by repeat (first | (with_reducible first | exact HB.out | apply below_alloc | apply pw_below_drewN | apply below_drew1) | exact HB.out | exact Below.refl _ _)⟩

/-! ### riffleref02_First: function 13 -/
mutual
def riffleref02_First.l0 : Nat → ByteArray → List ByteArray → Int → Option (Int × Int)
  | 0, _, _, _ => none
  | k + 1, x0, x4, x5 => if x5 < (x4.length : Int) then (if 0 ≤ x5 then (if (x0.size : Int) ≥ ((rdOf ByteArray.empty x4 x5).size : Int) then (if 0 ≤ ((rdOf ByteArray.empty x4 x5).size : Int) then (if ((rdOf ByteArray.empty x4 x5).size : Int) ≤ (x0.size : Int) then (if (x0.extract 0 (((rdOf ByteArray.empty x4 x5).size : Int) : Int).toNat).toList = (rdOf ByteArray.empty x4 x5).toList then (some (x5, ((rdOf ByteArray.empty x4 x5).size : Int))) else (riffleref02_First.l0 k x0 x4 (wrap64 (x5 + 1)))) else (none)) else (none)) else (riffleref02_First.l0 k x0 x4 (wrap64 (x5 + 1)))) else (none)) else (if x0.toList = ([] : List UInt8) then (riffleref02_First.j1 k x0 true) else (if 0 < (x0.size : Int) then (riffleref02_First.j1 k x0 ((bt x0 0) != 96)) else (none)))
def riffleref02_First.j1 : Nat → ByteArray → Bool → Option (Int × Int)
  | 0, _, _ => none
  | k + 1, x0, x43 => if x43 = true then (some (0, 0)) else (riffleref02_First.l1 k x0 1)
def riffleref02_First.l1 : Nat → ByteArray → Int → Option (Int × Int)
  | 0, _, _ => none
  | k + 1, x0, x7 => if x7 < (x0.size : Int) then (if 0 ≤ x7 then (if (bt x0 x7) ≥ 97 then (if (bt x0 x7) ≤ 122 then (riffleref02_First.l1 k x0 (wrap64 (x7 + 1))) else (if 1 ≤ x7 then (if x7 ≤ (x0.size : Int) then ((riffleref02_Named.f k (x0.extract 1 (x7 : Int).toNat)).bind fun t143 => (if t143 = 0 then (some (0, 0)) else (some (t143, x7)))) else (none)) else (none))) else (if 1 ≤ x7 then (if x7 ≤ (x0.size : Int) then ((riffleref02_Named.f k (x0.extract 1 (x7 : Int).toNat)).bind fun t144 => (if t144 = 0 then (some (0, 0)) else (some (t144, x7)))) else (none)) else (none))) else (none)) else (if 1 ≤ x7 then (if x7 ≤ (x0.size : Int) then ((riffleref02_Named.f k (x0.extract 1 (x7 : Int).toNat)).bind fun t145 => (if t145 = 0 then (some (0, 0)) else (some (t145, x7)))) else (none)) else (none))
end
def riffleref02_First.f (k : Nat) (a0 : ByteArray) : Option (Int × Int) := (riffleref02_Signs.f).bind fun t138 => (riffleref02_First.l0 k a0 t138 1)
theorem riffleref02_First.mono_l : ∀ k, (∀ y0 y1 y2, LeO (riffleref02_First.l0 k y0 y1 y2) (riffleref02_First.l0 (k + 1) y0 y1 y2)) ∧ (∀ y0 y1, LeO (riffleref02_First.j1 k y0 y1) (riffleref02_First.j1 (k + 1) y0 y1)) ∧ (∀ y0 y1, LeO (riffleref02_First.l1 k y0 y1) (riffleref02_First.l1 (k + 1) y0 y1))
  | 0 => ⟨fun _ _ _ r h => by simp [riffleref02_First.l0] at h, fun _ _ r h => by simp [riffleref02_First.j1] at h, fun _ _ r h => by simp [riffleref02_First.l1] at h⟩
  | k + 1 => by
    obtain ⟨ih0, ih1, ih2⟩ := riffleref02_First.mono_l k
    refine ⟨?_, ?_, ?_⟩
    · intro y0 y1 y2
      unfold riffleref02_First.l0
      repeat' first
      | (with_reducible exact ih0 _ _ _)
      | (with_reducible exact ih1 _ _)
      | (with_reducible exact ih2 _ _)
      | (with_reducible exact riffleref02_Named.mono _ _)
      | (with_reducible exact LeO.refl _)
      | (with_reducible exact LeO.none _)
      | (with_reducible refine LeO.ite ?_ ?_)
      | (with_reducible refine LeO.bind ?_ (fun _ => ?_))
      | exact ih0 _ _ _
      | exact ih1 _ _
      | exact ih2 _ _
      | exact riffleref02_Named.mono _ _
      | exact LeO.none _
      | refine LeO.ite ?_ ?_
      | refine LeO.bind ?_ (fun _ => ?_)
    · intro y0 y1
      unfold riffleref02_First.j1
      repeat' first
      | (with_reducible exact ih0 _ _ _)
      | (with_reducible exact ih1 _ _)
      | (with_reducible exact ih2 _ _)
      | (with_reducible exact riffleref02_Named.mono _ _)
      | (with_reducible exact LeO.refl _)
      | (with_reducible exact LeO.none _)
      | (with_reducible refine LeO.ite ?_ ?_)
      | (with_reducible refine LeO.bind ?_ (fun _ => ?_))
      | exact ih0 _ _ _
      | exact ih1 _ _
      | exact ih2 _ _
      | exact riffleref02_Named.mono _ _
      | exact LeO.none _
      | refine LeO.ite ?_ ?_
      | refine LeO.bind ?_ (fun _ => ?_)
    · intro y0 y1
      unfold riffleref02_First.l1
      repeat' first
      | (with_reducible exact ih0 _ _ _)
      | (with_reducible exact ih1 _ _)
      | (with_reducible exact ih2 _ _)
      | (with_reducible exact riffleref02_Named.mono _ _)
      | (with_reducible exact LeO.refl _)
      | (with_reducible exact LeO.none _)
      | (with_reducible refine LeO.ite ?_ ?_)
      | (with_reducible refine LeO.bind ?_ (fun _ => ?_))
      | exact ih0 _ _ _
      | exact ih1 _ _
      | exact ih2 _ _
      | exact riffleref02_Named.mono _ _
      | exact LeO.none _
      | refine LeO.ite ?_ ?_
      | refine LeO.bind ?_ (fun _ => ?_)
theorem riffleref02_First.mono : ∀ a0 k, LeO (riffleref02_First.f k a0) (riffleref02_First.f (k + 1) a0) := by
  intro a0 k
  obtain ⟨ih0, ih1, ih2⟩ := riffleref02_First.mono_l k
  unfold riffleref02_First.f
  repeat' first
      | (with_reducible exact ih0 _ _ _)
      | (with_reducible exact ih1 _ _)
      | (with_reducible exact ih2 _ _)
      | (with_reducible exact riffleref02_Named.mono _ _)
      | (with_reducible exact LeO.refl _)
      | (with_reducible exact LeO.none _)
      | (with_reducible refine LeO.ite ?_ ?_)
      | (with_reducible refine LeO.bind ?_ (fun _ => ?_))
      | exact ih0 _ _ _
      | exact ih1 _ _
      | exact ih2 _ _
      | exact riffleref02_Named.mono _ _
      | exact LeO.none _
      | refine LeO.ite ?_ ?_
      | refine LeO.bind ?_ (fun _ => ?_)
set_option maxHeartbeats 8000000 in
set_option maxRecDepth 100000 in
theorem riffleref02_First.calls (k : Nat) (a0 : ByteArray) (r1 : Int) (r2 : Int) (w : World) (hG : GL w) (h : riffleref02_First.f k a0 = some (r1, r2)) :
    Calls Tryd.prog 13 #[.string a0] w fun e w' => e = .returned (.tuple #[.int .i64 r1, .int .i64 r2]) ∧ Below w.heap.size w w' := by
  have HG := Aside0.mk hG
  clear hG
  have HB := Aside0.mk (Below.refl w.heap.size w)
  have H : ((riffleref02_Signs.f).bind fun t138 => (riffleref02_First.l0 k a0 t138 1)) = some (r1, r2) := h
  clear h
  replace H := Option.bind_eq_some_iff.mp H
  obtain ⟨t138, A20, H⟩ := H
  replace H : (riffleref02_First.l0 k a0 t138 1) = some (r1, r2) := H
  have A2 := Aside0.mk A20
  clear A20
  have H' := Aside0.mk H
  clear H
  go_enter Tryd.func13, Tryd.ntmps13
  go_wp2_with (first | (go_at_call 47; (with_reducible refine (riffleref02_Signs.calls  t138 _ (GL.below HG.out (by repeat (first | (with_reducible first | exact HB.out | apply below_alloc | apply pw_below_drewN | apply below_drew1) | exact HB.out | exact Below.refl _ _))) A2.out).mono ?_); rintro e w3 ⟨v139, rfl, ho0, hb⟩; have n0_ := Aside0.mk (Kd.R_lower ho0 (below_size (by repeat (first | (with_reducible first | exact HB.out | apply below_alloc | apply pw_below_drewN | apply below_drew1) | exact HB.out | exact Below.refl _ _)))); have n1_ := Aside0.mk (below_step (by repeat (first | (with_reducible first | exact HB.out | apply below_alloc | apply pw_below_drewN | apply below_drew1) | exact HB.out | exact Below.refl _ _)) hb); clear HB; have HO140 := n0_; have HB := n1_; clear n0_ n1_; (try clear hb); (try clear hb2); (try clear hk); (try clear hi); (try clear ho0)))
  repeat (go_quiet (first | (go_at_call 47; (with_reducible refine (riffleref02_Signs.calls  t138 _ (GL.below HG.out (by repeat (first | (with_reducible first | exact HB.out | apply below_alloc | apply pw_below_drewN | apply below_drew1) | exact HB.out | exact Below.refl _ _))) A2.out).mono ?_); rintro e w3 ⟨v139, rfl, ho0, hb⟩; have n0_ := Aside0.mk (Kd.R_lower ho0 (below_size (by repeat (first | (with_reducible first | exact HB.out | apply below_alloc | apply pw_below_drewN | apply below_drew1) | exact HB.out | exact Below.refl _ _)))); have n1_ := Aside0.mk (below_step (by repeat (first | (with_reducible first | exact HB.out | apply below_alloc | apply pw_below_drewN | apply below_drew1) | exact HB.out | exact Below.refl _ _)) hb); clear HB; have HO140 := n0_; have HB := n1_; clear n0_ n1_; (try clear hb); (try clear hb2); (try clear hk); (try clear hi); (try clear ho0))); try go_wp2_with (first | (go_at_call 47; (with_reducible refine (riffleref02_Signs.calls  t138 _ (GL.below HG.out (by repeat (first | (with_reducible first | exact HB.out | apply below_alloc | apply pw_below_drewN | apply below_drew1) | exact HB.out | exact Below.refl _ _))) A2.out).mono ?_); rintro e w3 ⟨v139, rfl, ho0, hb⟩; have n0_ := Aside0.mk (Kd.R_lower ho0 (below_size (by repeat (first | (with_reducible first | exact HB.out | apply below_alloc | apply pw_below_drewN | apply below_drew1) | exact HB.out | exact Below.refl _ _)))); have n1_ := Aside0.mk (below_step (by repeat (first | (with_reducible first | exact HB.out | apply below_alloc | apply pw_below_drewN | apply below_drew1) | exact HB.out | exact Below.refl _ _)) hb); clear HB; have HO140 := n0_; have HB := n1_; clear n0_ n1_; (try clear hb); (try clear hb2); (try clear hk); (try clear hi); (try clear ho0))))
  go_loopg [5] k (fun kq v5 w' => ∃ (x5_1 : Int), v5 = .int .i64 x5_1 ∧ Aside0 (riffleref02_First.l0 kq a0 t138 x5_1 = some (r1, r2)) ∧ Aside0 (kq ≤ k) ∧ Aside0 (Kd.R Kd.string 9 w' w.heap.size (fun _ => True) v139 t138) ∧ Aside0 (Below w.heap.size w w'))
  case atStart => exact ⟨(1), (by first | rfl | (simp; done) | (simp [*]; done)), H', ⟨Nat.le_refl _⟩, ⟨by (with_reducible repeat (first | apply Kd.R_alloc | apply Kd.R_drewN | apply Kd.R_drew)); exact HO140.out⟩, ⟨by repeat (first | (with_reducible first | exact HB.out | apply below_alloc | apply pw_below_drewN | apply below_drew1) | exact HB.out | exact Below.refl _ _)⟩⟩
  case round =>
    clear H'
    try clear c1
    try clear p2
    obtain ⟨x5_1, rfl, HA, HK1, HO_4, HB⟩ := hrel
    cases gk with
    | zero => exact absurd HA.out (by simp [riffleref02_First.l0])
    | succ k1 =>
      have H := HA.out
      clear HA
      simp only [riffleref02_First.l0] at H
      by_cases c4 : x5_1 < (t138.length : Int)
      · rw [if_pos c4] at H
        have c4b0 : decide (x5_1 < (t138.length : Int)) = true := decide_eq_true c4
        clear c4
        by_cases c5 : 0 ≤ x5_1
        · rw [if_pos c5] at H
          have c5b0 : decide (0 ≤ x5_1) = true := decide_eq_true c5
          clear c5
          by_cases c6 : (a0.size : Int) ≥ ((rdOf ByteArray.empty t138 x5_1).size : Int)
          · rw [if_pos c6] at H
            have c6b0 : decide (((rdOf ByteArray.empty t138 x5_1).size : Int) ≤ (a0.size : Int)) = true := decide_eq_true c6
            have c6b1 : decide ((rdOf ByteArray.empty t138 x5_1).size ≤ a0.size) = true := decide_eq_true (Int.ofNat_le.mp c6)
            clear c6
            by_cases c7 : 0 ≤ ((rdOf ByteArray.empty t138 x5_1).size : Int)
            · rw [if_pos c7] at H
              have c7b0 := eq_true c7
              have c7b1 : decide (0 ≤ ((rdOf ByteArray.empty t138 x5_1).size : Int)) = true := decide_eq_true c7
              clear c7
              by_cases c8 : ((rdOf ByteArray.empty t138 x5_1).size : Int) ≤ (a0.size : Int)
              · rw [if_pos c8] at H
                have c8b0 := eq_true c8
                have c8b1 : decide (((rdOf ByteArray.empty t138 x5_1).size : Int) ≤ (a0.size : Int)) = true := decide_eq_true c8
                clear c8
                by_cases c9 : (a0.extract 0 (((rdOf ByteArray.empty t138 x5_1).size : Int) : Int).toNat).toList = (rdOf ByteArray.empty t138 x5_1).toList
                · rw [if_pos c9] at H
                  have c9b0 : ((a0.extract 0 (((rdOf ByteArray.empty t138 x5_1).size : Int) : Int).toNat).toList == (rdOf ByteArray.empty t138 x5_1).toList) = true := beq_iff_eq.mpr c9
                  have c9b1 : ((a0.extract 0 (((rdOf ByteArray.empty t138 x5_1).size : Int) : Int).toNat).toList != (rdOf ByteArray.empty t138 x5_1).toList) = false := bne_eq_false_iff_eq.mpr c9
                  (try (have c9n0 := c9b0; simp only [Int.toNat_natCast] at c9n0))
                  (try (have c9n1 := c9b1; simp only [Int.toNat_natCast] at c9n1))
                  (try (have c9b9 := c9; simp [*] at c9b9))
                  clear c9
                  simp only [Option.some.injEq, Prod.mk.injEq] at H
                  obtain ⟨rfl, rfl⟩ := H
                  obtain ⟨Ao10, co10, eo10⟩ := Kd.R_slice HO_4.out
                  subst eo10
                  have p141 : 0 ≤ (x5_1 : Int) := of_decide_eq_true (by first | (with_reducible assumption) | assumption)
                  have q141 : x5_1 < (t138.length : Int) := of_decide_eq_true (by first | (with_reducible assumption) | assumption)
                  obtain ⟨ad141, e141, hx141_0⟩ := Kd.at_string (Kd.R_reads' HO_4.out).2.2 x5_1 p141 q141
                  cases e141
                  replace p141 := eq_true p141
                  replace q141 := eq_true q141
                  have p142 : 0 ≤ (x5_1 : Int) := of_decide_eq_true (by first | (with_reducible assumption) | assumption)
                  have q142 : x5_1 < (t138.length : Int) := of_decide_eq_true (by first | (with_reducible assumption) | assumption)
                  obtain ⟨ad142, e142, hx142_0⟩ := Kd.at_string (Kd.R_reads' HO_4.out).2.2 x5_1 p142 q142
                  obtain rfl : ad141 = ad142 := (by injection e142)
                  replace p142 := eq_true p142
                  replace q142 := eq_true q142
                  go_wp2
                  repeat (go_quiet (fail); try go_wp2)
                  go_ret2
                  exact ⟨by first | rfl | (simp [errW_none, errW_some] <;> rfl) | (simp [*, errW_none, errW_some] <;> rfl), by repeat (first | (with_reducible first | exact HB.out | apply below_alloc | apply pw_below_drewN | apply below_drew1) | exact HB.out | exact Below.refl _ _)⟩
                · rw [if_neg c9] at H
                  have c9b0 : ((a0.extract 0 (((rdOf ByteArray.empty t138 x5_1).size : Int) : Int).toNat).toList == (rdOf ByteArray.empty t138 x5_1).toList) = false := beq_eq_false_iff_ne.mpr c9
                  have c9b1 : ((a0.extract 0 (((rdOf ByteArray.empty t138 x5_1).size : Int) : Int).toNat).toList != (rdOf ByteArray.empty t138 x5_1).toList) = true := bne_iff_ne.mpr c9
                  (try (have c9n0 := c9b0; simp only [Int.toNat_natCast] at c9n0))
                  (try (have c9n1 := c9b1; simp only [Int.toNat_natCast] at c9n1))
                  (try (have c9b9 := c9; simp [*] at c9b9))
                  have H' := Aside0.mk H
                  clear H
                  obtain ⟨Ao11, co11, eo11⟩ := Kd.R_slice HO_4.out
                  subst eo11
                  have p141 : 0 ≤ (x5_1 : Int) := of_decide_eq_true (by first | (with_reducible assumption) | assumption)
                  have q141 : x5_1 < (t138.length : Int) := of_decide_eq_true (by first | (with_reducible assumption) | assumption)
                  obtain ⟨ad141, e141, hx141_0⟩ := Kd.at_string (Kd.R_reads' HO_4.out).2.2 x5_1 p141 q141
                  cases e141
                  replace p141 := eq_true p141
                  replace q141 := eq_true q141
                  have p142 : 0 ≤ (x5_1 : Int) := of_decide_eq_true (by first | (with_reducible assumption) | assumption)
                  have q142 : x5_1 < (t138.length : Int) := of_decide_eq_true (by first | (with_reducible assumption) | assumption)
                  obtain ⟨ad142, e142, hx142_0⟩ := Kd.at_string (Kd.R_reads' HO_4.out).2.2 x5_1 p142 q142
                  obtain rfl : ad141 = ad142 := (by injection e142)
                  replace p142 := eq_true p142
                  replace q142 := eq_true q142
                  go_wp2
                  repeat (go_quiet (fail); try go_wp2)
                  go_roundg k1
                  case measure => have := HK1.out; omega
                  case rel => exact ⟨(wrap64 (x5_1 + 1)), (by first | rfl | (simp; done) | (simp [*]; done)), H', ⟨by have := HK1.out; omega⟩, ⟨by (with_reducible repeat (first | apply Kd.R_alloc | apply Kd.R_drewN | apply Kd.R_drew)); exact HO_4.out⟩, ⟨by repeat (first | (with_reducible first | exact HB.out | apply below_alloc | apply pw_below_drewN | apply below_drew1) | exact HB.out | exact Below.refl _ _)⟩⟩
              · rw [if_neg c8] at H
                exact absurd H (by simp)
            · rw [if_neg c7] at H
              exact absurd H (by simp)
          · rw [if_neg c6] at H
            have c6b0 : decide (((rdOf ByteArray.empty t138 x5_1).size : Int) ≤ (a0.size : Int)) = false := decide_eq_false c6
            have c6b1 : decide ((rdOf ByteArray.empty t138 x5_1).size ≤ a0.size) = false := decide_eq_false (fun h => c6 (Int.ofNat_le.mpr h))
            clear c6
            have H' := Aside0.mk H
            clear H
            obtain ⟨Ao12, co12, eo12⟩ := Kd.R_slice HO_4.out
            subst eo12
            have p141 : 0 ≤ (x5_1 : Int) := of_decide_eq_true (by first | (with_reducible assumption) | assumption)
            have q141 : x5_1 < (t138.length : Int) := of_decide_eq_true (by first | (with_reducible assumption) | assumption)
            obtain ⟨ad141, e141, hx141_0⟩ := Kd.at_string (Kd.R_reads' HO_4.out).2.2 x5_1 p141 q141
            cases e141
            replace p141 := eq_true p141
            replace q141 := eq_true q141
            go_wp2
            repeat (go_quiet (fail); try go_wp2)
            go_roundg k1
            case measure => have := HK1.out; omega
            case rel => exact ⟨(wrap64 (x5_1 + 1)), (by first | rfl | (simp; done) | (simp [*]; done)), H', ⟨by have := HK1.out; omega⟩, ⟨by (with_reducible repeat (first | apply Kd.R_alloc | apply Kd.R_drewN | apply Kd.R_drew)); exact HO_4.out⟩, ⟨by repeat (first | (with_reducible first | exact HB.out | apply below_alloc | apply pw_below_drewN | apply below_drew1) | exact HB.out | exact Below.refl _ _)⟩⟩
        · rw [if_neg c5] at H
          exact absurd H (by simp)
      · rw [if_neg c4] at H
        have c4b0 : decide (x5_1 < (t138.length : Int)) = false := decide_eq_false c4
        clear c4
        have HC13 := Aside0.mk H
        clear H
        obtain ⟨Ao14, co14, eo14⟩ := Kd.R_slice HO_4.out
        subst eo14
        go_upto_region 8 with (fail)
        repeat (go_quiet (fail); go_upto_region 8 with (fail))
        go_cut [43] (fun v43 wc => ∃ (kq : Nat) (x43_12 : Bool), v43 = .bool x43_12 ∧ Aside0 (riffleref02_First.j1 kq a0 x43_12 = some (r1, r2)) ∧ Aside0 (kq ≤ k1) ∧ Aside0 (Below w.heap.size w wc))
        case first =>
          have H := HC13.out
          clear HC13
          by_cases c15 : a0.toList = ([] : List UInt8)
          · rw [if_pos c15] at H
            have c15b0 : (a0.toList == ([] : List UInt8)) = true := beq_iff_eq.mpr c15
            have c15b1 : (a0.toList != ([] : List UInt8)) = false := bne_eq_false_iff_eq.mpr c15
            clear c15
            (first | rw [c15b0] | (simp only [i64_w, i32_w]; rw [c15b0]) | skip)
            have H' := Aside0.mk H
            clear H
            go_wp2
            repeat (go_quiet (fail); try go_wp2)
            go_meet
            case rel => exact ⟨_, (true), (by first | rfl | (simp; done) | (simp [*]; done)), H', ⟨by have := HK1.out; first | omega | exact Nat.le_refl _⟩, ⟨by repeat (first | (with_reducible first | exact HB.out | apply below_alloc | apply pw_below_drewN | apply below_drew1) | exact HB.out | exact Below.refl _ _)⟩⟩
          · rw [if_neg c15] at H
            have c15b0 : (a0.toList == ([] : List UInt8)) = false := beq_eq_false_iff_ne.mpr c15
            have c15b1 : (a0.toList != ([] : List UInt8)) = true := bne_iff_ne.mpr c15
            (first | rw [c15b0] | (simp only [i64_w, i32_w]; rw [c15b0]) | skip)
            by_cases c16 : 0 < (a0.size : Int)
            · rw [if_pos c16] at H
              have c16b0 : decide (0 < (a0.size : Int)) = true := decide_eq_true c16
              have c16b1 : decide (0 < a0.size) = true := decide_eq_true (by omega)
              clear c16
              have H' := Aside0.mk H
              clear H
              have p17 : 0 ≤ (0 : Int) := (by omega)
              have q17 : 0 < a0.size := (by have : (0 : Int) < (a0.size : Int) := of_decide_eq_true (by first | (with_reducible assumption) | assumption); omega)
              have hx17 : ∀ h : 0 < a0.size, ((a0[0]'h).toNat : Int) = bt a0 0 := bt_at a0 0
              clear p17
              have qi17 : (0 < (a0.size : Int)) = True := eq_true (of_decide_eq_true (by first | (with_reducible assumption) | assumption))
              replace q17 := eq_true q17
              go_wp2
              repeat (go_quiet (fail); try go_wp2)
              go_meet
              case rel => exact ⟨_, (((bt a0 0) != 96)), (by first | rfl | (simp; done) | (simp [*]; done)), H', ⟨by have := HK1.out; first | omega | exact Nat.le_refl _⟩, ⟨by repeat (first | (with_reducible first | exact HB.out | apply below_alloc | apply pw_below_drewN | apply below_drew1) | exact HB.out | exact Below.refl _ _)⟩⟩
            · rw [if_neg c16] at H
              exact absurd H (by simp)
        case rest =>
          clear HC13
          try clear c1
          try clear p1
          try clear q1
          try clear hx1
          try clear qi1
          try clear p2
          try clear c4
          try clear c4b0
          try clear c5
          try clear c5b0
          try clear c6
          try clear c6b0
          try clear c6b1
          try clear p6
          try clear c7
          try clear c7b0
          try clear c7b1
          try clear c8
          try clear c8b0
          try clear c8b1
          try clear c9
          try clear c9b0
          try clear c9b1
          try clear c13
          try clear p14
          try clear q14
          try clear hx14
          try clear c15
          try clear c15b0
          try clear c15b1
          try clear c16
          try clear c16b0
          try clear c16b1
          try clear p17
          try clear q17
          try clear hx17
          try clear qi17
          try clear hx141_0
          try clear hx142_0
          try clear p141
          try clear p142
          try clear p17
          try clear p2
          try clear q141
          try clear q142
          try clear q17
          obtain ⟨kq, x43_12, rfl, HA, HJ12, HB⟩ := hcut
          cases kq with
          | zero => exact absurd HA.out (by simp [riffleref02_First.j1])
          | succ kj12 =>
            have H := HA.out
            clear HA
            simp only [riffleref02_First.j1] at H
            by_cases c18 : x43_12 = true
            · subst c18
              have H1 : (some (0, 0)) = some (r1, r2) := by rw [if_pos rfl] at H; exact H
              clear H
              have H := H1
              clear H1
              simp only [Option.some.injEq, Prod.mk.injEq] at H
              obtain ⟨rfl, rfl⟩ := H
              go_wp2
              repeat (go_quiet (fail); try go_wp2)
              go_ret2
              exact ⟨by first | rfl | (simp [errW_none, errW_some] <;> rfl) | (simp [*, errW_none, errW_some] <;> rfl), by repeat (first | (with_reducible first | exact HB.out | apply below_alloc | apply pw_below_drewN | apply below_drew1) | exact HB.out | exact Below.refl _ _)⟩
            · replace c18 := Bool.eq_false_iff.mpr c18
              subst c18
              have H1 : (riffleref02_First.l1 kj12 a0 1) = some (r1, r2) := by rw [if_neg (show ¬ (false = true) by decide)] at H; exact H
              clear H
              have H := H1
              clear H1
              have H' := Aside0.mk H
              clear H
              go_wp2
              repeat (go_quiet (fail); try go_wp2)
              go_loopg [7] kj12 (fun kq v7 w' => ∃ (x7_3 : Int), v7 = .int .i64 x7_3 ∧ Aside0 (riffleref02_First.l1 kq a0 x7_3 = some (r1, r2)) ∧ Aside0 (kq ≤ kj12) ∧ Aside0 (Below w.heap.size w w'))
              case atStart => exact ⟨(1), (by first | rfl | (simp; done) | (simp [*]; done)), H', ⟨Nat.le_refl _⟩, ⟨by repeat (first | (with_reducible first | exact HB.out | apply below_alloc | apply pw_below_drewN | apply below_drew1) | exact HB.out | exact Below.refl _ _)⟩⟩
              case round =>
                clear H'
                try clear c1
                try clear p1
                try clear q1
                try clear hx1
                try clear qi1
                try clear p2
                try clear c4
                try clear c4b0
                try clear c5
                try clear c5b0
                try clear c6
                try clear c6b0
                try clear c6b1
                try clear p6
                try clear c7
                try clear c7b0
                try clear c7b1
                try clear c8
                try clear c8b0
                try clear c8b1
                try clear c9
                try clear c9b0
                try clear c9b1
                try clear c13
                try clear p14
                try clear q14
                try clear hx14
                try clear c15
                try clear c15b0
                try clear c15b1
                try clear c16
                try clear c16b0
                try clear c16b1
                try clear p17
                try clear q17
                try clear hx17
                try clear qi17
                try clear c18
                try clear hx141_0
                try clear hx142_0
                try clear p1
                try clear p14
                try clear p141
                try clear p142
                try clear p17
                try clear p2
                try clear p6
                try clear q1
                try clear q14
                try clear q141
                try clear q142
                try clear q17
                obtain ⟨x7_3, rfl, HA, HK3, HB⟩ := hrel
                cases gk with
                | zero => exact absurd HA.out (by simp [riffleref02_First.l1])
                | succ k3 =>
                  have H := HA.out
                  clear HA
                  simp only [riffleref02_First.l1] at H
                  by_cases c19 : x7_3 < (a0.size : Int)
                  · rw [if_pos c19] at H
                    have c19b0 : decide (x7_3 < (a0.size : Int)) = true := decide_eq_true c19
                    clear c19
                    by_cases c20 : 0 ≤ x7_3
                    · rw [if_pos c20] at H
                      have c20b0 : decide (0 ≤ x7_3) = true := decide_eq_true c20
                      clear c20
                      by_cases c22 : (bt a0 x7_3) ≥ 97
                      · rw [if_pos c22] at H
                        have c22b0 : decide (97 ≤ (bt a0 x7_3)) = true := decide_eq_true c22
                        clear c22
                        by_cases c24 : (bt a0 x7_3) ≤ 122
                        · rw [if_pos c24] at H
                          have c24b0 : decide ((bt a0 x7_3) ≤ 122) = true := decide_eq_true c24
                          clear c24
                          have H' := Aside0.mk H
                          clear H
                          have p21 : 0 ≤ (x7_3 : Int) := of_decide_eq_true (by first | (with_reducible assumption) | assumption)
                          have q21 : x7_3 < (a0.size : Int) := of_decide_eq_true (by first | (with_reducible assumption) | assumption)
                          have hx21 := bt_at a0 x7_3
                          replace p21 := eq_true p21
                          replace q21 := eq_true q21
                          have p23 : 0 ≤ (x7_3 : Int) := of_decide_eq_true (by first | (with_reducible assumption) | assumption)
                          have q23 : x7_3 < (a0.size : Int) := of_decide_eq_true (by first | (with_reducible assumption) | assumption)
                          have hx23 := bt_at a0 x7_3
                          replace p23 := eq_true p23
                          replace q23 := eq_true q23
                          go_wp2
                          repeat (go_quiet (fail); try go_wp2)
                          go_roundg k3
                          case measure => have := HK1.out; have := HJ12.out; have := HK3.out; omega
                          case rel => exact ⟨(wrap64 (x7_3 + 1)), (by first | rfl | (simp; done) | (simp [*]; done)), H', ⟨by have := HK1.out; have := HJ12.out; have := HK3.out; omega⟩, ⟨by repeat (first | (with_reducible first | exact HB.out | apply below_alloc | apply pw_below_drewN | apply below_drew1) | exact HB.out | exact Below.refl _ _)⟩⟩
                        · rw [if_neg c24] at H
                          have c24b0 : decide ((bt a0 x7_3) ≤ 122) = false := decide_eq_false c24
                          clear c24
                          by_cases c25 : 1 ≤ x7_3
                          · rw [if_pos c25] at H
                            have c25b0 := eq_true c25
                            have c25b1 : decide (1 ≤ x7_3) = true := decide_eq_true c25
                            clear c25
                            by_cases c26 : x7_3 ≤ (a0.size : Int)
                            · rw [if_pos c26] at H
                              have c26b0 := eq_true c26
                              have c26b1 : decide (x7_3 ≤ (a0.size : Int)) = true := decide_eq_true c26
                              clear c26
                              replace H := Option.bind_eq_some_iff.mp H
                              obtain ⟨t143, A270, H⟩ := H
                              replace H : (if t143 = 0 then (some (0, 0)) else (some (t143, x7_3))) = some (r1, r2) := H
                              have A27 := Aside0.mk A270
                              clear A270
                              by_cases c28 : t143 = 0
                              · rw [if_pos c28] at H
                                have c28b0 : (t143 == 0) = true := beq_iff_eq.mpr c28
                                have c28b1 : (t143 != 0) = false := bne_eq_false_iff_eq.mpr c28
                                clear c28
                                simp only [Option.some.injEq, Prod.mk.injEq] at H
                                obtain ⟨rfl, rfl⟩ := H
                                have p21 : 0 ≤ (x7_3 : Int) := of_decide_eq_true (by first | (with_reducible assumption) | assumption)
                                have q21 : x7_3 < (a0.size : Int) := of_decide_eq_true (by first | (with_reducible assumption) | assumption)
                                have hx21 := bt_at a0 x7_3
                                replace p21 := eq_true p21
                                replace q21 := eq_true q21
                                have p23 : 0 ≤ (x7_3 : Int) := of_decide_eq_true (by first | (with_reducible assumption) | assumption)
                                have q23 : x7_3 < (a0.size : Int) := of_decide_eq_true (by first | (with_reducible assumption) | assumption)
                                have hx23 := bt_at a0 x7_3
                                replace p23 := eq_true p23
                                replace q23 := eq_true q23
                                go_wp2_with (first | (go_at_call 18; (with_reducible refine (riffleref02_Named.calls k3 (a0.extract 1 (x7_3 : Int).toNat) t143 _ (GL.below HG.out (by repeat (first | (with_reducible first | exact HB.out | apply below_alloc | apply pw_below_drewN | apply below_drew1) | exact HB.out | exact Below.refl _ _))) A27.out).mono ?_); rintro e w29 ⟨rfl, hb⟩; have n0_ := Aside0.mk (below_step (by repeat (first | (with_reducible first | exact HB.out | apply below_alloc | apply pw_below_drewN | apply below_drew1) | exact HB.out | exact Below.refl _ _)) hb); clear HB; have HB := n0_; clear n0_; (try clear hb); (try clear hb2); (try clear hk); (try clear hi)))
                                repeat (go_quiet (first | (go_at_call 18; (with_reducible refine (riffleref02_Named.calls k3 (a0.extract 1 (x7_3 : Int).toNat) t143 _ (GL.below HG.out (by repeat (first | (with_reducible first | exact HB.out | apply below_alloc | apply pw_below_drewN | apply below_drew1) | exact HB.out | exact Below.refl _ _))) A27.out).mono ?_); rintro e w29 ⟨rfl, hb⟩; have n0_ := Aside0.mk (below_step (by repeat (first | (with_reducible first | exact HB.out | apply below_alloc | apply pw_below_drewN | apply below_drew1) | exact HB.out | exact Below.refl _ _)) hb); clear HB; have HB := n0_; clear n0_; (try clear hb); (try clear hb2); (try clear hk); (try clear hi))); try go_wp2_with (first | (go_at_call 18; (with_reducible refine (riffleref02_Named.calls k3 (a0.extract 1 (x7_3 : Int).toNat) t143 _ (GL.below HG.out (by repeat (first | (with_reducible first | exact HB.out | apply below_alloc | apply pw_below_drewN | apply below_drew1) | exact HB.out | exact Below.refl _ _))) A27.out).mono ?_); rintro e w29 ⟨rfl, hb⟩; have n0_ := Aside0.mk (below_step (by repeat (first | (with_reducible first | exact HB.out | apply below_alloc | apply pw_below_drewN | apply below_drew1) | exact HB.out | exact Below.refl _ _)) hb); clear HB; have HB := n0_; clear n0_; (try clear hb); (try clear hb2); (try clear hk); (try clear hi))))
                                go_ret2
                                exact ⟨by first | rfl | (simp [errW_none, errW_some] <;> rfl) | (simp [*, errW_none, errW_some] <;> rfl), by repeat (first | (with_reducible first | exact HB.out | apply below_alloc | apply pw_below_drewN | apply below_drew1) | exact HB.out | exact Below.refl _ _)⟩
                              · rw [if_neg c28] at H
                                have c28b0 : (t143 == 0) = false := beq_eq_false_iff_ne.mpr c28
                                have c28b1 : (t143 != 0) = true := bne_iff_ne.mpr c28
                                simp only [Option.some.injEq, Prod.mk.injEq] at H
                                obtain ⟨rfl, rfl⟩ := H
                                have p21 : 0 ≤ (x7_3 : Int) := of_decide_eq_true (by first | (with_reducible assumption) | assumption)
                                have q21 : x7_3 < (a0.size : Int) := of_decide_eq_true (by first | (with_reducible assumption) | assumption)
                                have hx21 := bt_at a0 x7_3
                                replace p21 := eq_true p21
                                replace q21 := eq_true q21
                                have p23 : 0 ≤ (x7_3 : Int) := of_decide_eq_true (by first | (with_reducible assumption) | assumption)
                                have q23 : x7_3 < (a0.size : Int) := of_decide_eq_true (by first | (with_reducible assumption) | assumption)
                                have hx23 := bt_at a0 x7_3
                                replace p23 := eq_true p23
                                replace q23 := eq_true q23
                                go_wp2_with (first | (go_at_call 18; (with_reducible refine (riffleref02_Named.calls k3 (a0.extract 1 (x7_3 : Int).toNat) t143 _ (GL.below HG.out (by repeat (first | (with_reducible first | exact HB.out | apply below_alloc | apply pw_below_drewN | apply below_drew1) | exact HB.out | exact Below.refl _ _))) A27.out).mono ?_); rintro e w30 ⟨rfl, hb⟩; have n0_ := Aside0.mk (below_step (by repeat (first | (with_reducible first | exact HB.out | apply below_alloc | apply pw_below_drewN | apply below_drew1) | exact HB.out | exact Below.refl _ _)) hb); clear HB; have HB := n0_; clear n0_; (try clear hb); (try clear hb2); (try clear hk); (try clear hi)))
                                repeat (go_quiet (first | (go_at_call 18; (with_reducible refine (riffleref02_Named.calls k3 (a0.extract 1 (x7_3 : Int).toNat) t143 _ (GL.below HG.out (by repeat (first | (with_reducible first | exact HB.out | apply below_alloc | apply pw_below_drewN | apply below_drew1) | exact HB.out | exact Below.refl _ _))) A27.out).mono ?_); rintro e w30 ⟨rfl, hb⟩; have n0_ := Aside0.mk (below_step (by repeat (first | (with_reducible first | exact HB.out | apply below_alloc | apply pw_below_drewN | apply below_drew1) | exact HB.out | exact Below.refl _ _)) hb); clear HB; have HB := n0_; clear n0_; (try clear hb); (try clear hb2); (try clear hk); (try clear hi))); try go_wp2_with (first | (go_at_call 18; (with_reducible refine (riffleref02_Named.calls k3 (a0.extract 1 (x7_3 : Int).toNat) t143 _ (GL.below HG.out (by repeat (first | (with_reducible first | exact HB.out | apply below_alloc | apply pw_below_drewN | apply below_drew1) | exact HB.out | exact Below.refl _ _))) A27.out).mono ?_); rintro e w30 ⟨rfl, hb⟩; have n0_ := Aside0.mk (below_step (by repeat (first | (with_reducible first | exact HB.out | apply below_alloc | apply pw_below_drewN | apply below_drew1) | exact HB.out | exact Below.refl _ _)) hb); clear HB; have HB := n0_; clear n0_; (try clear hb); (try clear hb2); (try clear hk); (try clear hi))))
                                go_ret2
                                exact ⟨by first | rfl | (simp [errW_none, errW_some] <;> rfl) | (simp [*, errW_none, errW_some] <;> rfl), by repeat (first | (with_reducible first | exact HB.out | apply below_alloc | apply pw_below_drewN | apply below_drew1) | exact HB.out | exact Below.refl _ _)⟩
                            · rw [if_neg c26] at H
                              exact absurd H (by simp)
                          · rw [if_neg c25] at H
                            exact absurd H (by simp)
                      · rw [if_neg c22] at H
                        have c22b0 : decide (97 ≤ (bt a0 x7_3)) = false := decide_eq_false c22
                        clear c22
                        by_cases c31 : 1 ≤ x7_3
                        · rw [if_pos c31] at H
                          have c31b0 := eq_true c31
                          have c31b1 : decide (1 ≤ x7_3) = true := decide_eq_true c31
                          clear c31
                          by_cases c32 : x7_3 ≤ (a0.size : Int)
                          · rw [if_pos c32] at H
                            have c32b0 := eq_true c32
                            have c32b1 : decide (x7_3 ≤ (a0.size : Int)) = true := decide_eq_true c32
                            clear c32
                            replace H := Option.bind_eq_some_iff.mp H
                            obtain ⟨t144, A330, H⟩ := H
                            replace H : (if t144 = 0 then (some (0, 0)) else (some (t144, x7_3))) = some (r1, r2) := H
                            have A33 := Aside0.mk A330
                            clear A330
                            by_cases c34 : t144 = 0
                            · rw [if_pos c34] at H
                              have c34b0 : (t144 == 0) = true := beq_iff_eq.mpr c34
                              have c34b1 : (t144 != 0) = false := bne_eq_false_iff_eq.mpr c34
                              clear c34
                              simp only [Option.some.injEq, Prod.mk.injEq] at H
                              obtain ⟨rfl, rfl⟩ := H
                              have p21 : 0 ≤ (x7_3 : Int) := of_decide_eq_true (by first | (with_reducible assumption) | assumption)
                              have q21 : x7_3 < (a0.size : Int) := of_decide_eq_true (by first | (with_reducible assumption) | assumption)
                              have hx21 := bt_at a0 x7_3
                              replace p21 := eq_true p21
                              replace q21 := eq_true q21
                              go_wp2_with (first | (go_at_call 18; (with_reducible refine (riffleref02_Named.calls k3 (a0.extract 1 (x7_3 : Int).toNat) t144 _ (GL.below HG.out (by repeat (first | (with_reducible first | exact HB.out | apply below_alloc | apply pw_below_drewN | apply below_drew1) | exact HB.out | exact Below.refl _ _))) A33.out).mono ?_); rintro e w35 ⟨rfl, hb⟩; have n0_ := Aside0.mk (below_step (by repeat (first | (with_reducible first | exact HB.out | apply below_alloc | apply pw_below_drewN | apply below_drew1) | exact HB.out | exact Below.refl _ _)) hb); clear HB; have HB := n0_; clear n0_; (try clear hb); (try clear hb2); (try clear hk); (try clear hi)))
                              repeat (go_quiet (first | (go_at_call 18; (with_reducible refine (riffleref02_Named.calls k3 (a0.extract 1 (x7_3 : Int).toNat) t144 _ (GL.below HG.out (by repeat (first | (with_reducible first | exact HB.out | apply below_alloc | apply pw_below_drewN | apply below_drew1) | exact HB.out | exact Below.refl _ _))) A33.out).mono ?_); rintro e w35 ⟨rfl, hb⟩; have n0_ := Aside0.mk (below_step (by repeat (first | (with_reducible first | exact HB.out | apply below_alloc | apply pw_below_drewN | apply below_drew1) | exact HB.out | exact Below.refl _ _)) hb); clear HB; have HB := n0_; clear n0_; (try clear hb); (try clear hb2); (try clear hk); (try clear hi))); try go_wp2_with (first | (go_at_call 18; (with_reducible refine (riffleref02_Named.calls k3 (a0.extract 1 (x7_3 : Int).toNat) t144 _ (GL.below HG.out (by repeat (first | (with_reducible first | exact HB.out | apply below_alloc | apply pw_below_drewN | apply below_drew1) | exact HB.out | exact Below.refl _ _))) A33.out).mono ?_); rintro e w35 ⟨rfl, hb⟩; have n0_ := Aside0.mk (below_step (by repeat (first | (with_reducible first | exact HB.out | apply below_alloc | apply pw_below_drewN | apply below_drew1) | exact HB.out | exact Below.refl _ _)) hb); clear HB; have HB := n0_; clear n0_; (try clear hb); (try clear hb2); (try clear hk); (try clear hi))))
                              go_ret2
                              exact ⟨by first | rfl | (simp [errW_none, errW_some] <;> rfl) | (simp [*, errW_none, errW_some] <;> rfl), by repeat (first | (with_reducible first | exact HB.out | apply below_alloc | apply pw_below_drewN | apply below_drew1) | exact HB.out | exact Below.refl _ _)⟩
                            · rw [if_neg c34] at H
                              have c34b0 : (t144 == 0) = false := beq_eq_false_iff_ne.mpr c34
                              have c34b1 : (t144 != 0) = true := bne_iff_ne.mpr c34
                              simp only [Option.some.injEq, Prod.mk.injEq] at H
                              obtain ⟨rfl, rfl⟩ := H
                              have p21 : 0 ≤ (x7_3 : Int) := of_decide_eq_true (by first | (with_reducible assumption) | assumption)
                              have q21 : x7_3 < (a0.size : Int) := of_decide_eq_true (by first | (with_reducible assumption) | assumption)
                              have hx21 := bt_at a0 x7_3
                              replace p21 := eq_true p21
                              replace q21 := eq_true q21
                              go_wp2_with (first | (go_at_call 18; (with_reducible refine (riffleref02_Named.calls k3 (a0.extract 1 (x7_3 : Int).toNat) t144 _ (GL.below HG.out (by repeat (first | (with_reducible first | exact HB.out | apply below_alloc | apply pw_below_drewN | apply below_drew1) | exact HB.out | exact Below.refl _ _))) A33.out).mono ?_); rintro e w36 ⟨rfl, hb⟩; have n0_ := Aside0.mk (below_step (by repeat (first | (with_reducible first | exact HB.out | apply below_alloc | apply pw_below_drewN | apply below_drew1) | exact HB.out | exact Below.refl _ _)) hb); clear HB; have HB := n0_; clear n0_; (try clear hb); (try clear hb2); (try clear hk); (try clear hi)))
                              repeat (go_quiet (first | (go_at_call 18; (with_reducible refine (riffleref02_Named.calls k3 (a0.extract 1 (x7_3 : Int).toNat) t144 _ (GL.below HG.out (by repeat (first | (with_reducible first | exact HB.out | apply below_alloc | apply pw_below_drewN | apply below_drew1) | exact HB.out | exact Below.refl _ _))) A33.out).mono ?_); rintro e w36 ⟨rfl, hb⟩; have n0_ := Aside0.mk (below_step (by repeat (first | (with_reducible first | exact HB.out | apply below_alloc | apply pw_below_drewN | apply below_drew1) | exact HB.out | exact Below.refl _ _)) hb); clear HB; have HB := n0_; clear n0_; (try clear hb); (try clear hb2); (try clear hk); (try clear hi))); try go_wp2_with (first | (go_at_call 18; (with_reducible refine (riffleref02_Named.calls k3 (a0.extract 1 (x7_3 : Int).toNat) t144 _ (GL.below HG.out (by repeat (first | (with_reducible first | exact HB.out | apply below_alloc | apply pw_below_drewN | apply below_drew1) | exact HB.out | exact Below.refl _ _))) A33.out).mono ?_); rintro e w36 ⟨rfl, hb⟩; have n0_ := Aside0.mk (below_step (by repeat (first | (with_reducible first | exact HB.out | apply below_alloc | apply pw_below_drewN | apply below_drew1) | exact HB.out | exact Below.refl _ _)) hb); clear HB; have HB := n0_; clear n0_; (try clear hb); (try clear hb2); (try clear hk); (try clear hi))))
                              go_ret2
                              exact ⟨by first | rfl | (simp [errW_none, errW_some] <;> rfl) | (simp [*, errW_none, errW_some] <;> rfl), by repeat (first | (with_reducible first | exact HB.out | apply below_alloc | apply pw_below_drewN | apply below_drew1) | exact HB.out | exact Below.refl _ _)⟩
                          · rw [if_neg c32] at H
                            exact absurd H (by simp)
                        · rw [if_neg c31] at H
                          exact absurd H (by simp)
                    · rw [if_neg c20] at H
                      exact absurd H (by simp)
                  · rw [if_neg c19] at H
                    have c19b0 : decide (x7_3 < (a0.size : Int)) = false := decide_eq_false c19
                    clear c19
                    by_cases c37 : 1 ≤ x7_3
                    · rw [if_pos c37] at H
                      have c37b0 := eq_true c37
                      have c37b1 : decide (1 ≤ x7_3) = true := decide_eq_true c37
                      clear c37
                      by_cases c38 : x7_3 ≤ (a0.size : Int)
                      · rw [if_pos c38] at H
                        have c38b0 := eq_true c38
                        have c38b1 : decide (x7_3 ≤ (a0.size : Int)) = true := decide_eq_true c38
                        clear c38
                        replace H := Option.bind_eq_some_iff.mp H
                        obtain ⟨t145, A390, H⟩ := H
                        replace H : (if t145 = 0 then (some (0, 0)) else (some (t145, x7_3))) = some (r1, r2) := H
                        have A39 := Aside0.mk A390
                        clear A390
                        by_cases c40 : t145 = 0
                        · rw [if_pos c40] at H
                          have c40b0 : (t145 == 0) = true := beq_iff_eq.mpr c40
                          have c40b1 : (t145 != 0) = false := bne_eq_false_iff_eq.mpr c40
                          clear c40
                          simp only [Option.some.injEq, Prod.mk.injEq] at H
                          obtain ⟨rfl, rfl⟩ := H
                          go_wp2_with (first | (go_at_call 18; (with_reducible refine (riffleref02_Named.calls k3 (a0.extract 1 (x7_3 : Int).toNat) t145 _ (GL.below HG.out (by repeat (first | (with_reducible first | exact HB.out | apply below_alloc | apply pw_below_drewN | apply below_drew1) | exact HB.out | exact Below.refl _ _))) A39.out).mono ?_); rintro e w41 ⟨rfl, hb⟩; have n0_ := Aside0.mk (below_step (by repeat (first | (with_reducible first | exact HB.out | apply below_alloc | apply pw_below_drewN | apply below_drew1) | exact HB.out | exact Below.refl _ _)) hb); clear HB; have HB := n0_; clear n0_; (try clear hb); (try clear hb2); (try clear hk); (try clear hi)))
                          repeat (go_quiet (first | (go_at_call 18; (with_reducible refine (riffleref02_Named.calls k3 (a0.extract 1 (x7_3 : Int).toNat) t145 _ (GL.below HG.out (by repeat (first | (with_reducible first | exact HB.out | apply below_alloc | apply pw_below_drewN | apply below_drew1) | exact HB.out | exact Below.refl _ _))) A39.out).mono ?_); rintro e w41 ⟨rfl, hb⟩; have n0_ := Aside0.mk (below_step (by repeat (first | (with_reducible first | exact HB.out | apply below_alloc | apply pw_below_drewN | apply below_drew1) | exact HB.out | exact Below.refl _ _)) hb); clear HB; have HB := n0_; clear n0_; (try clear hb); (try clear hb2); (try clear hk); (try clear hi))); try go_wp2_with (first | (go_at_call 18; (with_reducible refine (riffleref02_Named.calls k3 (a0.extract 1 (x7_3 : Int).toNat) t145 _ (GL.below HG.out (by repeat (first | (with_reducible first | exact HB.out | apply below_alloc | apply pw_below_drewN | apply below_drew1) | exact HB.out | exact Below.refl _ _))) A39.out).mono ?_); rintro e w41 ⟨rfl, hb⟩; have n0_ := Aside0.mk (below_step (by repeat (first | (with_reducible first | exact HB.out | apply below_alloc | apply pw_below_drewN | apply below_drew1) | exact HB.out | exact Below.refl _ _)) hb); clear HB; have HB := n0_; clear n0_; (try clear hb); (try clear hb2); (try clear hk); (try clear hi))))
                          go_ret2
                          exact ⟨by first | rfl | (simp [errW_none, errW_some] <;> rfl) | (simp [*, errW_none, errW_some] <;> rfl), by repeat (first | (with_reducible first | exact HB.out | apply below_alloc | apply pw_below_drewN | apply below_drew1) | exact HB.out | exact Below.refl _ _)⟩
                        · rw [if_neg c40] at H
                          have c40b0 : (t145 == 0) = false := beq_eq_false_iff_ne.mpr c40
                          have c40b1 : (t145 != 0) = true := bne_iff_ne.mpr c40
                          simp only [Option.some.injEq, Prod.mk.injEq] at H
                          obtain ⟨rfl, rfl⟩ := H
                          go_wp2_with (first | (go_at_call 18; (with_reducible refine (riffleref02_Named.calls k3 (a0.extract 1 (x7_3 : Int).toNat) t145 _ (GL.below HG.out (by repeat (first | (with_reducible first | exact HB.out | apply below_alloc | apply pw_below_drewN | apply below_drew1) | exact HB.out | exact Below.refl _ _))) A39.out).mono ?_); rintro e w42 ⟨rfl, hb⟩; have n0_ := Aside0.mk (below_step (by repeat (first | (with_reducible first | exact HB.out | apply below_alloc | apply pw_below_drewN | apply below_drew1) | exact HB.out | exact Below.refl _ _)) hb); clear HB; have HB := n0_; clear n0_; (try clear hb); (try clear hb2); (try clear hk); (try clear hi)))
                          repeat (go_quiet (first | (go_at_call 18; (with_reducible refine (riffleref02_Named.calls k3 (a0.extract 1 (x7_3 : Int).toNat) t145 _ (GL.below HG.out (by repeat (first | (with_reducible first | exact HB.out | apply below_alloc | apply pw_below_drewN | apply below_drew1) | exact HB.out | exact Below.refl _ _))) A39.out).mono ?_); rintro e w42 ⟨rfl, hb⟩; have n0_ := Aside0.mk (below_step (by repeat (first | (with_reducible first | exact HB.out | apply below_alloc | apply pw_below_drewN | apply below_drew1) | exact HB.out | exact Below.refl _ _)) hb); clear HB; have HB := n0_; clear n0_; (try clear hb); (try clear hb2); (try clear hk); (try clear hi))); try go_wp2_with (first | (go_at_call 18; (with_reducible refine (riffleref02_Named.calls k3 (a0.extract 1 (x7_3 : Int).toNat) t145 _ (GL.below HG.out (by repeat (first | (with_reducible first | exact HB.out | apply below_alloc | apply pw_below_drewN | apply below_drew1) | exact HB.out | exact Below.refl _ _))) A39.out).mono ?_); rintro e w42 ⟨rfl, hb⟩; have n0_ := Aside0.mk (below_step (by repeat (first | (with_reducible first | exact HB.out | apply below_alloc | apply pw_below_drewN | apply below_drew1) | exact HB.out | exact Below.refl _ _)) hb); clear HB; have HB := n0_; clear n0_; (try clear hb); (try clear hb2); (try clear hk); (try clear hi))))
                          go_ret2
                          exact ⟨by first | rfl | (simp [errW_none, errW_some] <;> rfl) | (simp [*, errW_none, errW_some] <;> rfl), by repeat (first | (with_reducible first | exact HB.out | apply below_alloc | apply pw_below_drewN | apply below_drew1) | exact HB.out | exact Below.refl _ _)⟩
                      · rw [if_neg c38] at H
                        exact absurd H (by simp)
                    · rw [if_neg c37] at H
                      exact absurd H (by simp)

/-! ### rifflelaw02_lives: function 14 -/
def rifflelaw02_lives.f (k : Nat)  : Option (Bool) := (glyph_First.f k (⟨#[226, 140, 136, 47, 120]⟩ : ByteArray)).bind fun bt146 => ((glyph_First.f k (⟨#[96, 109, 97, 120, 32, 120]⟩ : ByteArray)).bind fun bt148 => (if bt146.1 = 7 then (if bt146.2 = 3 then (if bt148.1 = 7 then (if bt148.2 = 4 then (some true) else (some false)) else (some false)) else (some false)) else (some false)))
theorem rifflelaw02_lives.mono : ∀ k, LeO (rifflelaw02_lives.f k ) (rifflelaw02_lives.f (k + 1) ) := by
  intro  k
  unfold rifflelaw02_lives.f
  repeat' first
      | (with_reducible exact glyph_First.mono _ _)
      | (with_reducible exact LeO.refl _)
      | (with_reducible exact LeO.none _)
      | (with_reducible refine LeO.ite ?_ ?_)
      | (with_reducible refine LeO.bind ?_ (fun _ => ?_))
      | exact glyph_First.mono _ _
      | exact LeO.none _
      | refine LeO.ite ?_ ?_
      | refine LeO.bind ?_ (fun _ => ?_)
set_option maxHeartbeats 8000000 in
set_option maxRecDepth 100000 in
theorem rifflelaw02_lives.calls (k : Nat)  (r : Bool) (w : World) (hG : GL w) (h : rifflelaw02_lives.f k  = some r) :
    Calls Tryd.prog 14 #[] w fun e w' => e = .returned (.bool r) ∧ Below w.heap.size w w' := by
  have HG := Aside0.mk hG
  clear hG
  have HB := Aside0.mk (Below.refl w.heap.size w)
  have H : ((glyph_First.f k (⟨#[226, 140, 136, 47, 120]⟩ : ByteArray)).bind fun bt146 => ((glyph_First.f k (⟨#[96, 109, 97, 120, 32, 120]⟩ : ByteArray)).bind fun bt148 => (if bt146.1 = 7 then (if bt146.2 = 3 then (if bt148.1 = 7 then (if bt148.2 = 4 then (some true) else (some false)) else (some false)) else (some false)) else (some false)))) = some r := h
  clear h
  replace H := Option.bind_eq_some_iff.mp H
  obtain ⟨⟨t146, t147⟩, A10, H⟩ := H
  replace H : ((glyph_First.f k (⟨#[96, 109, 97, 120, 32, 120]⟩ : ByteArray)).bind fun bt148 => (if t146 = 7 then (if t147 = 3 then (if bt148.1 = 7 then (if bt148.2 = 4 then (some true) else (some false)) else (some false)) else (some false)) else (some false))) = some r := H
  have A1 := Aside0.mk A10
  clear A10
  replace H := Option.bind_eq_some_iff.mp H
  obtain ⟨⟨t148, t149⟩, A20, H⟩ := H
  replace H : (if t146 = 7 then (if t147 = 3 then (if t148 = 7 then (if t149 = 4 then (some true) else (some false)) else (some false)) else (some false)) else (some false)) = some r := H
  have A2 := Aside0.mk A20
  clear A20
  by_cases c3 : t146 = 7
  · rw [if_pos c3] at H
    have c3b0 : (t146 == 7) = true := beq_iff_eq.mpr c3
    have c3b1 : (t146 != 7) = false := bne_eq_false_iff_eq.mpr c3
    clear c3
    by_cases c4 : t147 = 3
    · rw [if_pos c4] at H
      have c4b0 : (t147 == 3) = true := beq_iff_eq.mpr c4
      have c4b1 : (t147 != 3) = false := bne_eq_false_iff_eq.mpr c4
      clear c4
      by_cases c5 : t148 = 7
      · rw [if_pos c5] at H
        have c5b0 : (t148 == 7) = true := beq_iff_eq.mpr c5
        have c5b1 : (t148 != 7) = false := bne_eq_false_iff_eq.mpr c5
        clear c5
        by_cases c6 : t149 = 4
        · rw [if_pos c6] at H
          have c6b0 : (t149 == 4) = true := beq_iff_eq.mpr c6
          have c6b1 : (t149 != 4) = false := bne_eq_false_iff_eq.mpr c6
          clear c6
          obtain rfl := Option.some.inj H
          go_enter Tryd.func14, Tryd.ntmps14
          go_wp2_with (first | ((with_reducible refine gate_callee (f := 12) rfl ?_); refine goesL_ (some 6) rfl rfl Tryd.func12 (by kernel_rfl) rfl #[.string (⟨#[226, 140, 136, 47, 120]⟩ : ByteArray)] rfl (by (try simp only [List.map_toArray, List.map_cons, List.map_nil]); first | done | rfl | (simp only [List.length_drop, List.length_take]; rfl) | (simp [*] <;> (repeat' (first | rfl | apply And.intro)))) ?_; (with_reducible refine (glyph_First.calls k (⟨#[226, 140, 136, 47, 120]⟩ : ByteArray) t146 t147 _ (GL.below HG.out (by repeat (first | (with_reducible first | exact HB.out | apply below_alloc | apply pw_below_drewN | apply below_drew1) | exact HB.out | exact Below.refl _ _))) A1.out).mono ?_); rintro e w7 ⟨rfl, hb⟩; refine ⟨_, rfl, ?_⟩; have n0_ := Aside0.mk (below_step (by repeat (first | (with_reducible first | exact HB.out | apply below_alloc | apply pw_below_drewN | apply below_drew1) | exact HB.out | exact Below.refl _ _)) hb); clear HB; have HB := n0_; clear n0_; (try clear hb); (try clear hb2); (try clear hk); (try clear hi)) | ((with_reducible refine gate_callee (f := 12) rfl ?_); refine goesL_ (some 10) rfl rfl Tryd.func12 (by kernel_rfl) rfl #[.string (⟨#[96, 109, 97, 120, 32, 120]⟩ : ByteArray)] rfl (by (try simp only [List.map_toArray, List.map_cons, List.map_nil]); first | done | rfl | (simp only [List.length_drop, List.length_take]; rfl) | (simp [*] <;> (repeat' (first | rfl | apply And.intro)))) ?_; (with_reducible refine (glyph_First.calls k (⟨#[96, 109, 97, 120, 32, 120]⟩ : ByteArray) t148 t149 _ (GL.below HG.out (by repeat (first | (with_reducible first | exact HB.out | apply below_alloc | apply pw_below_drewN | apply below_drew1) | exact HB.out | exact Below.refl _ _))) A2.out).mono ?_); rintro e w8 ⟨rfl, hb⟩; refine ⟨_, rfl, ?_⟩; have n0_ := Aside0.mk (below_step (by repeat (first | (with_reducible first | exact HB.out | apply below_alloc | apply pw_below_drewN | apply below_drew1) | exact HB.out | exact Below.refl _ _)) hb); clear HB; have HB := n0_; clear n0_; (try clear hb); (try clear hb2); (try clear hk); (try clear hi)))
          go_ret
          exact ⟨by first | rfl | (simp [errW_none, errW_some] <;> rfl) | (simp [*, errW_none, errW_some] <;> rfl), by repeat (first | (with_reducible first | exact HB.out | apply below_alloc | apply pw_below_drewN | apply below_drew1) | exact HB.out | exact Below.refl _ _)⟩
        · rw [if_neg c6] at H
          have c6b0 : (t149 == 4) = false := beq_eq_false_iff_ne.mpr c6
          have c6b1 : (t149 != 4) = true := bne_iff_ne.mpr c6
          obtain rfl := Option.some.inj H
          go_enter Tryd.func14, Tryd.ntmps14
          go_wp2_with (first | ((with_reducible refine gate_callee (f := 12) rfl ?_); refine goesL_ (some 6) rfl rfl Tryd.func12 (by kernel_rfl) rfl #[.string (⟨#[226, 140, 136, 47, 120]⟩ : ByteArray)] rfl (by (try simp only [List.map_toArray, List.map_cons, List.map_nil]); first | done | rfl | (simp only [List.length_drop, List.length_take]; rfl) | (simp [*] <;> (repeat' (first | rfl | apply And.intro)))) ?_; (with_reducible refine (glyph_First.calls k (⟨#[226, 140, 136, 47, 120]⟩ : ByteArray) t146 t147 _ (GL.below HG.out (by repeat (first | (with_reducible first | exact HB.out | apply below_alloc | apply pw_below_drewN | apply below_drew1) | exact HB.out | exact Below.refl _ _))) A1.out).mono ?_); rintro e w9 ⟨rfl, hb⟩; refine ⟨_, rfl, ?_⟩; have n0_ := Aside0.mk (below_step (by repeat (first | (with_reducible first | exact HB.out | apply below_alloc | apply pw_below_drewN | apply below_drew1) | exact HB.out | exact Below.refl _ _)) hb); clear HB; have HB := n0_; clear n0_; (try clear hb); (try clear hb2); (try clear hk); (try clear hi)) | ((with_reducible refine gate_callee (f := 12) rfl ?_); refine goesL_ (some 10) rfl rfl Tryd.func12 (by kernel_rfl) rfl #[.string (⟨#[96, 109, 97, 120, 32, 120]⟩ : ByteArray)] rfl (by (try simp only [List.map_toArray, List.map_cons, List.map_nil]); first | done | rfl | (simp only [List.length_drop, List.length_take]; rfl) | (simp [*] <;> (repeat' (first | rfl | apply And.intro)))) ?_; (with_reducible refine (glyph_First.calls k (⟨#[96, 109, 97, 120, 32, 120]⟩ : ByteArray) t148 t149 _ (GL.below HG.out (by repeat (first | (with_reducible first | exact HB.out | apply below_alloc | apply pw_below_drewN | apply below_drew1) | exact HB.out | exact Below.refl _ _))) A2.out).mono ?_); rintro e w10 ⟨rfl, hb⟩; refine ⟨_, rfl, ?_⟩; have n0_ := Aside0.mk (below_step (by repeat (first | (with_reducible first | exact HB.out | apply below_alloc | apply pw_below_drewN | apply below_drew1) | exact HB.out | exact Below.refl _ _)) hb); clear HB; have HB := n0_; clear n0_; (try clear hb); (try clear hb2); (try clear hk); (try clear hi)))
          go_ret
          exact ⟨by first | rfl | (simp [errW_none, errW_some] <;> rfl) | (simp [*, errW_none, errW_some] <;> rfl), by repeat (first | (with_reducible first | exact HB.out | apply below_alloc | apply pw_below_drewN | apply below_drew1) | exact HB.out | exact Below.refl _ _)⟩
      · rw [if_neg c5] at H
        have c5b0 : (t148 == 7) = false := beq_eq_false_iff_ne.mpr c5
        have c5b1 : (t148 != 7) = true := bne_iff_ne.mpr c5
        obtain rfl := Option.some.inj H
        go_enter Tryd.func14, Tryd.ntmps14
        go_wp2_with (first | ((with_reducible refine gate_callee (f := 12) rfl ?_); refine goesL_ (some 6) rfl rfl Tryd.func12 (by kernel_rfl) rfl #[.string (⟨#[226, 140, 136, 47, 120]⟩ : ByteArray)] rfl (by (try simp only [List.map_toArray, List.map_cons, List.map_nil]); first | done | rfl | (simp only [List.length_drop, List.length_take]; rfl) | (simp [*] <;> (repeat' (first | rfl | apply And.intro)))) ?_; (with_reducible refine (glyph_First.calls k (⟨#[226, 140, 136, 47, 120]⟩ : ByteArray) t146 t147 _ (GL.below HG.out (by repeat (first | (with_reducible first | exact HB.out | apply below_alloc | apply pw_below_drewN | apply below_drew1) | exact HB.out | exact Below.refl _ _))) A1.out).mono ?_); rintro e w11 ⟨rfl, hb⟩; refine ⟨_, rfl, ?_⟩; have n0_ := Aside0.mk (below_step (by repeat (first | (with_reducible first | exact HB.out | apply below_alloc | apply pw_below_drewN | apply below_drew1) | exact HB.out | exact Below.refl _ _)) hb); clear HB; have HB := n0_; clear n0_; (try clear hb); (try clear hb2); (try clear hk); (try clear hi)) | ((with_reducible refine gate_callee (f := 12) rfl ?_); refine goesL_ (some 10) rfl rfl Tryd.func12 (by kernel_rfl) rfl #[.string (⟨#[96, 109, 97, 120, 32, 120]⟩ : ByteArray)] rfl (by (try simp only [List.map_toArray, List.map_cons, List.map_nil]); first | done | rfl | (simp only [List.length_drop, List.length_take]; rfl) | (simp [*] <;> (repeat' (first | rfl | apply And.intro)))) ?_; (with_reducible refine (glyph_First.calls k (⟨#[96, 109, 97, 120, 32, 120]⟩ : ByteArray) t148 t149 _ (GL.below HG.out (by repeat (first | (with_reducible first | exact HB.out | apply below_alloc | apply pw_below_drewN | apply below_drew1) | exact HB.out | exact Below.refl _ _))) A2.out).mono ?_); rintro e w12 ⟨rfl, hb⟩; refine ⟨_, rfl, ?_⟩; have n0_ := Aside0.mk (below_step (by repeat (first | (with_reducible first | exact HB.out | apply below_alloc | apply pw_below_drewN | apply below_drew1) | exact HB.out | exact Below.refl _ _)) hb); clear HB; have HB := n0_; clear n0_; (try clear hb); (try clear hb2); (try clear hk); (try clear hi)))
        go_ret
        exact ⟨by first | rfl | (simp [errW_none, errW_some] <;> rfl) | (simp [*, errW_none, errW_some] <;> rfl), by repeat (first | (with_reducible first | exact HB.out | apply below_alloc | apply pw_below_drewN | apply below_drew1) | exact HB.out | exact Below.refl _ _)⟩
    · rw [if_neg c4] at H
      have c4b0 : (t147 == 3) = false := beq_eq_false_iff_ne.mpr c4
      have c4b1 : (t147 != 3) = true := bne_iff_ne.mpr c4
      obtain rfl := Option.some.inj H
      go_enter Tryd.func14, Tryd.ntmps14
      go_wp2_with (first | ((with_reducible refine gate_callee (f := 12) rfl ?_); refine goesL_ (some 6) rfl rfl Tryd.func12 (by kernel_rfl) rfl #[.string (⟨#[226, 140, 136, 47, 120]⟩ : ByteArray)] rfl (by (try simp only [List.map_toArray, List.map_cons, List.map_nil]); first | done | rfl | (simp only [List.length_drop, List.length_take]; rfl) | (simp [*] <;> (repeat' (first | rfl | apply And.intro)))) ?_; (with_reducible refine (glyph_First.calls k (⟨#[226, 140, 136, 47, 120]⟩ : ByteArray) t146 t147 _ (GL.below HG.out (by repeat (first | (with_reducible first | exact HB.out | apply below_alloc | apply pw_below_drewN | apply below_drew1) | exact HB.out | exact Below.refl _ _))) A1.out).mono ?_); rintro e w13 ⟨rfl, hb⟩; refine ⟨_, rfl, ?_⟩; have n0_ := Aside0.mk (below_step (by repeat (first | (with_reducible first | exact HB.out | apply below_alloc | apply pw_below_drewN | apply below_drew1) | exact HB.out | exact Below.refl _ _)) hb); clear HB; have HB := n0_; clear n0_; (try clear hb); (try clear hb2); (try clear hk); (try clear hi)) | ((with_reducible refine gate_callee (f := 12) rfl ?_); refine goesL_ (some 10) rfl rfl Tryd.func12 (by kernel_rfl) rfl #[.string (⟨#[96, 109, 97, 120, 32, 120]⟩ : ByteArray)] rfl (by (try simp only [List.map_toArray, List.map_cons, List.map_nil]); first | done | rfl | (simp only [List.length_drop, List.length_take]; rfl) | (simp [*] <;> (repeat' (first | rfl | apply And.intro)))) ?_; (with_reducible refine (glyph_First.calls k (⟨#[96, 109, 97, 120, 32, 120]⟩ : ByteArray) t148 t149 _ (GL.below HG.out (by repeat (first | (with_reducible first | exact HB.out | apply below_alloc | apply pw_below_drewN | apply below_drew1) | exact HB.out | exact Below.refl _ _))) A2.out).mono ?_); rintro e w14 ⟨rfl, hb⟩; refine ⟨_, rfl, ?_⟩; have n0_ := Aside0.mk (below_step (by repeat (first | (with_reducible first | exact HB.out | apply below_alloc | apply pw_below_drewN | apply below_drew1) | exact HB.out | exact Below.refl _ _)) hb); clear HB; have HB := n0_; clear n0_; (try clear hb); (try clear hb2); (try clear hk); (try clear hi)))
      go_ret
      exact ⟨by first | rfl | (simp [errW_none, errW_some] <;> rfl) | (simp [*, errW_none, errW_some] <;> rfl), by repeat (first | (with_reducible first | exact HB.out | apply below_alloc | apply pw_below_drewN | apply below_drew1) | exact HB.out | exact Below.refl _ _)⟩
  · rw [if_neg c3] at H
    have c3b0 : (t146 == 7) = false := beq_eq_false_iff_ne.mpr c3
    have c3b1 : (t146 != 7) = true := bne_iff_ne.mpr c3
    obtain rfl := Option.some.inj H
    go_enter Tryd.func14, Tryd.ntmps14
    go_wp2_with (first | ((with_reducible refine gate_callee (f := 12) rfl ?_); refine goesL_ (some 6) rfl rfl Tryd.func12 (by kernel_rfl) rfl #[.string (⟨#[226, 140, 136, 47, 120]⟩ : ByteArray)] rfl (by (try simp only [List.map_toArray, List.map_cons, List.map_nil]); first | done | rfl | (simp only [List.length_drop, List.length_take]; rfl) | (simp [*] <;> (repeat' (first | rfl | apply And.intro)))) ?_; (with_reducible refine (glyph_First.calls k (⟨#[226, 140, 136, 47, 120]⟩ : ByteArray) t146 t147 _ (GL.below HG.out (by repeat (first | (with_reducible first | exact HB.out | apply below_alloc | apply pw_below_drewN | apply below_drew1) | exact HB.out | exact Below.refl _ _))) A1.out).mono ?_); rintro e w15 ⟨rfl, hb⟩; refine ⟨_, rfl, ?_⟩; have n0_ := Aside0.mk (below_step (by repeat (first | (with_reducible first | exact HB.out | apply below_alloc | apply pw_below_drewN | apply below_drew1) | exact HB.out | exact Below.refl _ _)) hb); clear HB; have HB := n0_; clear n0_; (try clear hb); (try clear hb2); (try clear hk); (try clear hi)) | ((with_reducible refine gate_callee (f := 12) rfl ?_); refine goesL_ (some 10) rfl rfl Tryd.func12 (by kernel_rfl) rfl #[.string (⟨#[96, 109, 97, 120, 32, 120]⟩ : ByteArray)] rfl (by (try simp only [List.map_toArray, List.map_cons, List.map_nil]); first | done | rfl | (simp only [List.length_drop, List.length_take]; rfl) | (simp [*] <;> (repeat' (first | rfl | apply And.intro)))) ?_; (with_reducible refine (glyph_First.calls k (⟨#[96, 109, 97, 120, 32, 120]⟩ : ByteArray) t148 t149 _ (GL.below HG.out (by repeat (first | (with_reducible first | exact HB.out | apply below_alloc | apply pw_below_drewN | apply below_drew1) | exact HB.out | exact Below.refl _ _))) A2.out).mono ?_); rintro e w16 ⟨rfl, hb⟩; refine ⟨_, rfl, ?_⟩; have n0_ := Aside0.mk (below_step (by repeat (first | (with_reducible first | exact HB.out | apply below_alloc | apply pw_below_drewN | apply below_drew1) | exact HB.out | exact Below.refl _ _)) hb); clear HB; have HB := n0_; clear n0_; (try clear hb); (try clear hb2); (try clear hk); (try clear hi)))
    go_ret
    exact ⟨by first | rfl | (simp [errW_none, errW_some] <;> rfl) | (simp [*, errW_none, errW_some] <;> rfl), by repeat (first | (with_reducible first | exact HB.out | apply below_alloc | apply pw_below_drewN | apply below_drew1) | exact HB.out | exact Below.refl _ _)⟩

/-! ### rifflelaw02_GlyphFirst: function 3 -/
def rifflelaw02_GlyphFirst.f (k : Nat) (a0 : ByteArray) : Option (Bool) := (glyph_First.f k a0).bind fun bt150 => ((riffleref02_First.f k a0).bind fun bt152 => (if bt150.1 = bt152.1 then (if bt150.2 = bt152.2 then ((rifflelaw02_lives.f k).bind fun t154 => (some t154)) else (some false)) else (some false)))
theorem rifflelaw02_GlyphFirst.mono : ∀ a0 k, LeO (rifflelaw02_GlyphFirst.f k a0) (rifflelaw02_GlyphFirst.f (k + 1) a0) := by
  intro a0 k
  unfold rifflelaw02_GlyphFirst.f
  repeat' first
      | (with_reducible exact glyph_First.mono _ _)
      | (with_reducible exact rifflelaw02_lives.mono _)
      | (with_reducible exact riffleref02_First.mono _ _)
      | (with_reducible exact LeO.refl _)
      | (with_reducible exact LeO.none _)
      | (with_reducible refine LeO.ite ?_ ?_)
      | (with_reducible refine LeO.bind ?_ (fun _ => ?_))
      | exact glyph_First.mono _ _
      | exact rifflelaw02_lives.mono _
      | exact riffleref02_First.mono _ _
      | exact LeO.none _
      | refine LeO.ite ?_ ?_
      | refine LeO.bind ?_ (fun _ => ?_)
set_option maxHeartbeats 8000000 in
set_option maxRecDepth 100000 in
theorem rifflelaw02_GlyphFirst.calls (k : Nat) (a0 : ByteArray) (r : Bool) (w : World) (hG : GL w) (hrt : r = true) (h : rifflelaw02_GlyphFirst.f k a0 = some r) :
    Calls Tryd.prog 3 #[.string a0] w fun e w' => e = .returned (.bool r) ∧ Below w.heap.size w w' := by
  have HG := Aside0.mk hG
  clear hG
  have HRT := Aside0.mk hrt
  clear hrt
  have HB := Aside0.mk (Below.refl w.heap.size w)
  have H : ((glyph_First.f k a0).bind fun bt150 => ((riffleref02_First.f k a0).bind fun bt152 => (if bt150.1 = bt152.1 then (if bt150.2 = bt152.2 then ((rifflelaw02_lives.f k).bind fun t154 => (some t154)) else (some false)) else (some false)))) = some r := h
  clear h
  replace H := Option.bind_eq_some_iff.mp H
  obtain ⟨⟨t150, t151⟩, A20, H⟩ := H
  replace H : ((riffleref02_First.f k a0).bind fun bt152 => (if t150 = bt152.1 then (if t151 = bt152.2 then ((rifflelaw02_lives.f k).bind fun t154 => (some t154)) else (some false)) else (some false))) = some r := H
  have A2 := Aside0.mk A20
  clear A20
  replace H := Option.bind_eq_some_iff.mp H
  obtain ⟨⟨t152, t153⟩, A30, H⟩ := H
  replace H : (if t150 = t152 then (if t151 = t153 then ((rifflelaw02_lives.f k).bind fun t154 => (some t154)) else (some false)) else (some false)) = some r := H
  have A3 := Aside0.mk A30
  clear A30
  by_cases c4 : t150 = t152
  · rw [if_pos c4] at H
    have c4b0 : (t150 == t152) = true := beq_iff_eq.mpr c4
    have c4b1 : (t150 != t152) = false := bne_eq_false_iff_eq.mpr c4
    clear c4
    by_cases c5 : t151 = t153
    · rw [if_pos c5] at H
      have c5b0 : (t151 == t153) = true := beq_iff_eq.mpr c5
      have c5b1 : (t151 != t153) = false := bne_eq_false_iff_eq.mpr c5
      clear c5
      replace H := Option.bind_eq_some_iff.mp H
      obtain ⟨t154, A60, H⟩ := H
      replace H : (some t154) = some r := H
      have A6 := Aside0.mk A60
      clear A60
      obtain rfl := Option.some.inj H
      go_enter Tryd.func3, Tryd.ntmps3
      go_wp2_with (first | ((with_reducible refine gate_callee (f := 12) rfl ?_); refine goesL_ (some 9) rfl rfl Tryd.func12 (by kernel_rfl) rfl #[.string a0] rfl (by (try simp only [List.map_toArray, List.map_cons, List.map_nil]); first | done | rfl | (simp only [List.length_drop, List.length_take]; rfl) | (simp [*] <;> (repeat' (first | rfl | apply And.intro)))) ?_; (with_reducible refine (glyph_First.calls k a0 t150 t151 _ (GL.below HG.out (by repeat (first | (with_reducible first | exact HB.out | apply below_alloc | apply pw_below_drewN | apply below_drew1) | exact HB.out | exact Below.refl _ _))) A2.out).mono ?_); rintro e w7 ⟨rfl, hb⟩; refine ⟨_, rfl, ?_⟩; have n0_ := Aside0.mk (below_step (by repeat (first | (with_reducible first | exact HB.out | apply below_alloc | apply pw_below_drewN | apply below_drew1) | exact HB.out | exact Below.refl _ _)) hb); clear HB; have HB := n0_; clear n0_; (try clear hb); (try clear hb2); (try clear hk); (try clear hi)) | ((with_reducible refine gate_callee (f := 13) rfl ?_); refine goesL_ (some 14) rfl rfl Tryd.func13 (by kernel_rfl) rfl #[.string a0] rfl (by (try simp only [List.map_toArray, List.map_cons, List.map_nil]); first | done | rfl | (simp only [List.length_drop, List.length_take]; rfl) | (simp [*] <;> (repeat' (first | rfl | apply And.intro)))) ?_; (with_reducible refine (riffleref02_First.calls k a0 t152 t153 _ (GL.below HG.out (by repeat (first | (with_reducible first | exact HB.out | apply below_alloc | apply pw_below_drewN | apply below_drew1) | exact HB.out | exact Below.refl _ _))) A3.out).mono ?_); rintro e w8 ⟨rfl, hb⟩; refine ⟨_, rfl, ?_⟩; have n0_ := Aside0.mk (below_step (by repeat (first | (with_reducible first | exact HB.out | apply below_alloc | apply pw_below_drewN | apply below_drew1) | exact HB.out | exact Below.refl _ _)) hb); clear HB; have HB := n0_; clear n0_; (try clear hb); (try clear hb2); (try clear hk); (try clear hi)) | (go_at_call 14; (with_reducible refine (rifflelaw02_lives.calls k  t154 _ (GL.below HG.out (by repeat (first | (with_reducible first | exact HB.out | apply below_alloc | apply pw_below_drewN | apply below_drew1) | exact HB.out | exact Below.refl _ _))) A6.out).mono ?_); rintro e w9 ⟨rfl, hb⟩; have n0_ := Aside0.mk (below_step (by repeat (first | (with_reducible first | exact HB.out | apply below_alloc | apply pw_below_drewN | apply below_drew1) | exact HB.out | exact Below.refl _ _)) hb); clear HB; have HB := n0_; clear n0_; (try clear hb); (try clear hb2); (try clear hk); (try clear hi)))
      go_ret
      exact ⟨by first | rfl | (simp [errW_none, errW_some] <;> rfl) | (simp [*, errW_none, errW_some] <;> rfl), by repeat (first | (with_reducible first | exact HB.out | apply below_alloc | apply pw_below_drewN | apply below_drew1) | exact HB.out | exact Below.refl _ _)⟩
    · rw [if_neg c5] at H
      have c5b0 : (t151 == t153) = false := beq_eq_false_iff_ne.mpr c5
      have c5b1 : (t151 != t153) = true := bne_iff_ne.mpr c5
      exact absurd (H.trans (congrArg some HRT.out)) (by simp)
  · rw [if_neg c4] at H
    have c4b0 : (t150 == t152) = false := beq_eq_false_iff_ne.mpr c4
    have c4b1 : (t150 != t152) = true := bne_iff_ne.mpr c4
    exact absurd (H.trans (congrArg some HRT.out)) (by simp)

/-- THE ONE PURE STATEMENT of rifflelaw02_GlyphFirst: yours. -/
def rifflelaw02_GlyphFirst.Pure : Prop := ∀ (a0 : ByteArray), a0.size ≤ 140737488351232 → ∃ k, rifflelaw02_GlyphFirst.f k a0 = some true
theorem rifflelaw02_GlyphFirst.walk (P : rifflelaw02_GlyphFirst.Pure) (a0 : ByteArray) (w : World) (hG : GL w) (w0 : a0.size ≤ 140737488351232) :
    Calls Tryd.prog 3 #[.string a0] w fun e w' => e = .returned (.bool true) ∧ Below w.heap.size w w' := by
  obtain ⟨k, h⟩ := P a0 w0
  refine (rifflelaw02_GlyphFirst.calls k a0 true w hG rfl h).mono ?_
  rintro e w' ⟨rfl, hd⟩
  exact ⟨rfl, hd⟩

/-! ### rifflelaw02_GlyphCodes: function 4 -/
def rifflelaw02_GlyphCodes.f (k : Nat)  : Option (Bool) := (rifflelaw02_lives.f k).bind fun t155 => (some t155)
theorem rifflelaw02_GlyphCodes.mono : ∀ k, LeO (rifflelaw02_GlyphCodes.f k ) (rifflelaw02_GlyphCodes.f (k + 1) ) := by
  intro  k
  unfold rifflelaw02_GlyphCodes.f
  repeat' first
      | (with_reducible exact rifflelaw02_lives.mono _)
      | (with_reducible exact LeO.refl _)
      | (with_reducible exact LeO.none _)
      | (with_reducible refine LeO.ite ?_ ?_)
      | (with_reducible refine LeO.bind ?_ (fun _ => ?_))
      | exact rifflelaw02_lives.mono _
      | exact LeO.none _
      | refine LeO.ite ?_ ?_
      | refine LeO.bind ?_ (fun _ => ?_)
set_option maxHeartbeats 8000000 in
set_option maxRecDepth 100000 in
theorem rifflelaw02_GlyphCodes.calls (k : Nat)  (r : Bool) (w : World) (hG : GL w) (hrt : r = true) (h : rifflelaw02_GlyphCodes.f k  = some r) :
    Calls Tryd.prog 4 #[] w fun e w' => e = .returned (.bool r) ∧ Below w.heap.size w w' := by
  have HG := Aside0.mk hG
  clear hG
  have HRT := Aside0.mk hrt
  clear hrt
  have HB := Aside0.mk (Below.refl w.heap.size w)
  have H : ((rifflelaw02_lives.f k).bind fun t155 => (some t155)) = some r := h
  clear h
  replace H := Option.bind_eq_some_iff.mp H
  obtain ⟨t155, A10, H⟩ := H
  replace H : (some t155) = some r := H
  have A1 := Aside0.mk A10
  clear A10
  obtain rfl := Option.some.inj H
  go_enter Tryd.func4, Tryd.ntmps4
  go_wp2_with (first | (go_at_call 14; (with_reducible refine (rifflelaw02_lives.calls k  t155 _ (GL.below HG.out (by repeat (first | (with_reducible first | exact HB.out | apply below_alloc | apply pw_below_drewN | apply below_drew1) | exact HB.out | exact Below.refl _ _))) A1.out).mono ?_); rintro e w2 ⟨rfl, hb⟩; have n0_ := Aside0.mk (below_step (by repeat (first | (with_reducible first | exact HB.out | apply below_alloc | apply pw_below_drewN | apply below_drew1) | exact HB.out | exact Below.refl _ _)) hb); clear HB; have HB := n0_; clear n0_; (try clear hb); (try clear hb2); (try clear hk); (try clear hi)))
  go_ret
  exact ⟨by first | rfl | (simp [errW_none, errW_some] <;> rfl) | (simp [*, errW_none, errW_some] <;> rfl), by repeat (first | (with_reducible first | exact HB.out | apply below_alloc | apply pw_below_drewN | apply below_drew1) | exact HB.out | exact Below.refl _ _)⟩

/-- THE ONE PURE STATEMENT of rifflelaw02_GlyphCodes: yours. -/
def rifflelaw02_GlyphCodes.Pure : Prop := ∃ k, rifflelaw02_GlyphCodes.f k  = some true
theorem rifflelaw02_GlyphCodes.walk (P : rifflelaw02_GlyphCodes.Pure)  (w : World) (hG : GL w)  :
    Calls Tryd.prog 4 #[] w fun e w' => e = .returned (.bool true) ∧ Below w.heap.size w w' := by
  obtain ⟨k, h⟩ := P  
  refine (rifflelaw02_GlyphCodes.calls k  true w hG rfl h).mono ?_
  rintro e w' ⟨rfl, hd⟩
  exact ⟨rfl, hd⟩

end Go.Proofs.YtpaeefnepfppfaaDoor.Xg
