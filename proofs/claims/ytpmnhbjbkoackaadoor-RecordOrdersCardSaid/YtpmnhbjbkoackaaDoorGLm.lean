/- What is carried along of package-level variables: maxLen. -/
import Derived.Test.YtpmnhbjbkoackaaDoorProg
import Derived.Below
import Derived.RowKit
import Derived.WalkKit
import Derived.KernelRfl
import Derived.Deep.QuietTactic
namespace Go.Proofs.YtpmnhbjbkoackaaDoor
open Go Go.RowKit
structure GL (w : World) : Prop where
  maxLen : ∃ m : Int, w.cell? ⟨0, 0, none⟩ = some (.int .i64 m)
theorem GL.below {w w' : World} (h : GL w) (hb : Below w.heap.size w w') : GL w' := {
    maxLen := (by obtain ⟨m, hm⟩ := h.maxLen; exact ⟨m, (hb.cell (World.block_lt_of_cell? w _ hm)).trans hm⟩) }
theorem GL.drewN {w : World} {n : Nat} (h : GL w) : GL (w.drewN n) := h.below ⟨rfl, rfl, rfl, Nat.le_refl _, fun _ _ => rfl⟩
theorem GL.drew {w : World} (h : GL w) : GL w.drew := h.below ⟨rfl, rfl, rfl, Nat.le_refl _, fun _ _ => rfl⟩
theorem GL.alloc {w : World} {o : Obj} (h : GL w) : GL (w.alloc o) := h.below ((Below.refl _ _).alloc (Nat.le_refl _) _)
end Go.Proofs.YtpmnhbjbkoackaaDoor
