/- What is carried along of package-level variables: maxLen, pow10. -/
import Derived.Test.YtpmnhbjbkoackaaDoorProg
import Derived.Below
import Derived.RowKit
import Derived.WalkKit
import Derived.KernelRfl
import Derived.Deep.QuietTactic
import Derived.Lib.LaidTab
import Derived.Lib.ItoaNum
import Derived.WalkSmall
namespace Go.Proofs.YtpmnhbjbkoackaaDoor.En
open Go Go.RowKit
structure GL (w : World) : Prop where
  maxLen : ∃ m : Int, w.cell? ⟨0, 0, none⟩ = some (.int .i64 m)
  pow10 : Lib.TabIs Tryd.prog w "internal/strconv.uint64pow10" .u64 Lib.pow10Tab
theorem GL.below {w w' : World} (h : GL w) (hb : Below w.heap.size w w') : GL w' := {
    maxLen := (by obtain ⟨m, hm⟩ := h.maxLen; exact ⟨m, (hb.cell (World.block_lt_of_cell? w _ hm)).trans hm⟩),
    pow10 := (by have hv := h.pow10; unfold Lib.TabIs at hv ⊢; have hg : Tryd.prog.globalNamed "internal/strconv.uint64pow10" = some 1 := by kernel_rfl
                 refine var?_below hb hg ?_ hv
                 unfold World.var? at hv; rw [hg] at hv; simp only [Option.bind_some] at hv
                 rcases Nat.lt_or_ge 1 w.heap.size with h' | h'
                 · exact h'
                 · rw [Array.getElem?_eq_none h'] at hv; cases hv) }
theorem GL.drewN {w : World} {n : Nat} (h : GL w) : GL (w.drewN n) := h.below ⟨rfl, rfl, rfl, Nat.le_refl _, fun _ _ => rfl⟩
theorem GL.drew {w : World} (h : GL w) : GL w.drew := h.below ⟨rfl, rfl, rfl, Nat.le_refl _, fun _ _ => rfl⟩
theorem GL.alloc {w : World} {o : Obj} (h : GL w) : GL (w.alloc o) := h.below ((Below.refl _ _).alloc (Nat.le_refl _) _)
end Go.Proofs.YtpmnhbjbkoackaaDoor.En
