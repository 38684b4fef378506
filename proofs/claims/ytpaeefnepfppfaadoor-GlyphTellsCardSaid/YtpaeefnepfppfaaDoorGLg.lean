/- What is carried along of package-level variables: utf8. -/
import Derived.Test.YtpaeefnepfppfaaDoorProg
import Derived.Below
import Derived.RowKit
import Derived.WalkKit
import Derived.KernelRfl
import Derived.Deep.QuietTactic
import Derived.Shelf.Unicode.DecodeSlow
namespace Go.Proofs.YtpaeefnepfppfaaDoor.Xg
open Go Go.RowKit
structure GL (w : World) : Prop where
  utf8 : Lib.Utf8Tabs 0 1 w
theorem GL.below {w w' : World} (h : GL w) (hb : Below w.heap.size w w') : GL w' := {
    utf8 := Utf8Tabs_below h.utf8 hb }
theorem GL.drewN {w : World} {n : Nat} (h : GL w) : GL (w.drewN n) := h.below ⟨rfl, rfl, rfl, Nat.le_refl _, fun _ _ => rfl⟩
theorem GL.drew {w : World} (h : GL w) : GL w.drew := h.below ⟨rfl, rfl, rfl, Nat.le_refl _, fun _ _ => rfl⟩
theorem GL.alloc {w : World} {o : Obj} (h : GL w) : GL (w.alloc o) := h.below ((Below.refl _ _).alloc (Nat.le_refl _) _)
end Go.Proofs.YtpaeefnepfppfaaDoor.Xg
