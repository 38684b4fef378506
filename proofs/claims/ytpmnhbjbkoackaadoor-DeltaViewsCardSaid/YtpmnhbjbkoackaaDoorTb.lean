/- The types of the program that the functions use, as the plain run knows them. -/
import Derived.Test.YtpmnhbjbkoackaaDoorEn18
import Derived.Test.YtpmnhbjbkoackaaDoorProg
import Derived.Test.YtpmnhbjbkoackaaDoorExt
namespace Go.Proofs.YtpmnhbjbkoackaaDoor.En
open Go Go.RowKit Go.Proofs
set_option linter.unusedVariables false
set_option linter.unusedSimpArgs false
set_option maxRecDepth 20000

theorem ti2 : ti Tryd.prog 2 = some (TI.mk Bool.false 1 [(Cell.int Go.IntKind.i64 0)] (TD.int Go.IntKind.i64)) := by kernel_rfl
theorem ti3 : ti Tryd.prog 3 = some (TI.mk Bool.false 1 [(Cell.int Go.IntKind.i64 0)] (TD.int Go.IntKind.i64)) := by kernel_rfl
theorem ti4 : ti Tryd.prog 4 = some (TI.mk Bool.false 1 [(Cell.bool Bool.false)] (TD.other Go.TypeDesc.bool)) := by kernel_rfl
theorem ti5 : ti Tryd.prog 5 = some (TI.mk Bool.false 1 [(Cell.int Go.IntKind.u8 0)] (TD.int Go.IntKind.u8)) := by kernel_rfl
theorem ti9 : ti Tryd.prog 9 = some (TI.mk Bool.false 1 [(Cell.str ⟨#[]⟩)] (TD.other Go.TypeDesc.string)) := by kernel_rfl
theorem ti37 : ti Tryd.prog 37 = some (TI.mk Bool.false 1 [(Cell.int Go.IntKind.i64 0)] (TD.int Go.IntKind.i64)) := by kernel_rfl
theorem ti42 : ti Tryd.prog 42 = some (TI.mk Bool.false 1 [(Cell.lit (Go.Value.slice none 0 0))] (TD.slice 9 Ty.str 16)) := by kernel_rfl
theorem ti47 : ti Tryd.prog 47 = some (TI.mk Bool.false 1 [(Cell.lit (Go.Value.slice none 0 0))] (TD.slice 2 (Ty.int Go.IntKind.i64) 8)) := by kernel_rfl
theorem ti49 : ti Tryd.prog 49 = some (TI.mk Bool.true 4 [(Cell.int Go.IntKind.i64 0), (Cell.int Go.IntKind.i64 0), (Cell.int Go.IntKind.i64 0), (Cell.lit (Go.Value.slice none 0 0))] (TD.struct [(0, (1, Bool.false)), (1, (1, Bool.false)), (2, (1, Bool.false)), (3, (1, Bool.false))])) := by kernel_rfl
theorem ti52 : ti Tryd.prog 52 = some (TI.mk Bool.false 1 [(Cell.lit (Go.Value.slice none 0 0))] (TD.slice 58 (Ty.pair (Ty.int Go.IntKind.i64) (Ty.pair (Ty.int Go.IntKind.i64) (Ty.list (Ty.int Go.IntKind.i64)))) 40)) := by kernel_rfl
theorem ti53 : ti Tryd.prog 53 = some (TI.mk Bool.false 1 [(Cell.lit (Go.Value.pointer none))] (TD.other (Go.TypeDesc.pointer 103))) := by kernel_rfl
theorem ti58 : ti Tryd.prog 58 = some (TI.mk Bool.true 3 [(Cell.int Go.IntKind.i64 0), (Cell.int Go.IntKind.i64 0), (Cell.lit (Go.Value.slice none 0 0))] (TD.struct [(0, (1, Bool.false)), (1, (1, Bool.false)), (2, (1, Bool.false))])) := by kernel_rfl
theorem ti59 : ti Tryd.prog 59 = some (TI.mk Bool.false 1 [(Cell.lit (Go.Value.slice none 0 0))] (TD.slice 47 (Ty.list (Ty.int Go.IntKind.i64)) 24)) := by kernel_rfl
theorem ti85 : ti Tryd.prog 85 = some (TI.mk Bool.true 12 [(Cell.int Go.IntKind.i64 0), (Cell.int Go.IntKind.i64 0), (Cell.int Go.IntKind.i64 0), (Cell.lit (Go.Value.slice none 0 0)), (Cell.int Go.IntKind.i64 0), (Cell.int Go.IntKind.i64 0), (Cell.int Go.IntKind.i64 0), (Cell.lit (Go.Value.slice none 0 0)), (Cell.int Go.IntKind.i64 0), (Cell.int Go.IntKind.i64 0), (Cell.int Go.IntKind.i64 0), (Cell.lit (Go.Value.slice none 0 0))] (TD.arr 3 4 Bool.true (some (Ty.pair (Ty.int Go.IntKind.i64) (Ty.pair (Ty.int Go.IntKind.i64) (Ty.pair (Ty.int Go.IntKind.i64) (Ty.list (Ty.int Go.IntKind.i64)))))))) := by kernel_rfl
theorem ti103 : ti Tryd.prog 103 = some (TI.mk Bool.true 2 [(Cell.lit (Go.Value.slice none 0 0)), (Cell.int Go.IntKind.i64 0)] (TD.struct [(0, (1, Bool.false)), (1, (1, Bool.false))])) := by kernel_rfl
theorem ti115 : ti Tryd.prog 115 = some (TI.mk Bool.false 1 [(Cell.lit (Go.Value.slice none 0 0))] (TD.slice 5 (Ty.int Go.IntKind.u8) 1)) := by kernel_rfl
theorem ti126 : ti Tryd.prog 126 = some (TI.mk Bool.false 1 [(Cell.lit (Go.Value.slice none 0 0))] (TD.slice 3 (Ty.int Go.IntKind.i64) 8)) := by kernel_rfl
theorem mixed : Tryd.prog.follows .mixedOrders = true := by kernel_rfl
def tys : List (TypeId × TI) := [(2, (TI.mk Bool.false 1 [(Cell.int Go.IntKind.i64 0)] (TD.int Go.IntKind.i64))), (3, (TI.mk Bool.false 1 [(Cell.int Go.IntKind.i64 0)] (TD.int Go.IntKind.i64))), (4, (TI.mk Bool.false 1 [(Cell.bool Bool.false)] (TD.other Go.TypeDesc.bool))), (5, (TI.mk Bool.false 1 [(Cell.int Go.IntKind.u8 0)] (TD.int Go.IntKind.u8))), (9, (TI.mk Bool.false 1 [(Cell.str ⟨#[]⟩)] (TD.other Go.TypeDesc.string))), (37, (TI.mk Bool.false 1 [(Cell.int Go.IntKind.i64 0)] (TD.int Go.IntKind.i64))), (42, (TI.mk Bool.false 1 [(Cell.lit (Go.Value.slice none 0 0))] (TD.slice 9 Ty.str 16))), (47, (TI.mk Bool.false 1 [(Cell.lit (Go.Value.slice none 0 0))] (TD.slice 2 (Ty.int Go.IntKind.i64) 8))), (49, (TI.mk Bool.true 4 [(Cell.int Go.IntKind.i64 0), (Cell.int Go.IntKind.i64 0), (Cell.int Go.IntKind.i64 0), (Cell.lit (Go.Value.slice none 0 0))] (TD.struct [(0, (1, Bool.false)), (1, (1, Bool.false)), (2, (1, Bool.false)), (3, (1, Bool.false))]))), (52, (TI.mk Bool.false 1 [(Cell.lit (Go.Value.slice none 0 0))] (TD.slice 58 (Ty.pair (Ty.int Go.IntKind.i64) (Ty.pair (Ty.int Go.IntKind.i64) (Ty.list (Ty.int Go.IntKind.i64)))) 40))), (53, (TI.mk Bool.false 1 [(Cell.lit (Go.Value.pointer none))] (TD.other (Go.TypeDesc.pointer 103)))), (58, (TI.mk Bool.true 3 [(Cell.int Go.IntKind.i64 0), (Cell.int Go.IntKind.i64 0), (Cell.lit (Go.Value.slice none 0 0))] (TD.struct [(0, (1, Bool.false)), (1, (1, Bool.false)), (2, (1, Bool.false))]))), (59, (TI.mk Bool.false 1 [(Cell.lit (Go.Value.slice none 0 0))] (TD.slice 47 (Ty.list (Ty.int Go.IntKind.i64)) 24))), (85, (TI.mk Bool.true 12 [(Cell.int Go.IntKind.i64 0), (Cell.int Go.IntKind.i64 0), (Cell.int Go.IntKind.i64 0), (Cell.lit (Go.Value.slice none 0 0)), (Cell.int Go.IntKind.i64 0), (Cell.int Go.IntKind.i64 0), (Cell.int Go.IntKind.i64 0), (Cell.lit (Go.Value.slice none 0 0)), (Cell.int Go.IntKind.i64 0), (Cell.int Go.IntKind.i64 0), (Cell.int Go.IntKind.i64 0), (Cell.lit (Go.Value.slice none 0 0))] (TD.arr 3 4 Bool.true (some (Ty.pair (Ty.int Go.IntKind.i64) (Ty.pair (Ty.int Go.IntKind.i64) (Ty.pair (Ty.int Go.IntKind.i64) (Ty.list (Ty.int Go.IntKind.i64))))))))), (103, (TI.mk Bool.true 2 [(Cell.lit (Go.Value.slice none 0 0)), (Cell.int Go.IntKind.i64 0)] (TD.struct [(0, (1, Bool.false)), (1, (1, Bool.false))]))), (115, (TI.mk Bool.false 1 [(Cell.lit (Go.Value.slice none 0 0))] (TD.slice 5 (Ty.int Go.IntKind.u8) 1))), (126, (TI.mk Bool.false 1 [(Cell.lit (Go.Value.slice none 0 0))] (TD.slice 3 (Ty.int Go.IntKind.i64) 8)))]
theorem E_ok (rw : Nat → Bool) : EnvOk Tryd.prog ⟨fun t => tys.lookup t, rw⟩ := EnvOk.of (l := tys) ⟨ti2, ti3, ti4, ti5, ti9, ti37, ti42, ti47, ti49, ti52, ti53, ti58, ti59, ti85, ti103, ti115, ti126, trivial⟩

@[reducible] noncomputable def mkV (rw : List Nat) (l : List (FD Tryd.prog GL)) : Env Tryd.prog GL := ⟨⟨fun t => tys.lookup t, fun d => rw.contains d⟩, E_ok _, l, mixed⟩
def bs (l : List UInt8) : ByteArray := ⟨⟨l⟩⟩
def byteAt (s : ByteArray) (n : Int) : Int := (((s.data.toList.getD n.toNat 0).toNat : Nat) : Int)
end Go.Proofs.YtpmnhbjbkoackaaDoor.En
