-- Printed by a driver of this session around the kit's print (wip/tools/xprint.py): functions and contracts.
import Derived.Test.YtpaeefnepfppfaaDoorProg
import Derived.Below
import Derived.Deep.Draws
import Derived.Deep.AppendLies
import Derived.Maps.AppendAt
import Derived.OwnWalk
import Derived.Laws.BytesArg
import Derived.Laws.MakeOwn
import Derived.Laws.OwnMore
import Derived.Deep.OwnRows
import Derived.Tactics
import Derived.Lib.ConvBytes
import Derived.Laws.Slices
import Derived.WalkKit
import Derived.KernelRfl
import Derived.RowKit3
import Derived.Deep.LoopGhost
import Derived.Deep.QuietTactic
import Derived.BigQuiet
import Derived.WideLaws
import Derived.Deep.DeepCutAuto
import Derived.Deep.CutBlock
import Derived.Deep.RegionHeld3
import Derived.Laws.Rows
import Derived.Lib.AppendStr
import Derived.ArgAppend
import Derived.Laws.IdiomCopy
import Derived.OrdersHeld
import Derived.Laws.BitsLemmas
import Derived.RowKit
import Derived.Test.YtpaeefnepfppfaaDoorWWords
import Derived.Test.YtpaeefnepfppfaaDoorWLast
import Derived.Test.YtpaeefnepfppfaaDoorWTab
import Derived.Test.YtpaeefnepfppfaaDoorWFour
import Derived.Test.YtpaeefnepfppfaaDoorWQPut
import Derived.Test.YtpaeefnepfppfaaDoorWApart
import Derived.Test.YtpaeefnepfppfaaDoorWArr
import Derived.Test.YtpaeefnepfppfaaDoorWZeros
import Derived.Test.YtpaeefnepfppfaaDoorWFoot
import Derived.Test.YtpaeefnepfppfaaDoorWKept
import Derived.Test.YtpaeefnepfppfaaDoorWShare
import Derived.Test.YtpaeefnepfppfaaDoorWN
import Derived.Test.YtpaeefnepfppfaaDoorWFootNe
import Derived.Test.YtpaeefnepfppfaaDoorWAt
import Derived.Test.YtpaeefnepfppfaaDoorWEqStruct
import Derived.Test.YtpaeefnepfppfaaDoorWRepsOne
import Derived.Test.YtpaeefnepfppfaaDoorWInv
import Derived.Test.YtpaeefnepfppfaaDoorWInvWords
import Derived.Test.YtpaeefnepfppfaaDoorWGuard
import Derived.Test.YtpaeefnepfppfaaDoorWNEv
import Derived.Test.YtpaeefnepfppfaaDoorWMore
import Derived.Test.YtpaeefnepfppfaaDoorGLd
import Derived.Test.YtpaeefnepfppfaaDoorShelf
import Derived.Test.YtpaeefnepfppfaaDoorDigWalk
import Derived.Test.YtpaeefnepfppfaaDoorAccWalk
import Derived.Lib.AppendIntMem
import Derived.Lib.SplitLaws
import Derived.Laws.Runes
import Derived.WalkMore
namespace Go.Proofs.YtpaeefnepfppfaaDoor.Xs
open Go.RowKit Go.Proofs.YtpaeefnepfppfaaDoorW.PrintWords Go.Proofs.YtpaeefnepfppfaaDoorW.PrintLast Go.Proofs.YtpaeefnepfppfaaDoorW.PrintMore
attribute [local go_sem] max2_int min2_int max_two min_two max_three min_three max_four min_four   -- for this text's walks alone
set_option linter.unusedVariables false
set_option linter.unusedSimpArgs false



def errW : Option Int → Value
  | none => .nilIface
  | some c => .iface 0 (.int .i64 c)
theorem errW_none : errW none = .nilIface := rfl
theorem errW_some (c : Int) : errW (some c) = .iface 0 (.int .i64 c) := rfl

theorem info5 : (Tryd.prog.info? 5).map (fun i => (i.zero, i.size, i.bytes)) = some (some (.int .u8 0), 1, 1) := by kernel_rfl
theorem info9 : (Tryd.prog.info? 9).map (fun i => (i.zero, i.size, i.bytes)) = some (some (.string ⟨#[]⟩), 1, 16) := by kernel_rfl
-- the values' own types

end Go.Proofs.YtpaeefnepfppfaaDoor.Xs
