-- Printed by a driver of this session around the kit's print (wip/tools/xprint.py): functions and contracts.
import Derived.Test.YtpaeefnepfppfaaProg
import Derived.Below
import Derived.Deep.Draws
import Derived.Deep.AppendLies
import Derived.Maps.AppendAt
import Derived.OwnWalk
import Derived.Laws.BytesArg
import Derived.Laws.MakeOwn
import Derived.Laws.OwnMore
import Derived.Deep.OwnRows
import Derived.Tactics
import Derived.Lib.ConvBytes
import Derived.Laws.Slices
import Derived.WalkKit
import Derived.KernelRfl
import Derived.RowKit3
import Derived.Deep.LoopGhost
import Derived.Deep.QuietTactic
import Derived.BigQuiet
import Derived.WideLaws
import Derived.Deep.DeepCutAuto
import Derived.Deep.CutBlock
import Derived.Deep.RegionHeld3
import Derived.Laws.Rows
import Derived.Lib.AppendStr
import Derived.ArgAppend
import Derived.Laws.IdiomCopy
import Derived.OrdersHeld
import Derived.Laws.BitsLemmas
import Derived.RowKit
import Derived.Test.YtpaeefnepfppfaaWWords
import Derived.Test.YtpaeefnepfppfaaWLast
import Derived.Test.YtpaeefnepfppfaaWTab
import Derived.Test.YtpaeefnepfppfaaWFour
import Derived.Test.YtpaeefnepfppfaaWQPut
import Derived.Test.YtpaeefnepfppfaaWApart
import Derived.Test.YtpaeefnepfppfaaWArr
import Derived.Test.YtpaeefnepfppfaaWZeros
import Derived.Test.YtpaeefnepfppfaaWFoot
import Derived.Test.YtpaeefnepfppfaaWKept
import Derived.Test.YtpaeefnepfppfaaWShare
import Derived.Test.YtpaeefnepfppfaaWN
import Derived.Test.YtpaeefnepfppfaaWFootNe
import Derived.Test.YtpaeefnepfppfaaWAt
import Derived.Test.YtpaeefnepfppfaaWEqStruct
import Derived.Test.YtpaeefnepfppfaaWRepsOne
import Derived.Test.YtpaeefnepfppfaaWInv
import Derived.Test.YtpaeefnepfppfaaWInvWords
import Derived.Test.YtpaeefnepfppfaaWGuard
import Derived.Test.YtpaeefnepfppfaaWNEv
import Derived.Test.YtpaeefnepfppfaaWMore
import Derived.Test.YtpaeefnepfppfaaGL
import Derived.Test.YtpaeefnepfppfaaShelf
namespace Go.Proofs.Ytpaeefnepfppfaa.Xb
open Go.RowKit Go.Proofs.YtpaeefnepfppfaaW.PrintWords Go.Proofs.YtpaeefnepfppfaaW.PrintLast Go.Proofs.YtpaeefnepfppfaaW.PrintMore
attribute [local go_sem] max2_int min2_int max_two min_two max_three min_three max_four min_four   -- for this text's walks alone
set_option linter.unusedVariables false
set_option linter.unusedSimpArgs false



def errW : Option Int → Value
  | none => .nilIface
  | some c => .iface 0 (.int .i64 c)
theorem errW_none : errW none = .nilIface := rfl
theorem errW_some (c : Int) : errW (some c) = .iface 0 (.int .i64 c) := rfl

theorem info9 : (Try.prog.info? 9).map (fun i => (i.zero, i.size, i.bytes)) = some (some (.string ⟨#[]⟩), 1, 16) := by kernel_rfl
-- the values' own types

end Go.Proofs.Ytpaeefnepfppfaa.Xb
