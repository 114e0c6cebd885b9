-- Written by a program of this session (wip/xprint.py), over the kit's print; some sections by hand.
import Derived.Test.YtkjjnfbgcdanmaaProg
import Derived.Below
import Derived.Deep.Draws
import Derived.Deep.AppendLies
import Derived.Maps.AppendAt
import Derived.OwnWalk
import Derived.Laws.BytesArg
import Derived.Laws.MakeOwn
import Derived.Laws.OwnMore
import Derived.Deep.OwnRows
import Derived.Tactics
import Derived.Lib.ConvBytes
import Derived.Laws.Slices
import Derived.WalkKit
import Derived.KernelRfl
import Derived.RowKit3
import Derived.Deep.LoopGhost
import Derived.Deep.QuietTactic
import Derived.BigQuiet
import Derived.WideLaws
import Derived.Deep.DeepCutAuto
import Derived.Deep.CutBlock
import Derived.Deep.RegionHeld3
import Derived.Laws.Rows
import Derived.Lib.AppendStr
import Derived.ArgAppend
import Derived.Laws.IdiomCopy
import Derived.OrdersHeld
import Derived.Laws.BitsLemmas
import Derived.RowKit
import Derived.Test.YtkjjnfbgcdanmaaHandA
import Derived.Test.YtkjjnfbgcdanmaaHandB
import Derived.Test.YtkjjnfbgcdanmaaWWords
import Derived.Test.YtkjjnfbgcdanmaaWLast
import Derived.Test.YtkjjnfbgcdanmaaWTab
import Derived.Test.YtkjjnfbgcdanmaaWFour
import Derived.Test.YtkjjnfbgcdanmaaWQPut
import Derived.Test.YtkjjnfbgcdanmaaWApart
import Derived.Test.YtkjjnfbgcdanmaaWArr
import Derived.Test.YtkjjnfbgcdanmaaWZeros
import Derived.Test.YtkjjnfbgcdanmaaWFoot
import Derived.Test.YtkjjnfbgcdanmaaWKept
import Derived.Test.YtkjjnfbgcdanmaaWShare
import Derived.Test.YtkjjnfbgcdanmaaWN
import Derived.Test.YtkjjnfbgcdanmaaWFootNe
import Derived.Test.YtkjjnfbgcdanmaaWAt
import Derived.Test.YtkjjnfbgcdanmaaWEqStruct
import Derived.Test.YtkjjnfbgcdanmaaWRepsOne
import Derived.Test.YtkjjnfbgcdanmaaWInv
import Derived.Test.YtkjjnfbgcdanmaaWInvWords
import Derived.Test.YtkjjnfbgcdanmaaWGuard
import Derived.Test.YtkjjnfbgcdanmaaWNEv
import Derived.Test.YtkjjnfbgcdanmaaWMore
namespace Go.Proofs.Ytkjjnfbgcdanmaa.P
open Go.RowKit Go.Proofs.YtkjjnfbgcdanmaaW.PrintWords Go.Proofs.YtkjjnfbgcdanmaaW.PrintLast Go.Proofs.YtkjjnfbgcdanmaaW.PrintMore
attribute [local go_sem] max2_int min2_int max_two min_two max_three min_three max_four min_four   -- for this text's walks alone
set_option linter.unusedVariables false
set_option linter.unusedSimpArgs false



def errW : Option Int → Value
  | none => .nilIface
  | some c => .iface 0 (.int .i64 c)
theorem errW_none : errW none = .nilIface := rfl
theorem errW_some (c : Int) : errW (some c) = .iface 0 (.int .i64 c) := rfl

theorem info3 : (Try.prog.info? 3).map (fun i => (i.zero, i.size, i.bytes)) = some (some (.int .i64 0), 1, 8) := by kernel_rfl
-- the values' own types

end Go.Proofs.Ytkjjnfbgcdanmaa.P
