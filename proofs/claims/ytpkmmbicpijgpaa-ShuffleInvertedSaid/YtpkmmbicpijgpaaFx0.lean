-- Written by a program of this session (wip/xprint.py), over the kit's print; some sections by hand.
import Derived.Test.YtpkmmbicpijgpaaProg
import Derived.Below
import Derived.Deep.Draws
import Derived.Deep.AppendLies
import Derived.Maps.AppendAt
import Derived.OwnWalk
import Derived.Laws.BytesArg
import Derived.Laws.MakeOwn
import Derived.Laws.OwnMore
import Derived.Deep.OwnRows
import Derived.Tactics
import Derived.Lib.ConvBytes
import Derived.Laws.Slices
import Derived.WalkKit
import Derived.KernelRfl
import Derived.RowKit3
import Derived.Deep.LoopGhost
import Derived.Deep.QuietTactic
import Derived.BigQuiet
import Derived.WideLaws
import Derived.Deep.DeepCutAuto
import Derived.Deep.CutBlock
import Derived.Deep.RegionHeld3
import Derived.Laws.Rows
import Derived.Lib.AppendStr
import Derived.ArgAppend
import Derived.Laws.IdiomCopy
import Derived.OrdersHeld
import Derived.Laws.BitsLemmas
import Derived.RowKit
import Derived.Test.YtpkmmbicpijgpaaHandA
import Derived.Test.YtpkmmbicpijgpaaHandB
import Derived.Test.YtpkmmbicpijgpaaWWords
import Derived.Test.YtpkmmbicpijgpaaWLast
import Derived.Test.YtpkmmbicpijgpaaWTab
import Derived.Test.YtpkmmbicpijgpaaWFour
import Derived.Test.YtpkmmbicpijgpaaWQPut
import Derived.Test.YtpkmmbicpijgpaaWApart
import Derived.Test.YtpkmmbicpijgpaaWArr
import Derived.Test.YtpkmmbicpijgpaaWZeros
import Derived.Test.YtpkmmbicpijgpaaWFoot
import Derived.Test.YtpkmmbicpijgpaaWKept
import Derived.Test.YtpkmmbicpijgpaaWShare
import Derived.Test.YtpkmmbicpijgpaaWN
import Derived.Test.YtpkmmbicpijgpaaWFootNe
import Derived.Test.YtpkmmbicpijgpaaWAt
import Derived.Test.YtpkmmbicpijgpaaWEqStruct
import Derived.Test.YtpkmmbicpijgpaaWRepsOne
import Derived.Test.YtpkmmbicpijgpaaWInv
import Derived.Test.YtpkmmbicpijgpaaWInvWords
import Derived.Test.YtpkmmbicpijgpaaWGuard
import Derived.Test.YtpkmmbicpijgpaaWNEv
import Derived.Test.YtpkmmbicpijgpaaWMore
namespace Go.Proofs.Ytpkmmbicpijgpaa.F
open Go.RowKit Go.Proofs.YtpkmmbicpijgpaaW.PrintWords Go.Proofs.YtpkmmbicpijgpaaW.PrintLast Go.Proofs.YtpkmmbicpijgpaaW.PrintMore
attribute [local go_sem] max2_int min2_int max_two min_two max_three min_three max_four min_four   -- for this text's walks alone
set_option linter.unusedVariables false
set_option linter.unusedSimpArgs false



def errW : Option Int → Value
 | none => .nilIface
 | some c => .iface 0 (.int .i64 c)
theorem errW_none : errW none = .nilIface := rfl
theorem errW_some (c : Int) : errW (some c) = .iface 0 (.int .i64 c) := rfl

theorem info3 : (Try.prog.info? 3).map (fun i => (i.zero, i.size, i.bytes)) = some (some (.int .i64 0), 1, 8) := by kernel_rfl
-- the values' own types

end Go.Proofs.Ytpkmmbicpijgpaa.F
