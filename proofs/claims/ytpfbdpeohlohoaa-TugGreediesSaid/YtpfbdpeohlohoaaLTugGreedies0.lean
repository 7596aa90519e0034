-- DERIVED by a program of this session (wip/tools/gprint.py) over the kit's print: Lean checks it.
import Derived.Test.YtpfbdpeohlohoaaProg
import Derived.Below
import Derived.Deep.Draws
import Derived.Deep.AppendLies
import Derived.Maps.AppendAt
import Derived.OwnWalk
import Derived.Laws.BytesArg
import Derived.Laws.MakeOwn
import Derived.Laws.OwnMore
import Derived.Deep.OwnRows
import Derived.Tactics
import Derived.Lib.ConvBytes
import Derived.Laws.Slices
import Derived.WalkKit
import Derived.KernelRfl
import Derived.RowKit3
import Derived.Deep.LoopGhost
import Derived.Deep.QuietTactic
import Derived.BigQuiet
import Derived.WideLaws
import Derived.Deep.DeepCutAuto
import Derived.Deep.CutBlock
import Derived.Deep.RegionHeld3
import Derived.Laws.Rows
import Derived.Lib.AppendStr
import Derived.ArgAppend
import Derived.Laws.IdiomCopy
import Derived.OrdersHeld
import Derived.Laws.BitsLemmas
import Derived.RowKit
import Derived.Test.YtpfbdpeohlohoaaHBase
import Derived.Test.YtpfbdpeohlohoaaGd0
import Derived.Test.YtpfbdpeohlohoaaGe0
import Derived.Test.YtpfbdpeohlohoaaWWords
import Derived.Test.YtpfbdpeohlohoaaWLast
import Derived.Test.YtpfbdpeohlohoaaWTab
import Derived.Test.YtpfbdpeohlohoaaWFour
import Derived.Test.YtpfbdpeohlohoaaWQPut
import Derived.Test.YtpfbdpeohlohoaaWApart
import Derived.Test.YtpfbdpeohlohoaaWArr
import Derived.Test.YtpfbdpeohlohoaaWZeros
import Derived.Test.YtpfbdpeohlohoaaWFoot
import Derived.Test.YtpfbdpeohlohoaaWKept
import Derived.Test.YtpfbdpeohlohoaaWShare
import Derived.Test.YtpfbdpeohlohoaaWN
import Derived.Test.YtpfbdpeohlohoaaWFootNe
import Derived.Test.YtpfbdpeohlohoaaWAt
import Derived.Test.YtpfbdpeohlohoaaWEqStruct
import Derived.Test.YtpfbdpeohlohoaaWRepsOne
import Derived.Test.YtpfbdpeohlohoaaWInv
import Derived.Test.YtpfbdpeohlohoaaWInvWords
import Derived.Test.YtpfbdpeohlohoaaWGuard
import Derived.Test.YtpfbdpeohlohoaaWNEv
import Derived.Test.YtpfbdpeohlohoaaWMore
namespace Go.Proofs.Ytpfbdpeohlohoaa.LTugGreedies
open Go.Proofs.Ytpfbdpeohlohoaa.Ga
open Go.Proofs.Ytpfbdpeohlohoaa.Gd
open Go.Proofs.Ytpfbdpeohlohoaa.Ge
open Go.Proofs.Ytpfbdpeohlohoaa.H
open Go.RowKit Go.Proofs.YtpfbdpeohlohoaaW.PrintWords Go.Proofs.YtpfbdpeohlohoaaW.PrintLast Go.Proofs.YtpfbdpeohlohoaaW.PrintMore
attribute [local go_sem] max2_int min2_int max_two min_two max_three min_three max_four min_four   -- for this text's walks alone
set_option linter.unusedVariables false
set_option linter.unusedSimpArgs false



def errW : Option Int → Value
  | none => .nilIface
  | some c => .iface 0 (.int .i64 c)
theorem errW_none : errW none = .nilIface := rfl
theorem errW_some (c : Int) : errW (some c) = .iface 0 (.int .i64 c) := rfl

-- the values' own types

end Go.Proofs.Ytpfbdpeohlohoaa.LTugGreedies
