-- BY PROGRAM (wip/tools/myprint.sh)
import Derived.Test.YtghbcdpnngheoaaProg
import Derived.Below
import Derived.Deep.Draws
import Derived.Deep.AppendLies
import Derived.Maps.AppendAt
import Derived.OwnWalk
import Derived.Laws.BytesArg
import Derived.Laws.MakeOwn
import Derived.Laws.OwnMore
import Derived.Deep.OwnRows
import Derived.Tactics
import Derived.Lib.ConvBytes
import Derived.Laws.Slices
import Derived.WalkKit
import Derived.KernelRfl
import Derived.RowKit3
import Derived.Deep.LoopGhost
import Derived.Deep.QuietTactic
import Derived.BigQuiet
import Derived.WideLaws
import Derived.Deep.DeepCutAuto
import Derived.Deep.CutBlock
import Derived.Deep.RegionHeld3
import Derived.Laws.Rows
import Derived.Lib.AppendStr
import Derived.ArgAppend
import Derived.Laws.IdiomCopy
import Derived.OrdersHeld
import Derived.Laws.BitsLemmas
import Derived.RowKit
import Derived.Test.YtghbcdpnngheoaaWWords
import Derived.Test.YtghbcdpnngheoaaWLast
import Derived.Test.YtghbcdpnngheoaaWTab
import Derived.Test.YtghbcdpnngheoaaWFour
import Derived.Test.YtghbcdpnngheoaaWQPut
import Derived.Test.YtghbcdpnngheoaaWApart
import Derived.Test.YtghbcdpnngheoaaWArr
import Derived.Test.YtghbcdpnngheoaaWZeros
import Derived.Test.YtghbcdpnngheoaaWFoot
import Derived.Test.YtghbcdpnngheoaaWKept
import Derived.Test.YtghbcdpnngheoaaWShare
import Derived.Test.YtghbcdpnngheoaaWN
import Derived.Test.YtghbcdpnngheoaaWFootNe
import Derived.Test.YtghbcdpnngheoaaWAt
import Derived.Test.YtghbcdpnngheoaaWEqStruct
import Derived.Test.YtghbcdpnngheoaaWRepsOne
import Derived.Test.YtghbcdpnngheoaaWInv
import Derived.Test.YtghbcdpnngheoaaWInvWords
import Derived.Test.YtghbcdpnngheoaaWGuard
import Derived.Test.YtghbcdpnngheoaaWNEv
import Derived.Test.YtghbcdpnngheoaaWMore
namespace Go.Proofs.Ytghbcdpnngheoaa.PSet
open Go.RowKit Go.Proofs.YtghbcdpnngheoaaW.PrintWords Go.Proofs.YtghbcdpnngheoaaW.PrintLast Go.Proofs.YtghbcdpnngheoaaW.PrintMore
attribute [local go_sem] max2_int min2_int max_two min_two max_three min_three max_four min_four   -- for this text's walks alone
set_option linter.unusedVariables false
set_option linter.unusedSimpArgs false



def errW : Option Int → Value
  | none => .nilIface
  | some c => .iface 0 (.int .i64 c)
theorem errW_none : errW none = .nilIface := rfl
theorem errW_some (c : Int) : errW (some c) = .iface 0 (.int .i64 c) := rfl

theorem info3 : (Try.prog.info? 3).map (fun i => (i.zero, i.size, i.bytes)) = some (some (.int .i64 0), 1, 8) := by kernel_rfl
-- the values' own types

end Go.Proofs.Ytghbcdpnngheoaa.PSet
