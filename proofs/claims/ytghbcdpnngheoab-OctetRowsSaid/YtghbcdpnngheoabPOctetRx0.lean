-- BY PROGRAM (wip/tools/myprint.sh)
import Derived.Test.YtghbcdpnngheoabProg
import Derived.Below
import Derived.Deep.Draws
import Derived.Deep.AppendLies
import Derived.Maps.AppendAt
import Derived.OwnWalk
import Derived.Laws.BytesArg
import Derived.Laws.MakeOwn
import Derived.Laws.OwnMore
import Derived.Deep.OwnRows
import Derived.Tactics
import Derived.Lib.ConvBytes
import Derived.Laws.Slices
import Derived.WalkKit
import Derived.KernelRfl
import Derived.RowKit3
import Derived.Deep.LoopGhost
import Derived.Deep.QuietTactic
import Derived.BigQuiet
import Derived.WideLaws
import Derived.Deep.DeepCutAuto
import Derived.Deep.CutBlock
import Derived.Deep.RegionHeld3
import Derived.Laws.Rows
import Derived.Lib.AppendStr
import Derived.ArgAppend
import Derived.Laws.IdiomCopy
import Derived.OrdersHeld
import Derived.Laws.BitsLemmas
import Derived.RowKit
import Derived.Test.YtghbcdpnngheoabWWords
import Derived.Test.YtghbcdpnngheoabWLast
import Derived.Test.YtghbcdpnngheoabWTab
import Derived.Test.YtghbcdpnngheoabWFour
import Derived.Test.YtghbcdpnngheoabWQPut
import Derived.Test.YtghbcdpnngheoabWApart
import Derived.Test.YtghbcdpnngheoabWArr
import Derived.Test.YtghbcdpnngheoabWZeros
import Derived.Test.YtghbcdpnngheoabWFoot
import Derived.Test.YtghbcdpnngheoabWKept
import Derived.Test.YtghbcdpnngheoabWShare
import Derived.Test.YtghbcdpnngheoabWN
import Derived.Test.YtghbcdpnngheoabWFootNe
import Derived.Test.YtghbcdpnngheoabWAt
import Derived.Test.YtghbcdpnngheoabWEqStruct
import Derived.Test.YtghbcdpnngheoabWRepsOne
import Derived.Test.YtghbcdpnngheoabWInv
import Derived.Test.YtghbcdpnngheoabWInvWords
import Derived.Test.YtghbcdpnngheoabWGuard
import Derived.Test.YtghbcdpnngheoabWNEv
import Derived.Test.YtghbcdpnngheoabWMore
namespace Go.Proofs.Ytghbcdpnngheoab.POctetR
open Go.RowKit Go.Proofs.YtghbcdpnngheoabW.PrintWords Go.Proofs.YtghbcdpnngheoabW.PrintLast Go.Proofs.YtghbcdpnngheoabW.PrintMore
attribute [local go_sem] max2_int min2_int max_two min_two max_three min_three max_four min_four   -- for this text's walks alone
set_option linter.unusedVariables false
set_option linter.unusedSimpArgs false



def errW : Option Int → Value
  | none => .nilIface
  | some c => .iface 0 (.int .i64 c)
theorem errW_none : errW none = .nilIface := rfl
theorem errW_some (c : Int) : errW (some c) = .iface 0 (.int .i64 c) := rfl

theorem info5 : (Try.prog.info? 5).map (fun i => (i.zero, i.size, i.bytes)) = some (some (.int .u8 0), 1, 1) := by kernel_rfl
theorem info22 : (Try.prog.info? 22).map (fun i => (i.zero, i.size, i.bytes)) = some (some (.int .u64 0), 1, 8) := by kernel_rfl
-- the values' own types

end Go.Proofs.Ytghbcdpnngheoab.POctetR
