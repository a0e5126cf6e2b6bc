/-
  No cell of these rows narrows 'for every input' (looked for: loops, veiled, ifaces, maps, wideKeys, modest, calm, conditions, laid).
  DERIVED. THE GIVEN ROWS OF THIS SEAT. 3 by the template 'for every input the law returns true; each argument reads behind the call as it read before'; 0 by the template 'total and deterministic' (their statements: YtabcodjalacdjaaTotals.lean).
  GIVEN WITH THE SEED: the statements are not yours to turn. If you find one false, say at which input.
  Laid BY PROGRAM, IN A SANDBOX (cutbox-rows.mjs): the forced cells as the released guide's own fill.sh prints them over the translation 2e5fbd6b510e29a7… (all of the seat's roots in one cut). By AI agents, Wed Nov 11 2026. No macro, syntax, notation, axiom, sorry.
-/
import Derived.Test.YtabcodjalacdjaaChecked
import GoSem.Claim
import GoSem.ClaimJoined
import GoSem.ClaimMapViews
import Derived.JoinedTies
import Derived.KernelRfl
namespace Go.Proofs.Ytabcodjalacdjaa
/- THE CELL 'sum', in the pinned program and in every row, IS THE sha256 OF THE DUMP (.gsa) THAT YtabcodjalacdjaaProg.lean LOADS. Nothing in Lean hashes anything: it is a label: what it is worth is what the hold of that sum in a sandbox is worth. -/
noncomputable def Try.pinned : Pinned := { name := "ytabcodjalacdjaa", sum := "2e5fbd6b510e29a73ec5636adac52c3b21ca66f801df48f8c8962d975919b9c8", checked := Try.checked }
namespace Rows
def none {H : Type} : Left H := { results := [], args := [] }

/-- 'tollbarlaw09.OrderFair': WHATEVER THE INPUT: true; the input reads as it did. -/
def orderFairSpec : ChangeSpec := { name := "orderFair", fn := fun _ => fun
  | [d1, d2] => { results := [.lit (.bool true)], args := [d1, d2] }
  | _ => none }
def orderFairRow : OpenClaim := { program := "ytabcodjalacdjaa", sum := "2e5fbd6b510e29a73ec5636adac52c3b21ca66f801df48f8c8962d975919b9c8", func := "tollbar/tollbarlaw09.OrderFair", spec := "orderFair", unfollowed := true, recurses := true, apart := false }
def OrderFairSaid : Prop := orderFairRow.holds Try.pinned (OpenSpec.ofChange orderFairSpec)

/-- ITS FALSE NEIGHBOUR: 'it returns false'. Refute it at one input. -/
def orderFairWrong : ChangeSpec := { name := "orderFair", fn := fun _ => fun
  | [d1, d2] => { results := [.lit (.bool false)], args := [d1, d2] }
  | _ => none }
def OrderFairWrongFalsely : Prop := orderFairRow.holds Try.pinned (OpenSpec.ofChange orderFairWrong)

/-- 'tollbarlaw09.OrderMost': WHATEVER THE INPUT: true; the input reads as it did. -/
def orderMostSpec : ChangeSpec := { name := "orderMost", fn := fun _ => fun
  | [d1, d2] => { results := [.lit (.bool true)], args := [d1, d2] }
  | _ => none }
def orderMostRow : OpenClaim := { program := "ytabcodjalacdjaa", sum := "2e5fbd6b510e29a73ec5636adac52c3b21ca66f801df48f8c8962d975919b9c8", func := "tollbar/tollbarlaw09.OrderMost", spec := "orderMost", unfollowed := true, recurses := true, apart := false }
def OrderMostSaid : Prop := orderMostRow.holds Try.pinned (OpenSpec.ofChange orderMostSpec)

/-- ITS FALSE NEIGHBOUR: 'it returns false'. Refute it at one input. -/
def orderMostWrong : ChangeSpec := { name := "orderMost", fn := fun _ => fun
  | [d1, d2] => { results := [.lit (.bool false)], args := [d1, d2] }
  | _ => none }
def OrderMostWrongFalsely : Prop := orderMostRow.holds Try.pinned (OpenSpec.ofChange orderMostWrong)

/-- 'tollbarlaw16.MchanOrder': WHATEVER THE INPUT: true; the input reads as it did. -/
def mchanOrderSpec : ChangeSpec := { name := "mchanOrder", fn := fun _ => fun
  | [d1, d2] => { results := [.lit (.bool true)], args := [d1, d2] }
  | _ => none }
def mchanOrderRow : OpenClaim := { program := "ytabcodjalacdjaa", sum := "2e5fbd6b510e29a73ec5636adac52c3b21ca66f801df48f8c8962d975919b9c8", func := "tollbar/tollbarlaw16.MchanOrder", spec := "mchanOrder", unfollowed := true, recurses := true, apart := false }
def MchanOrderSaid : Prop := mchanOrderRow.holds Try.pinned (OpenSpec.ofChange mchanOrderSpec)

/-- ITS FALSE NEIGHBOUR: 'it returns false'. Refute it at one input. -/
def mchanOrderWrong : ChangeSpec := { name := "mchanOrder", fn := fun _ => fun
  | [d1, d2] => { results := [.lit (.bool false)], args := [d1, d2] }
  | _ => none }
def MchanOrderWrongFalsely : Prop := mchanOrderRow.holds Try.pinned (OpenSpec.ofChange mchanOrderWrong)

/- THE SECOND FORM. 'bulk': how many values and letters a reading holds, each counted each time it is reached (what is shared counts as often as it is met; a slice's spare places count too). A statement '..UptoSaid' is the law's where the arguments, and the package variables that the reading takes, are together of bulk at most 1048576: NARROWER than '..Said'. Prove '..Said' where nothing that the law and all that it calls make is longer than what came in: it says more and counts as full. Else prove '..UptoSaid'. A law counts once. -/
mutual
def uptoBulk {H : Type} : DataW H → Nat
  | .lit (.string bytes) => bytes.length + 1
  | .lit _ => 1
  | .nil => 1
  | .ptr d => uptoBulk d + 1
  | .slice elems spare => uptoBulkAll elems + uptoBulkAll spare + 1
  | .agg parts => uptoBulkAll parts + 1
  | .iface _ d => uptoBulk d + 1
  | .map entries => uptoBulkEntries entries + 1
  | .held _ => 1
def uptoBulkAll {H : Type} : List (DataW H) → Nat
  | [] => 0
  | d :: r => uptoBulk d + uptoBulkAll r
def uptoBulkEntries {H : Type} : List (Lit × DataW H) → Nat
  | [] => 0
  | x :: r => uptoBulkEntry x + uptoBulkEntries r
def uptoBulkEntry {H : Type} : Lit × DataW H → Nat
  | (.string bytes, d) => bytes.length + uptoBulk d + 1
  | (_, d) => uptoBulk d + 1
 end
def uptoSmall : (H : Type) → List (DataW H) → Bool := fun _ ds => decide (uptoBulkAll ds ≤ 1048576)
def OpenSpec.upto (s : _root_.Go.ChangeSpec) : _root_.Go.OpenSpec := { _root_.Go.OpenSpec.ofChange s with cond := some uptoSmall }

/-- 'tollbarlaw09.OrderFair', WHERE WHAT IT READS IS OF BULK AT MOST 1048576: true; the input reads as it did. -/
def orderFairUptoRow : OpenClaim := { program := "ytabcodjalacdjaa", sum := "2e5fbd6b510e29a73ec5636adac52c3b21ca66f801df48f8c8962d975919b9c8", func := "tollbar/tollbarlaw09.OrderFair", spec := "orderFair", unfollowed := true, recurses := true, apart := false, narrowed := true }
def OrderFairUptoSaid : Prop := orderFairUptoRow.holds Try.pinned (OpenSpec.upto orderFairSpec)

/-- 'tollbarlaw09.OrderMost', WHERE WHAT IT READS IS OF BULK AT MOST 1048576: true; the input reads as it did. -/
def orderMostUptoRow : OpenClaim := { program := "ytabcodjalacdjaa", sum := "2e5fbd6b510e29a73ec5636adac52c3b21ca66f801df48f8c8962d975919b9c8", func := "tollbar/tollbarlaw09.OrderMost", spec := "orderMost", unfollowed := true, recurses := true, apart := false, narrowed := true }
def OrderMostUptoSaid : Prop := orderMostUptoRow.holds Try.pinned (OpenSpec.upto orderMostSpec)

/-- 'tollbarlaw16.MchanOrder', WHERE WHAT IT READS IS OF BULK AT MOST 1048576: true; the input reads as it did. -/
def mchanOrderUptoRow : OpenClaim := { program := "ytabcodjalacdjaa", sum := "2e5fbd6b510e29a73ec5636adac52c3b21ca66f801df48f8c8962d975919b9c8", func := "tollbar/tollbarlaw16.MchanOrder", spec := "mchanOrder", unfollowed := true, recurses := true, apart := false, narrowed := true }
def MchanOrderUptoSaid : Prop := mchanOrderUptoRow.holds Try.pinned (OpenSpec.upto mchanOrderSpec)

end Rows
end Go.Proofs.Ytabcodjalacdjaa
