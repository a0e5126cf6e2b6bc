/-
  No cell of these rows narrows 'for every input' (looked for: loops, veiled, ifaces, maps, wideKeys, modest, calm, conditions, laid).
  DERIVED. THE GIVEN ROWS OF THIS SEAT. 3 by the template 'for every input the law returns true; each argument reads behind the call as it read before'; 0 by the template 'total and deterministic' (their statements: YtmhnfcodppfaiabTotals.lean).
  GIVEN WITH THE SEED: the statements are not yours to turn. If you find one false, say at which input.
  Laid BY PROGRAM, IN A SANDBOX (cutbox-rows.mjs): the forced cells as the released guide's own fill.sh prints them over the translation c8350a9ae29bfffe… (all of the seat's roots in one cut). By AI agents, Wed Nov 11 2026. No macro, syntax, notation, axiom, sorry.
-/
import Derived.Test.YtmhnfcodppfaiabChecked
import GoSem.Claim
import GoSem.ClaimJoined
import GoSem.ClaimMapViews
import Derived.JoinedTies
import Derived.KernelRfl
namespace Go.Proofs.Ytmhnfcodppfaiab
/- THE CELL 'sum', in the pinned program and in every row, IS THE sha256 OF THE DUMP (.gsa) THAT YtmhnfcodppfaiabProg.lean LOADS. Nothing in Lean hashes anything: it is a label: what it is worth is what the hold of that sum in a sandbox is worth. -/
noncomputable def Try.pinned : Pinned := { name := "ytmhnfcodppfaiab", sum := "c8350a9ae29bfffe341d2b2739cdd281ce1791f183665ae7182e2fd2e3073350", checked := Try.checked }
namespace Rows
def none {H : Type} : Left H := { results := [], args := [] }

/-- 'tollbarlaw07.ListMiddle': WHATEVER THE INPUT: true; the input reads as it did. -/
def listMiddleSpec : ChangeSpec := { name := "listMiddle", fn := fun _ => fun
  | [d1, d2] => { results := [.lit (.bool true)], args := [d1, d2] }
  | _ => none }
def listMiddleRow : OpenClaim := { program := "ytmhnfcodppfaiab", sum := "c8350a9ae29bfffe341d2b2739cdd281ce1791f183665ae7182e2fd2e3073350", func := "tollbar/tollbarlaw07.ListMiddle", spec := "listMiddle", unfollowed := true, recurses := true, apart := false }
def ListMiddleSaid : Prop := listMiddleRow.holds Try.pinned (OpenSpec.ofChange listMiddleSpec)

/-- ITS FALSE NEIGHBOUR: 'it returns false'. Refute it at one input. -/
def listMiddleWrong : ChangeSpec := { name := "listMiddle", fn := fun _ => fun
  | [d1, d2] => { results := [.lit (.bool false)], args := [d1, d2] }
  | _ => none }
def ListMiddleWrongFalsely : Prop := listMiddleRow.holds Try.pinned (OpenSpec.ofChange listMiddleWrong)

/-- 'tollbarlaw07.ListWalk': WHATEVER THE INPUT: true; the input reads as it did. -/
def listWalkSpec : ChangeSpec := { name := "listWalk", fn := fun _ => fun
  | [d] => { results := [.lit (.bool true)], args := [d] }
  | _ => none }
def listWalkRow : OpenClaim := { program := "ytmhnfcodppfaiab", sum := "c8350a9ae29bfffe341d2b2739cdd281ce1791f183665ae7182e2fd2e3073350", func := "tollbar/tollbarlaw07.ListWalk", spec := "listWalk", unfollowed := true, recurses := true, apart := false }
def ListWalkSaid : Prop := listWalkRow.holds Try.pinned (OpenSpec.ofChange listWalkSpec)

/-- ITS FALSE NEIGHBOUR: 'it returns false'. Refute it at one input. -/
def listWalkWrong : ChangeSpec := { name := "listWalk", fn := fun _ => fun
  | [d] => { results := [.lit (.bool false)], args := [d] }
  | _ => none }
def ListWalkWrongFalsely : Prop := listWalkRow.holds Try.pinned (OpenSpec.ofChange listWalkWrong)

/-- 'tollbarlaw07.ListPlays': WHATEVER THE INPUT: true; the input reads as it did. -/
def listPlaysSpec : ChangeSpec := { name := "listPlays", fn := fun _ => fun
  | [d1, d2] => { results := [.lit (.bool true)], args := [d1, d2] }
  | _ => none }
def listPlaysRow : OpenClaim := { program := "ytmhnfcodppfaiab", sum := "c8350a9ae29bfffe341d2b2739cdd281ce1791f183665ae7182e2fd2e3073350", func := "tollbar/tollbarlaw07.ListPlays", spec := "listPlays", inPlace := ["maps.clone"], unfollowed := true, recurses := true, apart := false }
def ListPlaysSaid : Prop := listPlaysRow.holds Try.pinned (OpenSpec.ofChange listPlaysSpec)

/-- ITS FALSE NEIGHBOUR: 'it returns false'. Refute it at one input. -/
def listPlaysWrong : ChangeSpec := { name := "listPlays", fn := fun _ => fun
  | [d1, d2] => { results := [.lit (.bool false)], args := [d1, d2] }
  | _ => none }
def ListPlaysWrongFalsely : Prop := listPlaysRow.holds Try.pinned (OpenSpec.ofChange listPlaysWrong)

/- THE SECOND FORM. 'bulk': how many values and letters a reading holds, each counted each time it is reached (what is shared counts as often as it is met; a slice's spare places count too). A statement '..UptoSaid' is the law's where the arguments, and the package variables that the reading takes, are together of bulk at most 1048576: NARROWER than '..Said'. Prove '..Said' where nothing that the law and all that it calls make is longer than what came in: it says more and counts as full. Else prove '..UptoSaid'. A law counts once. -/
mutual
def uptoBulk {H : Type} : DataW H → Nat
  | .lit (.string bytes) => bytes.length + 1
  | .lit _ => 1
  | .nil => 1
  | .ptr d => uptoBulk d + 1
  | .slice elems spare => uptoBulkAll elems + uptoBulkAll spare + 1
  | .agg parts => uptoBulkAll parts + 1
  | .iface _ d => uptoBulk d + 1
  | .map entries => uptoBulkEntries entries + 1
  | .held _ => 1
def uptoBulkAll {H : Type} : List (DataW H) → Nat
  | [] => 0
  | d :: r => uptoBulk d + uptoBulkAll r
def uptoBulkEntries {H : Type} : List (Lit × DataW H) → Nat
  | [] => 0
  | x :: r => uptoBulkEntry x + uptoBulkEntries r
def uptoBulkEntry {H : Type} : Lit × DataW H → Nat
  | (.string bytes, d) => bytes.length + uptoBulk d + 1
  | (_, d) => uptoBulk d + 1
 end
def uptoSmall : (H : Type) → List (DataW H) → Bool := fun _ ds => decide (uptoBulkAll ds ≤ 1048576)
def OpenSpec.upto (s : _root_.Go.ChangeSpec) : _root_.Go.OpenSpec := { _root_.Go.OpenSpec.ofChange s with cond := some uptoSmall }

/-- 'tollbarlaw07.ListMiddle', WHERE WHAT IT READS IS OF BULK AT MOST 1048576: true; the input reads as it did. -/
def listMiddleUptoRow : OpenClaim := { program := "ytmhnfcodppfaiab", sum := "c8350a9ae29bfffe341d2b2739cdd281ce1791f183665ae7182e2fd2e3073350", func := "tollbar/tollbarlaw07.ListMiddle", spec := "listMiddle", unfollowed := true, recurses := true, apart := false, narrowed := true }
def ListMiddleUptoSaid : Prop := listMiddleUptoRow.holds Try.pinned (OpenSpec.upto listMiddleSpec)

/-- 'tollbarlaw07.ListWalk', WHERE WHAT IT READS IS OF BULK AT MOST 1048576: true; the input reads as it did. -/
def listWalkUptoRow : OpenClaim := { program := "ytmhnfcodppfaiab", sum := "c8350a9ae29bfffe341d2b2739cdd281ce1791f183665ae7182e2fd2e3073350", func := "tollbar/tollbarlaw07.ListWalk", spec := "listWalk", unfollowed := true, recurses := true, apart := false, narrowed := true }
def ListWalkUptoSaid : Prop := listWalkUptoRow.holds Try.pinned (OpenSpec.upto listWalkSpec)

/-- 'tollbarlaw07.ListPlays', WHERE WHAT IT READS IS OF BULK AT MOST 1048576: true; the input reads as it did. -/
def listPlaysUptoRow : OpenClaim := { program := "ytmhnfcodppfaiab", sum := "c8350a9ae29bfffe341d2b2739cdd281ce1791f183665ae7182e2fd2e3073350", func := "tollbar/tollbarlaw07.ListPlays", spec := "listPlays", inPlace := ["maps.clone"], unfollowed := true, recurses := true, apart := false, narrowed := true }
def ListPlaysUptoSaid : Prop := listPlaysUptoRow.holds Try.pinned (OpenSpec.upto listPlaysSpec)

end Rows
end Go.Proofs.Ytmhnfcodppfaiab
