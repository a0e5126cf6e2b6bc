/-
  No cell of these rows narrows 'for every input' (looked for: loops, veiled, ifaces, maps, wideKeys, modest, calm, conditions, laid).
  DERIVED. THE GIVEN ROWS OF THIS SEAT. 3 by the template 'for every input the law returns true; each argument reads behind the call as it read before'; 0 by the template 'total and deterministic' (their statements: YtmhnfcodppfaiacTotals.lean).
  GIVEN WITH THE SEED: the statements are not yours to turn. If you find one false, say at which input.
  Laid BY PROGRAM, IN A SANDBOX (cutbox-rows.mjs): the forced cells as the released guide's own fill.sh prints them over the translation b49b1569abed507b… (all of the seat's roots in one cut). By AI agents, Wed Nov 11 2026. No macro, syntax, notation, axiom, sorry.
-/
import Derived.Test.YtmhnfcodppfaiacChecked
import GoSem.Claim
import GoSem.ClaimJoined
import GoSem.ClaimMapViews
import Derived.JoinedTies
import Derived.KernelRfl
namespace Go.Proofs.Ytmhnfcodppfaiac
/- THE CELL 'sum', in the pinned program and in every row, IS THE sha256 OF THE DUMP (.gsa) THAT YtmhnfcodppfaiacProg.lean LOADS. Nothing in Lean hashes anything: it is a label: what it is worth is what the hold of that sum in a sandbox is worth. -/
noncomputable def Try.pinned : Pinned := { name := "ytmhnfcodppfaiac", sum := "b49b1569abed507ba3fab8cc104e0cf48fc0b3dbb9d268648c8b1d1939aee8cf", checked := Try.checked }
namespace Rows
def none {H : Type} : Left H := { results := [], args := [] }

/-- 'tollbarlaw22.HchanSlots': WHATEVER THE INPUT: true; the input reads as it did. -/
def hchanSlotsSpec : ChangeSpec := { name := "hchanSlots", fn := fun _ => fun
  | [d1, d2] => { results := [.lit (.bool true)], args := [d1, d2] }
  | _ => none }
def hchanSlotsRow : OpenClaim := { program := "ytmhnfcodppfaiac", sum := "b49b1569abed507ba3fab8cc104e0cf48fc0b3dbb9d268648c8b1d1939aee8cf", func := "tollbar/tollbarlaw22.HchanSlots", spec := "hchanSlots", unfollowed := true, recurses := true, apart := false }
def HchanSlotsSaid : Prop := hchanSlotsRow.holds Try.pinned (OpenSpec.ofChange hchanSlotsSpec)

/-- ITS FALSE NEIGHBOUR: 'it returns false'. Refute it at one input. -/
def hchanSlotsWrong : ChangeSpec := { name := "hchanSlots", fn := fun _ => fun
  | [d1, d2] => { results := [.lit (.bool false)], args := [d1, d2] }
  | _ => none }
def HchanSlotsWrongFalsely : Prop := hchanSlotsRow.holds Try.pinned (OpenSpec.ofChange hchanSlotsWrong)

/-- 'tollbarlaw22.HchanApart': WHATEVER THE INPUT: true; the input reads as it did. -/
def hchanApartSpec : ChangeSpec := { name := "hchanApart", fn := fun _ => fun
  | [d1, d2] => { results := [.lit (.bool true)], args := [d1, d2] }
  | _ => none }
def hchanApartRow : OpenClaim := { program := "ytmhnfcodppfaiac", sum := "b49b1569abed507ba3fab8cc104e0cf48fc0b3dbb9d268648c8b1d1939aee8cf", func := "tollbar/tollbarlaw22.HchanApart", spec := "hchanApart", unfollowed := true, recurses := true, apart := false }
def HchanApartSaid : Prop := hchanApartRow.holds Try.pinned (OpenSpec.ofChange hchanApartSpec)

/-- ITS FALSE NEIGHBOUR: 'it returns false'. Refute it at one input. -/
def hchanApartWrong : ChangeSpec := { name := "hchanApart", fn := fun _ => fun
  | [d1, d2] => { results := [.lit (.bool false)], args := [d1, d2] }
  | _ => none }
def HchanApartWrongFalsely : Prop := hchanApartRow.holds Try.pinned (OpenSpec.ofChange hchanApartWrong)

/-- 'tollbarlaw22.HchanPlays': WHATEVER THE INPUT: true; the input reads as it did. -/
def hchanPlaysSpec : ChangeSpec := { name := "hchanPlays", fn := fun _ => fun
  | [d1, d2, d3] => { results := [.lit (.bool true)], args := [d1, d2, d3] }
  | _ => none }
def hchanPlaysRow : OpenClaim := { program := "ytmhnfcodppfaiac", sum := "b49b1569abed507ba3fab8cc104e0cf48fc0b3dbb9d268648c8b1d1939aee8cf", func := "tollbar/tollbarlaw22.HchanPlays", spec := "hchanPlays", inPlace := ["maps.clone"], unfollowed := true, recurses := true, apart := false }
def HchanPlaysSaid : Prop := hchanPlaysRow.holds Try.pinned (OpenSpec.ofChange hchanPlaysSpec)

/-- ITS FALSE NEIGHBOUR: 'it returns false'. Refute it at one input. -/
def hchanPlaysWrong : ChangeSpec := { name := "hchanPlays", fn := fun _ => fun
  | [d1, d2, d3] => { results := [.lit (.bool false)], args := [d1, d2, d3] }
  | _ => none }
def HchanPlaysWrongFalsely : Prop := hchanPlaysRow.holds Try.pinned (OpenSpec.ofChange hchanPlaysWrong)

/- THE SECOND FORM. 'bulk': how many values and letters a reading holds, each counted each time it is reached (what is shared counts as often as it is met; a slice's spare places count too). A statement '..UptoSaid' is the law's where the arguments, and the package variables that the reading takes, are together of bulk at most 1048576: NARROWER than '..Said'. Prove '..Said' where nothing that the law and all that it calls make is longer than what came in: it says more and counts as full. Else prove '..UptoSaid'. A law counts once. -/
mutual
def uptoBulk {H : Type} : DataW H → Nat
  | .lit (.string bytes) => bytes.length + 1
  | .lit _ => 1
  | .nil => 1
  | .ptr d => uptoBulk d + 1
  | .slice elems spare => uptoBulkAll elems + uptoBulkAll spare + 1
  | .agg parts => uptoBulkAll parts + 1
  | .iface _ d => uptoBulk d + 1
  | .map entries => uptoBulkEntries entries + 1
  | .held _ => 1
def uptoBulkAll {H : Type} : List (DataW H) → Nat
  | [] => 0
  | d :: r => uptoBulk d + uptoBulkAll r
def uptoBulkEntries {H : Type} : List (Lit × DataW H) → Nat
  | [] => 0
  | x :: r => uptoBulkEntry x + uptoBulkEntries r
def uptoBulkEntry {H : Type} : Lit × DataW H → Nat
  | (.string bytes, d) => bytes.length + uptoBulk d + 1
  | (_, d) => uptoBulk d + 1
 end
def uptoSmall : (H : Type) → List (DataW H) → Bool := fun _ ds => decide (uptoBulkAll ds ≤ 1048576)
def OpenSpec.upto (s : _root_.Go.ChangeSpec) : _root_.Go.OpenSpec := { _root_.Go.OpenSpec.ofChange s with cond := some uptoSmall }

/-- 'tollbarlaw22.HchanSlots', WHERE WHAT IT READS IS OF BULK AT MOST 1048576: true; the input reads as it did. -/
def hchanSlotsUptoRow : OpenClaim := { program := "ytmhnfcodppfaiac", sum := "b49b1569abed507ba3fab8cc104e0cf48fc0b3dbb9d268648c8b1d1939aee8cf", func := "tollbar/tollbarlaw22.HchanSlots", spec := "hchanSlots", unfollowed := true, recurses := true, apart := false, narrowed := true }
def HchanSlotsUptoSaid : Prop := hchanSlotsUptoRow.holds Try.pinned (OpenSpec.upto hchanSlotsSpec)

/-- 'tollbarlaw22.HchanApart', WHERE WHAT IT READS IS OF BULK AT MOST 1048576: true; the input reads as it did. -/
def hchanApartUptoRow : OpenClaim := { program := "ytmhnfcodppfaiac", sum := "b49b1569abed507ba3fab8cc104e0cf48fc0b3dbb9d268648c8b1d1939aee8cf", func := "tollbar/tollbarlaw22.HchanApart", spec := "hchanApart", unfollowed := true, recurses := true, apart := false, narrowed := true }
def HchanApartUptoSaid : Prop := hchanApartUptoRow.holds Try.pinned (OpenSpec.upto hchanApartSpec)

/-- 'tollbarlaw22.HchanPlays', WHERE WHAT IT READS IS OF BULK AT MOST 1048576: true; the input reads as it did. -/
def hchanPlaysUptoRow : OpenClaim := { program := "ytmhnfcodppfaiac", sum := "b49b1569abed507ba3fab8cc104e0cf48fc0b3dbb9d268648c8b1d1939aee8cf", func := "tollbar/tollbarlaw22.HchanPlays", spec := "hchanPlays", inPlace := ["maps.clone"], unfollowed := true, recurses := true, apart := false, narrowed := true }
def HchanPlaysUptoSaid : Prop := hchanPlaysUptoRow.holds Try.pinned (OpenSpec.upto hchanPlaysSpec)

end Rows
end Go.Proofs.Ytmhnfcodppfaiac
