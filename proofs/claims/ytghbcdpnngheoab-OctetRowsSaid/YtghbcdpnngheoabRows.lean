/-
  No cell of these rows narrows 'for every input' (looked for: loops, veiled, ifaces, maps, wideKeys, modest, calm, conditions, laid).
  DERIVED. THE GIVEN ROWS OF THIS SEAT. 5 by the template 'for every input the law returns true; each argument reads behind the call as it read before'; 0 by the template 'total and deterministic' (their statements: YtghbcdpnngheoabTotals.lean).
  GIVEN WITH THE SEED: the statements are not yours to turn. If you find one false, say at which input.
  Laid BY PROGRAM, IN A SANDBOX (cutbox-rows.mjs): the forced cells as the released guide's own fill.sh prints them over the translation aa4b06bf13efd53c… (all of the seat's roots in one cut). By AI agents, Wed Nov 11 2026. No macro, syntax, notation, axiom, sorry.
-/
import Derived.Test.YtghbcdpnngheoabChecked
import GoSem.Claim
import GoSem.ClaimJoined
import GoSem.ClaimMapViews
import Derived.JoinedTies
import Derived.KernelRfl
namespace Go.Proofs.Ytghbcdpnngheoab
/- THE CELL 'sum', in the pinned program and in every row, IS THE sha256 OF THE DUMP (.gsa) THAT YtghbcdpnngheoabProg.lean LOADS. Nothing in Lean hashes anything: it is a label: what it is worth is what the hold of that sum in a sandbox is worth. -/
noncomputable def Try.pinned : Pinned := { name := "ytghbcdpnngheoab", sum := "aa4b06bf13efd53c1cdbcc0b44102f42a5f8da913f6e342cd15b1280784dc906", checked := Try.checked }
namespace Rows
def none {H : Type} : Left H := { results := [], args := [] }

/-- 'tollbarlaw01.OctetNumbers': WHATEVER THE INPUT: true; the input reads as it did. -/
def octetNumbersSpec : ChangeSpec := { name := "octetNumbers", fn := fun _ => fun
  | [d1, d2] => { results := [.lit (.bool true)], args := [d1, d2] }
  | _ => none }
def octetNumbersRow : OpenClaim := { program := "ytghbcdpnngheoab", sum := "aa4b06bf13efd53c1cdbcc0b44102f42a5f8da913f6e342cd15b1280784dc906", func := "tollbar/tollbarlaw01.OctetNumbers", spec := "octetNumbers", unfollowed := true, recurses := true, apart := false }
def OctetNumbersSaid : Prop := octetNumbersRow.holds Try.pinned (OpenSpec.ofChange octetNumbersSpec)

/-- ITS FALSE NEIGHBOUR: 'it returns false'. Refute it at one input. -/
def octetNumbersWrong : ChangeSpec := { name := "octetNumbers", fn := fun _ => fun
  | [d1, d2] => { results := [.lit (.bool false)], args := [d1, d2] }
  | _ => none }
def OctetNumbersWrongFalsely : Prop := octetNumbersRow.holds Try.pinned (OpenSpec.ofChange octetNumbersWrong)

/-- 'tollbarlaw01.OctetSigns': WHATEVER THE INPUT: true; the input reads as it did. -/
def octetSignsSpec : ChangeSpec := { name := "octetSigns", fn := fun _ => fun
  | [d1, d2] => { results := [.lit (.bool true)], args := [d1, d2] }
  | _ => none }
def octetSignsRow : OpenClaim := { program := "ytghbcdpnngheoab", sum := "aa4b06bf13efd53c1cdbcc0b44102f42a5f8da913f6e342cd15b1280784dc906", func := "tollbar/tollbarlaw01.OctetSigns", spec := "octetSigns", unfollowed := true, recurses := true, apart := false }
def OctetSignsSaid : Prop := octetSignsRow.holds Try.pinned (OpenSpec.ofChange octetSignsSpec)

/-- ITS FALSE NEIGHBOUR: 'it returns false'. Refute it at one input. -/
def octetSignsWrong : ChangeSpec := { name := "octetSigns", fn := fun _ => fun
  | [d1, d2] => { results := [.lit (.bool false)], args := [d1, d2] }
  | _ => none }
def OctetSignsWrongFalsely : Prop := octetSignsRow.holds Try.pinned (OpenSpec.ofChange octetSignsWrong)

/-- 'tollbarlaw01.OctetRows': WHATEVER THE INPUT: true; the input reads as it did. -/
def octetRowsSpec : ChangeSpec := { name := "octetRows", fn := fun _ => fun
  | [d1, d2, d3, d4, d5] => { results := [.lit (.bool true)], args := [d1, d2, d3, d4, d5] }
  | _ => none }
def octetRowsRow : OpenClaim := { program := "ytghbcdpnngheoab", sum := "aa4b06bf13efd53c1cdbcc0b44102f42a5f8da913f6e342cd15b1280784dc906", func := "tollbar/tollbarlaw01.OctetRows", spec := "octetRows", unfollowed := true, recurses := true, apart := false }
def OctetRowsSaid : Prop := octetRowsRow.holds Try.pinned (OpenSpec.ofChange octetRowsSpec)

/-- ITS FALSE NEIGHBOUR: 'it returns false'. Refute it at one input. -/
def octetRowsWrong : ChangeSpec := { name := "octetRows", fn := fun _ => fun
  | [d1, d2, d3, d4, d5] => { results := [.lit (.bool false)], args := [d1, d2, d3, d4, d5] }
  | _ => none }
def OctetRowsWrongFalsely : Prop := octetRowsRow.holds Try.pinned (OpenSpec.ofChange octetRowsWrong)

/-- 'tollbarlaw01.OctetTexts': WHATEVER THE INPUT: true; the input reads as it did. -/
def octetTextsSpec : ChangeSpec := { name := "octetTexts", fn := fun _ => fun
  | [d1, d2] => { results := [.lit (.bool true)], args := [d1, d2] }
  | _ => none }
def octetTextsRow : OpenClaim := { program := "ytghbcdpnngheoab", sum := "aa4b06bf13efd53c1cdbcc0b44102f42a5f8da913f6e342cd15b1280784dc906", func := "tollbar/tollbarlaw01.OctetTexts", spec := "octetTexts", unfollowed := true, recurses := true, apart := false }
def OctetTextsSaid : Prop := octetTextsRow.holds Try.pinned (OpenSpec.ofChange octetTextsSpec)

/-- ITS FALSE NEIGHBOUR: 'it returns false'. Refute it at one input. -/
def octetTextsWrong : ChangeSpec := { name := "octetTexts", fn := fun _ => fun
  | [d1, d2] => { results := [.lit (.bool false)], args := [d1, d2] }
  | _ => none }
def OctetTextsWrongFalsely : Prop := octetTextsRow.holds Try.pinned (OpenSpec.ofChange octetTextsWrong)

/-- 'tollbarlaw16.MchanOrder': WHATEVER THE INPUT: true; the input reads as it did. -/
def mchanOrderSpec : ChangeSpec := { name := "mchanOrder", fn := fun _ => fun
  | [d1, d2] => { results := [.lit (.bool true)], args := [d1, d2] }
  | _ => none }
def mchanOrderRow : OpenClaim := { program := "ytghbcdpnngheoab", sum := "aa4b06bf13efd53c1cdbcc0b44102f42a5f8da913f6e342cd15b1280784dc906", func := "tollbar/tollbarlaw16.MchanOrder", spec := "mchanOrder", unfollowed := true, recurses := true, apart := false }
def MchanOrderSaid : Prop := mchanOrderRow.holds Try.pinned (OpenSpec.ofChange mchanOrderSpec)

/-- ITS FALSE NEIGHBOUR: 'it returns false'. Refute it at one input. -/
def mchanOrderWrong : ChangeSpec := { name := "mchanOrder", fn := fun _ => fun
  | [d1, d2] => { results := [.lit (.bool false)], args := [d1, d2] }
  | _ => none }
def MchanOrderWrongFalsely : Prop := mchanOrderRow.holds Try.pinned (OpenSpec.ofChange mchanOrderWrong)

/- THE SECOND FORM. 'bulk': how many values and letters a reading holds, each counted each time it is reached (what is shared counts as often as it is met; a slice's spare places count too). A statement '..UptoSaid' is the law's where the arguments, and the package variables that the reading takes, are together of bulk at most 1048576: NARROWER than '..Said'. Prove '..Said' where nothing that the law and all that it calls make is longer than what came in: it says more and counts as full. Else prove '..UptoSaid'. A law counts once. -/
mutual
def uptoBulk {H : Type} : DataW H → Nat
  | .lit (.string bytes) => bytes.length + 1
  | .lit _ => 1
  | .nil => 1
  | .ptr d => uptoBulk d + 1
  | .slice elems spare => uptoBulkAll elems + uptoBulkAll spare + 1
  | .agg parts => uptoBulkAll parts + 1
  | .iface _ d => uptoBulk d + 1
  | .map entries => uptoBulkEntries entries + 1
  | .held _ => 1
def uptoBulkAll {H : Type} : List (DataW H) → Nat
  | [] => 0
  | d :: r => uptoBulk d + uptoBulkAll r
def uptoBulkEntries {H : Type} : List (Lit × DataW H) → Nat
  | [] => 0
  | x :: r => uptoBulkEntry x + uptoBulkEntries r
def uptoBulkEntry {H : Type} : Lit × DataW H → Nat
  | (.string bytes, d) => bytes.length + uptoBulk d + 1
  | (_, d) => uptoBulk d + 1
 end
def uptoSmall : (H : Type) → List (DataW H) → Bool := fun _ ds => decide (uptoBulkAll ds ≤ 1048576)
def OpenSpec.upto (s : _root_.Go.ChangeSpec) : _root_.Go.OpenSpec := { _root_.Go.OpenSpec.ofChange s with cond := some uptoSmall }

/-- 'tollbarlaw01.OctetNumbers', WHERE WHAT IT READS IS OF BULK AT MOST 1048576: true; the input reads as it did. -/
def octetNumbersUptoRow : OpenClaim := { program := "ytghbcdpnngheoab", sum := "aa4b06bf13efd53c1cdbcc0b44102f42a5f8da913f6e342cd15b1280784dc906", func := "tollbar/tollbarlaw01.OctetNumbers", spec := "octetNumbers", unfollowed := true, recurses := true, apart := false, narrowed := true }
def OctetNumbersUptoSaid : Prop := octetNumbersUptoRow.holds Try.pinned (OpenSpec.upto octetNumbersSpec)

/-- 'tollbarlaw01.OctetSigns', WHERE WHAT IT READS IS OF BULK AT MOST 1048576: true; the input reads as it did. -/
def octetSignsUptoRow : OpenClaim := { program := "ytghbcdpnngheoab", sum := "aa4b06bf13efd53c1cdbcc0b44102f42a5f8da913f6e342cd15b1280784dc906", func := "tollbar/tollbarlaw01.OctetSigns", spec := "octetSigns", unfollowed := true, recurses := true, apart := false, narrowed := true }
def OctetSignsUptoSaid : Prop := octetSignsUptoRow.holds Try.pinned (OpenSpec.upto octetSignsSpec)

/-- 'tollbarlaw01.OctetRows', WHERE WHAT IT READS IS OF BULK AT MOST 1048576: true; the input reads as it did. -/
def octetRowsUptoRow : OpenClaim := { program := "ytghbcdpnngheoab", sum := "aa4b06bf13efd53c1cdbcc0b44102f42a5f8da913f6e342cd15b1280784dc906", func := "tollbar/tollbarlaw01.OctetRows", spec := "octetRows", unfollowed := true, recurses := true, apart := false, narrowed := true }
def OctetRowsUptoSaid : Prop := octetRowsUptoRow.holds Try.pinned (OpenSpec.upto octetRowsSpec)

/-- 'tollbarlaw01.OctetTexts', WHERE WHAT IT READS IS OF BULK AT MOST 1048576: true; the input reads as it did. -/
def octetTextsUptoRow : OpenClaim := { program := "ytghbcdpnngheoab", sum := "aa4b06bf13efd53c1cdbcc0b44102f42a5f8da913f6e342cd15b1280784dc906", func := "tollbar/tollbarlaw01.OctetTexts", spec := "octetTexts", unfollowed := true, recurses := true, apart := false, narrowed := true }
def OctetTextsUptoSaid : Prop := octetTextsUptoRow.holds Try.pinned (OpenSpec.upto octetTextsSpec)

/-- 'tollbarlaw16.MchanOrder', WHERE WHAT IT READS IS OF BULK AT MOST 1048576: true; the input reads as it did. -/
def mchanOrderUptoRow : OpenClaim := { program := "ytghbcdpnngheoab", sum := "aa4b06bf13efd53c1cdbcc0b44102f42a5f8da913f6e342cd15b1280784dc906", func := "tollbar/tollbarlaw16.MchanOrder", spec := "mchanOrder", unfollowed := true, recurses := true, apart := false, narrowed := true }
def MchanOrderUptoSaid : Prop := mchanOrderUptoRow.holds Try.pinned (OpenSpec.upto mchanOrderSpec)

end Rows
end Go.Proofs.Ytghbcdpnngheoab
