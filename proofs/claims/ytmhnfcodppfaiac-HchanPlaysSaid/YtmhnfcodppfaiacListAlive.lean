
/- The chapter's example of list answers true. -/
import Derived.Test.YtmhnfcodppfaiacListAll
import Derived.Test.YtmhnfcodppfaiacSameInts
namespace Go.Proofs.Ytmhnfcodppfaiac.ListCode
open Go Go.RowKit Go.Proofs.Ytmhnfcodppfaiac.Obj Go.Proofs.Ytmhnfcodppfaiac.ListPure
set_option linter.unusedVariables false
set_option maxRecDepth 100000
section
variable {w w' : World} {p b : Nat} {L : List Int}
theorem put_eq (h : LsAt w p b L) (i c : Int) (L' : List Int) (hc : putC L i = c) (hl : putL L i = L') : Calls Try.prog 30 #[.pointer (some ⟨p, 0, none⟩), .int .i64 i] w fun e w' => e = .returned (.int .i64 c) ∧ LsAt w' p b L' ∧ Only (fun k => k = p ∨ k = b) w w' := by
  subst hc; subst hl; exact put_at h i
theorem drop_eq (h : LsAt w p b L) (i c : Int) (L' : List Int) (hwf : (Lit.int .i64 i).wf = true) (hc : dropC L i = c) (hl : L.erase i = L') : Calls Try.prog 31 #[.pointer (some ⟨p, 0, none⟩), .int .i64 i] w fun e w' => e = .returned (.int .i64 c) ∧ LsAt w' p b L' ∧ Only (fun k => k = p ∨ k = b) w w' := by
  subst hc; subst hl; exact drop_at h hwf
theorem next_eq (h : LsAt w p b L) (i : Int) (v : Int) (c : Bool) (hwf : (Lit.int .i64 i).wf = true) (hc : nextV L i = (v, c)) : Calls Try.prog 63 #[.pointer (some ⟨p, 0, none⟩), .int .i64 i] w fun e w' => e = .returned (.tuple #[.int .i64 v, .bool c]) ∧ Below w.heap.size w w' := by
  have := next_at h hwf
  rw [hc] at this; exact this
end
theorem up {B : Nat} {w W W' : World} {S : Nat → Prop} (hb : Below B w W) (hB : B ≤ w.heap.size) (o : Only S W W') (hs : ∀ k, S k → B ≤ k) : Below B w W' := o.below hb (Nat.le_trans hB hb.size) (fun k _ h => hs k h)
end Go.Proofs.Ytmhnfcodppfaiac.ListCode
