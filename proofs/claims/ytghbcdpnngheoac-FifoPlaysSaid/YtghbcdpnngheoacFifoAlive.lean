/- The chapter's example of the row answers true. -/
import Derived.Test.YtghbcdpnngheoacFifoOps
namespace Go.Proofs.Ytghbcdpnngheoac.FifoCode
open Go Go.RowKit Go.Proofs.Ytghbcdpnngheoac.Obj
set_option maxRecDepth 100000
set_option linter.unusedVariables false
theorem up {B : Nat} {w W W' : World} {S : Nat → Prop} (hb : Below B w W) (hB : B ≤ w.heap.size) (o : Only S W W') (hs : ∀ k, S k → B ≤ k) : Below B w W' := o.below hb (Nat.le_trans hB hb.size) (fun k _ h => hs k h)
set_option maxHeartbeats 2000000 in
theorem alive_at (w : World) : Calls Try.prog 23 #[] w fun e w' => e = .returned (.bool true) ∧ Below w.heap.size w w' := by
  go_enter Try.func23, Try.ntmps23
  go_wp2_with (fail)
  refine (new_at 4 w (by decide) (by decide)).mono ?_
  rintro e w1 ⟨rfl, h0, hb1, _⟩
  go_wp2_with (fail)
  refine (new_out 0 _ (by decide)).mono ?_
  rintro e w2 ⟨rfl, rfl⟩
  go_wp2_with (fail)
  refine (push_at h0 (k := 5) (by decide) (by decide) (by decide) (by decide)).mono ?_
  rintro e w1 ⟨rfl, h1, o1⟩
  have hb2 := up hb1 (Nat.le_refl _) o1 (fun k h => Nat.le_of_eq h.symm)
  go_wp2_with (fail)
  refine (push_at h1 (k := 2) (by decide) (by decide) (by decide) (by decide)).mono ?_
  rintro e w1 ⟨rfl, h2, o2⟩
  have hb3 := up hb2 (Nat.le_refl _) o2 (fun k h => Nat.le_of_eq h.symm)
  go_wp2_with (fail)
  refine (push_have h2 (k := 5) (by decide) (by decide) (by decide)).mono ?_
  rintro e w1 ⟨rfl, o3⟩
  have h3 := h2.same (o3.block _ h2.lt)
  have hb4 := hb3.trans (o3.mono hb3.size)
  go_wp2_with (fail)
  refine (at_at h3 2).mono ?_
  rintro e w1 ⟨rfl, o4⟩
  have h4 := h3.same (o4.block _ h3.lt)
  have hb5 := hb4.trans (o4.mono hb4.size)
  rw [show at_ ([] ++ [5] ++ [2]) 2 = 1 by decide]
  go_wp2_with (fail)
  refine (pop_at (r := [2]) h4).mono ?_
  rintro e w1 ⟨rfl, h5, o5⟩
  have hb6 := up hb5 (Nat.le_refl _) o5 (fun k h => Nat.le_of_eq h.symm)
  go_wp2_with (fail)
  refine (pop_at (r := []) h5).mono ?_
  rintro e w1 ⟨rfl, h6, o6⟩
  have hb7 := up hb6 (Nat.le_refl _) o6 (fun k h => Nat.le_of_eq h.symm)
  go_wp2_with (fail)
  refine (pop_none h6).mono ?_
  rintro e w1 ⟨rfl, rfl⟩
  go_wp2_with (fail)
  go_ret
  exact ⟨rfl, hb7⟩
end Go.Proofs.Ytghbcdpnngheoac.FifoCode
