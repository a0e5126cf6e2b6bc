/- The chapter's examples of the ring answer true. -/
import Derived.Test.YtghbcdpnngheoacRingAt
namespace Go.Proofs.Ytghbcdpnngheoac.RingCode
open Go Go.RowKit Go.Proofs.Ytghbcdpnngheoac.Obj
set_option maxRecDepth 100000
set_option linter.unusedVariables false
set_option maxHeartbeats 2000000 in
theorem alive_at (w : World) : Calls Try.prog 8 #[] w fun e w' => e = .returned (.bool true) ∧ Below w.heap.size w w' := by
  go_enter Try.func8, Try.ntmps8
  go_wp2_with (fail)
  refine (new_at 2 w (by decide)).mono ?_
  rintro e w1 ⟨rfl, h0, hb1, _⟩
  go_wp2_with (fail)
  refine (new_out 9 _ (by decide)).mono ?_
  rintro e w2 ⟨rfl, rfl⟩
  have up : ∀ (W W' : World) (S : Nat → Prop), Below w.heap.size w W → Only S W W' → (∀ k, S k → w.heap.size ≤ k) → Below w.heap.size w W' := fun _ _ _ hb o hs => o.below hb hb.size (fun k _ h => hs k h)
  have hup := hid up
  clear up
  go_wp2_with (fail)
  refine (put_at h0 (by decide) 5).mono ?_
  rintro e w1 ⟨rfl, h1, o1⟩
  have hb2 := hup.out _ _ _ hb1 o1 (fun k h => by omega)
  go_wp2_with (fail)
  refine (put_at h1 (by decide) 6).mono ?_
  rintro e w1 ⟨rfl, h2, o2⟩
  have hb3 := hup.out _ _ _ hb2 o2 (fun k h => by omega)
  go_wp2_with (fail)
  refine (put_full_at h2 (by decide) 7).mono ?_
  rintro e w1 ⟨rfl, h3, o3⟩
  have hb4 := hup.out _ _ _ hb3 o3 (fun k h => h.elim)
  go_wp2_with (fail)
  refine (swap_at (r := [6]) h3 (by decide) 7).mono ?_
  rintro e w1 ⟨rfl, h4, o4⟩
  have hb5 := hup.out _ _ _ hb4 o4 (fun k h => by omega)
  go_wp2_with (fail)
  refine (take_at (r := [7]) h4).mono ?_
  rintro e w1 ⟨rfl, h5, o5⟩
  have hb6 := hup.out _ _ _ hb5 o5 (fun k h => by omega)
  go_wp2_with (fail)
  refine (take_at (r := []) h5).mono ?_
  rintro e w1 ⟨rfl, h6, o6⟩
  have hb7 := hup.out _ _ _ hb6 o6 (fun k h => by omega)
  go_wp2_with (fail)
  refine (take_none_at h6).mono ?_
  rintro e w1 ⟨rfl, rfl⟩
  go_wp2_with (fail)
  go_ret
  exact ⟨rfl, hb7⟩
end Go.Proofs.Ytghbcdpnngheoac.RingCode
