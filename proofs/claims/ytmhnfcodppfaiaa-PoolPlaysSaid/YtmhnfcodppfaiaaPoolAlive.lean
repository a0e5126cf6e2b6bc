
/- The chapter's examples (alive) answer true. -/
import Derived.Test.YtmhnfcodppfaiaaPoolNew
namespace Go.Proofs.Ytmhnfcodppfaiaa.PoolCode
open Go.RowKit Go.Proofs.YtmhnfcodppfaiaaW.PrintWords Go.Proofs.YtmhnfcodppfaiaaW.PrintMore
set_option maxRecDepth 100000
set_option linter.unusedVariables false
theorem PoolAt.alloc {W : World} {p q cp : Nat} {l : List Slot} {pad : List Value} {f n : Int} (h : PoolAt W p q l pad cp f n) {o : Obj} : PoolAt (W.alloc o) p q l pad cp f n :=
  h.else (Below.heap_alloc _ _ _ h.lp) (Below.heap_alloc _ _ _ h.lq)
theorem w64 {n : Int} (h0 : -9223372036854775808 ≤ n) (h1 : n < 9223372036854775808) : wrap64 n = n := by unfold wrap64; omega
theorem new_out (k : Int) (w : World) (h : k < 1 ∨ k > 1024) : Calls Try.prog 7 #[.int .i64 k] w fun e w' => e = .returned (.tuple #[.pointer none, .int .i64 2]) ∧ w' = w := by
  go_enter Try.func7, Try.ntmps7
  rcases h with h | h
  · go_wp2
    go_ret2
    exact ⟨rfl, rfl⟩
  · by_cases h1 : k < 1
    · exact absurd h (by omega)
    · go_wp2
      go_ret2
      exact ⟨rfl, rfl⟩
set_option maxHeartbeats 2000000 in
theorem alive_at (w : World) : Calls Try.prog 6 #[] w fun e w' => e = .returned (.bool true) ∧ Below w.heap.size w w' := by
  go_enter Try.func6, Try.ntmps6
  go_wp2_with (fail)
  refine (new_at 3 (by decide) (by decide) w).mono ?_
  rintro e w1 ⟨rfl, hb1, q, cp, pad, hq, h0⟩
  go_wp2_with (fail)
  refine (new_out 0 _ (by decide)).mono ?_
  rintro e w2 ⟨rfl, hw⟩
  obtain rfl : w1 = w2 := hw.symm
  have z0 : wrap64 ((0 : Int) + 1) = 1 := by rw [w64 (by decide) (by decide)]; rfl
  have z1 : wrap64 ((1 : Int) + 1) = 2 := by rw [w64 (by decide) (by decide)]; rfl
  have z2 : wrap64 ((2 : Int) + 1) = 3 := by rw [w64 (by decide) (by decide)]; rfl
  have z3 : wrap64 ((2 : Int) - 1) = 1 := by rw [w64 (by decide) (by decide)]; rfl
  have z4 : wrap64 ((3 : Int) - 1) = 2 := by rw [w64 (by decide) (by decide)]; rfl
  replace h0 : PoolAt w1 w.heap.size q [⟨false, Sg.zero, 1⟩, ⟨false, Sg.zero, 2⟩, ⟨false, Sg.zero, -1⟩] pad cp 0 0 := h0
  go_wp2_with (fail)
  refine (take_at h0 ⟨5, 0, false, 0, 0⟩ 0 ⟨false, Sg.zero, 1⟩ rfl rfl).mono ?_
  rintro e w2 ⟨rfl, h1, e1⟩
  rw [z0] at h1
  replace h1 : PoolAt w2 w.heap.size q [⟨true, ⟨5, 0, false, 0, 0⟩, 0⟩, ⟨false, Sg.zero, 2⟩, ⟨false, Sg.zero, (-1)⟩] pad cp 1 1 := h1
  have hb2 := e1.below hb1 hb1.size (Nat.le_refl _) (Nat.le_of_lt hq)
  go_wp2_with (fail)
  refine (take_at h1 ⟨6, 0, false, 0, 0⟩ 1 ⟨false, Sg.zero, 2⟩ rfl rfl).mono ?_
  rintro e w3 ⟨rfl, h2, e2⟩
  rw [z1] at h2
  replace h2 : PoolAt w3 w.heap.size q [⟨true, ⟨5, 0, false, 0, 0⟩, 0⟩, ⟨true, ⟨6, 0, false, 0, 0⟩, 0⟩, ⟨false, Sg.zero, (-1)⟩] pad cp 2 2 := h2
  have hb3 := e2.below hb2 hb2.size (Nat.le_refl _) (Nat.le_of_lt hq)
  go_wp2_with (fail)
  refine (give_at h2 0 ⟨true, ⟨5, 0, false, 0, 0⟩, 0⟩ rfl rfl).mono ?_
  rintro e w4 ⟨rfl, h3, e3⟩
  rw [z3] at h3
  replace h3 : PoolAt w4 w.heap.size q [⟨false, Sg.zero, 2⟩, ⟨true, ⟨6, 0, false, 0, 0⟩, 0⟩, ⟨false, Sg.zero, (-1)⟩] pad cp 0 1 := h3
  have hb4 := e3.below hb3 hb3.size (Nat.le_refl _) (Nat.le_of_lt hq)
  go_wp2_with (fail)
  refine (take_at h3 ⟨7, 0, false, 0, 0⟩ 0 ⟨false, Sg.zero, 2⟩ rfl rfl).mono ?_
  rintro e w5 ⟨rfl, h4, e4⟩
  rw [z1] at h4
  replace h4 : PoolAt w5 w.heap.size q [⟨true, ⟨7, 0, false, 0, 0⟩, 0⟩, ⟨true, ⟨6, 0, false, 0, 0⟩, 0⟩, ⟨false, Sg.zero, (-1)⟩] pad cp 2 2 := h4
  have hb5 := e4.below hb4 hb4.size (Nat.le_refl _) (Nat.le_of_lt hq)
  go_wp2_with (fail)
  refine (take_at h4 ⟨8, 0, false, 0, 0⟩ 2 ⟨false, Sg.zero, (-1)⟩ rfl rfl).mono ?_
  rintro e w6 ⟨rfl, h5, e5⟩
  rw [z2] at h5
  replace h5 : PoolAt w6 w.heap.size q [⟨true, ⟨7, 0, false, 0, 0⟩, 0⟩, ⟨true, ⟨6, 0, false, 0, 0⟩, 0⟩, ⟨true, ⟨8, 0, false, 0, 0⟩, 0⟩] pad cp (-1) 3 := h5
  have hb6 := e5.below hb5 hb5.size (Nat.le_refl _) (Nat.le_of_lt hq)
  go_wp2_with (fail)
  refine (take_full_at h5 ⟨0, 0, false, 0, 0⟩ (by decide)).mono ?_
  rintro e w7 ⟨rfl, h6, e6⟩
  have hb7 := e6.below hb6 hb6.size (Nat.le_refl _) (Nat.le_of_lt hq)
  go_wp2_with (fail)
  refine (give_at h6 1 ⟨true, ⟨6, 0, false, 0, 0⟩, 0⟩ rfl rfl).mono ?_
  rintro e w8 ⟨rfl, h7, e7⟩
  rw [z4] at h7
  replace h7 : PoolAt w8 w.heap.size q [⟨true, ⟨7, 0, false, 0, 0⟩, 0⟩, ⟨false, Sg.zero, (-1)⟩, ⟨true, ⟨8, 0, false, 0, 0⟩, 0⟩] pad cp 1 2 := h7
  have hb8 := e7.below hb7 hb7.size (Nat.le_refl _) (Nat.le_of_lt hq)
  go_wp2_with (fail)
  refine (give_not_at h7 1 ⟨false, Sg.zero, (-1)⟩ rfl rfl).mono ?_
  rintro e w9 ⟨rfl, hw⟩
  obtain rfl : w8 = w9 := hw.symm
  go_wp2_with (fail)
  refine (of_at h7 0 ⟨true, ⟨7, 0, false, 0, 0⟩, 0⟩ rfl).mono ?_
  rintro e w9 ⟨he, h8, e8⟩
  dsimp only [Sg.val] at he
  subst he
  have hb9 := e8.below hb8 hb8.size (Nat.le_refl _) (Nat.le_of_lt hq)
  go_wp2_with (fail)
  refine (len_at h8.alloc).mono ?_
  rintro e wa ⟨rfl, hw⟩
  subst hw
  go_wp2_with (fail)
  refine (free_at h8.alloc).mono ?_
  rintro e wb ⟨rfl, k, hw⟩
  subst hw
  have z5 : wrap64 (((3 : Nat) : Int) - 2) = 1 := by rw [w64 (by decide) (by decide)]; rfl
  simp only [List.length_cons, List.length_nil, Nat.zero_add, Nat.reduceAdd, z5]
  go_wp2_with (fail)
  go_ret
  have hb := hb9.alloc hb9.size (.cells #[.int .i64 7, .int .i64 0, .bool false, .int .i64 0, .int .u64 0] 32)
  exact ⟨rfl, ⟨hb.os, hb.tape, hb.output, hb.size, hb.block⟩⟩
end Go.Proofs.Ytmhnfcodppfaiaa.PoolCode
