
/- The chapter's example of the scheduler answers true; Copy; what no scheduler answers. -/
import Derived.Test.YtmhnfcodppfaiafSchedMore
namespace Go.Proofs.Ytmhnfcodppfaiaf.SchedCode
open Go Go.RowKit Go.Proofs.Ytmhnfcodppfaiaf.Obj Go.Proofs.Ytmhnfcodppfaiaf.FifoCode
set_option maxRecDepth 100000
set_option linter.unusedVariables false
set_option maxHeartbeats 4000000 in
theorem alive_at (w : World) : Calls Try.prog 6 #[] w fun e w' => e = .returned (.bool true) ∧ Below w.heap.size w w' := by
  have C : ∀ W, SchedAt W (w.heap.size + 1) w.heap.size ⟨2, 0, 0, 0, []⟩ → Calls Try.prog 8 #[.pointer (some ⟨w.heap.size + 1, 0, none⟩)] W (fun e w1 => e = .returned (.tuple #[.int .i64 0, .int .i64 0]) ∧ SchedAt w1 (w.heap.size + 1) w.heap.size ⟨2, 1, 1, 0, [0]⟩ ∧ Only (fun k => k = w.heap.size + 1 ∨ k = w.heap.size) W w1) := fun W H => make_at H
  have C0 := hid C
  clear C
  have C : ∀ W, SchedAt W (w.heap.size + 1) w.heap.size ⟨2, 1, 1, 0, [0]⟩ → Calls Try.prog 8 #[.pointer (some ⟨w.heap.size + 1, 0, none⟩)] W (fun e w1 => e = .returned (.tuple #[.int .i64 1, .int .i64 0]) ∧ SchedAt w1 (w.heap.size + 1) w.heap.size ⟨2, 2, 2, 0, [0, 1]⟩ ∧ Only (fun k => k = w.heap.size + 1 ∨ k = w.heap.size) W w1) := fun W H => make_at H
  have C1 := hid C
  clear C
  have C : ∀ W, SchedAt W (w.heap.size + 1) w.heap.size ⟨2, 2, 2, 0, [0, 1]⟩ → Calls Try.prog 8 #[.pointer (some ⟨w.heap.size + 1, 0, none⟩)] W (fun e w1 => e = .returned (.tuple #[.int .i64 0, .int .i64 4]) ∧ SchedAt w1 (w.heap.size + 1) w.heap.size ⟨2, 2, 2, 0, [0, 1]⟩ ∧ Only (fun k => k = w.heap.size + 1 ∨ k = w.heap.size) W w1) := fun W H => make_at H
  have C2 := hid C
  clear C
  have C : ∀ W, SchedAt W (w.heap.size + 1) w.heap.size ⟨2, 2, 2, 0, [0, 1]⟩ → Calls Try.prog 9 #[.pointer (some ⟨w.heap.size + 1, 0, none⟩)] W (fun e w1 => e = .returned (.tuple #[.int .i64 0, .int .u8 1]) ∧ SchedAt w1 (w.heap.size + 1) w.heap.size ⟨2, 2, 2, 1, [1]⟩ ∧ Only (fun k => k = w.heap.size + 1 ∨ k = w.heap.size) W w1) := fun W H => next_at H (by decide)
  have C3 := hid C
  clear C
  have C : ∀ W, SchedAt W (w.heap.size + 1) w.heap.size ⟨2, 2, 2, 1, [1]⟩ → Calls Try.prog 9 #[.pointer (some ⟨w.heap.size + 1, 0, none⟩)] W (fun e w1 => e = .returned (.tuple #[.int .i64 1, .int .u8 1]) ∧ SchedAt w1 (w.heap.size + 1) w.heap.size ⟨2, 2, 2, 2, []⟩ ∧ Only (fun k => k = w.heap.size + 1 ∨ k = w.heap.size) W w1) := fun W H => next_at H (by decide)
  have C4 := hid C
  clear C
  have C : ∀ W, SchedAt W (w.heap.size + 1) w.heap.size ⟨2, 2, 2, 2, []⟩ → Calls Try.prog 9 #[.pointer (some ⟨w.heap.size + 1, 0, none⟩)] W (fun e w1 => e = .returned (.tuple #[.int .i64 0, .int .u8 2]) ∧ SchedAt w1 (w.heap.size + 1) w.heap.size ⟨2, 2, 2, 2, []⟩ ∧ Only (fun k => k = w.heap.size + 1 ∨ k = w.heap.size) W w1) := fun W H => next_at H (by decide)
  have C5 := hid C
  clear C
  have C : ∀ W, SchedAt W (w.heap.size + 1) w.heap.size ⟨2, 2, 2, 2, []⟩ → Calls Try.prog 11 #[.pointer (some ⟨w.heap.size + 1, 0, none⟩), .int .i64 1] W (fun e w1 => e = .returned (.int .i64 0) ∧ SchedAt w1 (w.heap.size + 1) w.heap.size ⟨2, 2, 2, 1, [1]⟩ ∧ Only (fun k => k = w.heap.size + 1 ∨ k = w.heap.size) W w1) := fun W H => back_at H 1
  have C6 := hid C
  clear C
  have C : ∀ W, SchedAt W (w.heap.size + 1) w.heap.size ⟨2, 2, 2, 1, [1]⟩ → Calls Try.prog 9 #[.pointer (some ⟨w.heap.size + 1, 0, none⟩)] W (fun e w1 => e = .returned (.tuple #[.int .i64 1, .int .u8 1]) ∧ SchedAt w1 (w.heap.size + 1) w.heap.size ⟨2, 2, 2, 2, []⟩ ∧ Only (fun k => k = w.heap.size + 1 ∨ k = w.heap.size) W w1) := fun W H => next_at H (by decide)
  have C7 := hid C
  clear C
  have C : ∀ W, SchedAt W (w.heap.size + 1) w.heap.size ⟨2, 2, 2, 2, []⟩ → Calls Try.prog 12 #[.pointer (some ⟨w.heap.size + 1, 0, none⟩)] W (fun e w1 => e = .returned (.int .i64 0) ∧ SchedAt w1 (w.heap.size + 1) w.heap.size ⟨2, 2, 2, 1, []⟩ ∧ Only (fun k => k = w.heap.size + 1 ∨ k = w.heap.size) W w1) := fun W H => leave_at H
  have C8 := hid C
  clear C
  have C : ∀ W, SchedAt W (w.heap.size + 1) w.heap.size ⟨2, 2, 2, 1, []⟩ → Calls Try.prog 12 #[.pointer (some ⟨w.heap.size + 1, 0, none⟩)] W (fun e w1 => e = .returned (.int .i64 0) ∧ SchedAt w1 (w.heap.size + 1) w.heap.size ⟨2, 2, 2, 0, []⟩ ∧ Only (fun k => k = w.heap.size + 1 ∨ k = w.heap.size) W w1) := fun W H => leave_at H
  have C9 := hid C
  clear C
  have C : ∀ W, SchedAt W (w.heap.size + 1) w.heap.size ⟨2, 2, 2, 0, []⟩ → Calls Try.prog 9 #[.pointer (some ⟨w.heap.size + 1, 0, none⟩)] W (fun e w1 => e = .returned (.tuple #[.int .i64 0, .int .u8 4]) ∧ SchedAt w1 (w.heap.size + 1) w.heap.size ⟨2, 2, 2, 0, []⟩ ∧ Only (fun k => k = w.heap.size + 1 ∨ k = w.heap.size) W w1) := fun W H => next_at H (by decide)
  have C10 := hid C
  clear C
  have C : ∀ W, SchedAt W (w.heap.size + 1) w.heap.size ⟨2, 2, 2, 0, []⟩ → Calls Try.prog 14 #[.pointer (some ⟨w.heap.size + 1, 0, none⟩), .int .i64 0] W (fun e w1 => e = .returned (.int .i64 0) ∧ SchedAt w1 (w.heap.size + 1) w.heap.size ⟨2, 2, 2, 0, [0]⟩ ∧ Only (· = w.heap.size) W w1) := fun W H => spush_at H 0
  have C11 := hid C
  clear C
  have C : ∀ W, SchedAt W (w.heap.size + 1) w.heap.size ⟨2, 2, 2, 0, [0]⟩ → Calls Try.prog 9 #[.pointer (some ⟨w.heap.size + 1, 0, none⟩)] W (fun e w1 => e = .returned (.tuple #[.int .i64 0, .int .u8 1]) ∧ SchedAt w1 (w.heap.size + 1) w.heap.size ⟨2, 2, 2, 1, []⟩ ∧ Only (fun k => k = w.heap.size + 1 ∨ k = w.heap.size) W w1) := fun W H => next_at H (by decide)
  have C12 := hid C
  clear C
  have C : ∀ W, SchedAt W (w.heap.size + 1) w.heap.size ⟨2, 2, 2, 1, []⟩ → Calls Try.prog 13 #[.pointer (some ⟨w.heap.size + 1, 0, none⟩)] W (fun e w1 => e = .returned (.int .i64 0) ∧ SchedAt w1 (w.heap.size + 1) w.heap.size ⟨2, 2, 1, 0, []⟩ ∧ Only (fun k => k = w.heap.size + 1 ∨ k = w.heap.size) W w1) := fun W H => end_at H
  have C13 := hid C
  clear C
  go_enter Try.func6, Try.ntmps6
  go_wp2_with (fail)
  refine (new_sched 2 w (by decide) (by decide)).mono ?_
  rintro e w1 ⟨rfl, h0, hb0⟩
  go_wp2_with (fail)
  refine (new_sched_out 0 _ (by decide)).mono ?_
  rintro e w2 ⟨rfl, rfl⟩
  go_wp2_with (fail)
  refine (C0.out _ h0).mono ?_
  rintro e w1 ⟨rfl, h1, o1⟩
  have hb1 := up hb0 (Nat.le_refl _) o1 (fun k h => by omega)
  go_wp2_with (fail)
  refine (C1.out _ h1).mono ?_
  rintro e w1 ⟨rfl, h2, o2⟩
  have hb2 := up hb1 (Nat.le_refl _) o2 (fun k h => by omega)
  go_wp2_with (fail)
  refine (C2.out _ h2).mono ?_
  rintro e w1 ⟨rfl, h3, o3⟩
  have hb3 := up hb2 (Nat.le_refl _) o3 (fun k h => by omega)
  go_wp2_with (fail)
  refine (C3.out _ h3).mono ?_
  rintro e w1 ⟨rfl, h4, o4⟩
  have hb4 := up hb3 (Nat.le_refl _) o4 (fun k h => by omega)
  go_wp2_with (fail)
  refine (C4.out _ h4).mono ?_
  rintro e w1 ⟨rfl, h5, o5⟩
  have hb5 := up hb4 (Nat.le_refl _) o5 (fun k h => by omega)
  go_wp2_with (fail)
  refine (C5.out _ h5).mono ?_
  rintro e w1 ⟨rfl, h6, o6⟩
  have hb6 := up hb5 (Nat.le_refl _) o6 (fun k h => by omega)
  go_wp2_with (fail)
  refine (C6.out _ h6).mono ?_
  rintro e w1 ⟨rfl, h7, o7⟩
  have hb7 := up hb6 (Nat.le_refl _) o7 (fun k h => by omega)
  go_wp2_with (fail)
  refine (C7.out _ h7).mono ?_
  rintro e w1 ⟨rfl, h8, o8⟩
  have hb8 := up hb7 (Nat.le_refl _) o8 (fun k h => by omega)
  go_wp2_with (fail)
  refine (C8.out _ h8).mono ?_
  rintro e w1 ⟨rfl, h9, o9⟩
  have hb9 := up hb8 (Nat.le_refl _) o9 (fun k h => by omega)
  go_wp2_with (fail)
  refine (C9.out _ h9).mono ?_
  rintro e w1 ⟨rfl, h10, o10⟩
  have hb10 := up hb9 (Nat.le_refl _) o10 (fun k h => by omega)
  go_wp2_with (fail)
  refine (C10.out _ h10).mono ?_
  rintro e w1 ⟨rfl, h11, o11⟩
  have hb11 := up hb10 (Nat.le_refl _) o11 (fun k h => by omega)
  go_wp2_with (fail)
  refine (C11.out _ h11).mono ?_
  rintro e w1 ⟨rfl, h12, o12⟩
  have hb12 := up hb11 (Nat.le_refl _) o12 (fun k h => Nat.le_of_eq h.symm)
  go_wp2_with (fail)
  refine (C12.out _ h12).mono ?_
  rintro e w1 ⟨rfl, h13, o13⟩
  have hb13 := up hb12 (Nat.le_refl _) o13 (fun k h => by omega)
  go_wp2_with (fail)
  refine (C13.out _ h13).mono ?_
  rintro e w1 ⟨rfl, h14, o14⟩
  have hb14 := up hb13 (Nat.le_refl _) o14 (fun k h => by omega)
  have L1 := live_at h14
  have L2 := busy_at h14
  have L3 := made_at h14
  have L4 := hid L1
  have L5 := hid L2
  have L6 := hid L3
  clear L1 L2 L3
  go_wp2_with (fail)
  refine L4.out.mono ?_
  rintro e w2 ⟨rfl, rfl⟩
  go_wp2_with (fail)
  refine L5.out.mono ?_
  rintro e w2 ⟨rfl, rfl⟩
  go_wp2_with (fail)
  refine L6.out.mono ?_
  rintro e w2 ⟨rfl, rfl⟩
  go_wp2_with (fail)
  go_ret
  exact ⟨rfl, hb14⟩
end Go.Proofs.Ytmhnfcodppfaiaf.SchedCode
