
/- guard: Copy, Next; what no guard answers. -/
import Derived.Test.YtabcodjalacdjabGuardMany
namespace Go.Proofs.Ytabcodjalacdjab.GuardCode
open Go Go.RowKit Go.Proofs.Ytabcodjalacdjab.Obj Go.Proofs.Ytabcodjalacdjab.Row Go.Proofs.Ytabcodjalacdjab.CellCode Go.Proofs.Ytabcodjalacdjab.TicketCode Go.Proofs.YtabcodjalacdjabW.PrintWords Go.Proofs.YtabcodjalacdjabW.PrintMore
set_option linter.unusedVariables false
set_option maxRecDepth 100000
/-- What Next tells. -/
def nextK (s : Gs) : Int := if s.n = s.row.length then 0 else s.row.getD s.n 0
def nextT (s : Gs) : Nat := if s.n = s.row.length then 0 else s.mine
def nextD (s : Gs) : Bool := if s.n = s.row.length then false else s.drawn
section
variable {w w' : World} {g x c lb : Nat} {s : Gs} {L : List Nat} {N : Nat} {A : Option Addr} {r : List Int}
theorem next_at (h : GAt w g x s) : Calls Try.prog 35 #[.pointer (some ⟨g, 0, none⟩)] w fun e w' => e = .returned (.tuple #[.int .i64 (nextK s), .int .u16 (nextT s : Int), .bool (nextD s)]) ∧ ∃ n, w' = w.drewN n := by
  have hA := all_at h
  unfold nextK nextT nextD
  by_cases h1 : s.n = s.row.length
  · rw [if_pos h1, if_pos h1, if_pos h1]
    rw [decide_eq_true h1] at hA
    clear h h1
    go_enter Try.func35, Try.ntmps35
    go_wp2_with (fail)
    refine hA.mono ?_
    rintro e w1 ⟨rfl, n, rfl⟩
    go_wp2_with (fail)
    refine bodyPost_ret (by simp [results, Try.f35, go_sem]; rfl) rfl ?_
    exact ⟨rfl, _, rfl⟩
  · rw [if_neg h1, if_neg h1, if_neg h1]
    rw [decide_eq_false h1] at hA
    have hn : s.n < s.row.length := by have := h.le; omega
    obtain ⟨A, cap, hO, hcap, hR⟩ := h.obj
    obtain ⟨rb, ro, rfl, hrl, hrc⟩ := lock_cell hR hn
    have g1 : w.cell? ⟨g, 1, none⟩ = some (.slice (some ⟨rb, ro, none⟩) s.row.length cap) := hO.cell 1
    have g2 : w.cell? ⟨g, 2, none⟩ = some (.int .i64 (s.n : Int)) := hO.cell 2
    have g3 : w.cell? ⟨g, 3, none⟩ = some (.int .u16 (s.mine : Int)) := hO.cell 3
    have g4 : w.cell? ⟨g, 4, none⟩ = some (.bool s.drawn) := hO.cell 4
    have hn1 : (s.n : Int) < (s.row.length : Int) := by omega
    clear h h1 hn hO hR
    go_enter Try.func35, Try.ntmps35
    go_wp2_with (fail)
    refine hA.mono ?_
    rintro e w1 ⟨rfl, n, rfl⟩
    go_wp2_with (go_quiet (fail))
    refine bodyPost_ret (by simp [results, Try.f35, go_sem]; rfl) rfl ?_
    exact ⟨rfl, n + nq, World.drewN_drewN ..⟩
theorem clone_row {cap : Nat} (h : RowM w A r) (hf : r.length ≤ 1000) : Calls Try.prog 28 #[.slice A r.length cap] w fun e w' => ∃ A' cap', e = .returned (.slice A' r.length cap') ∧ r.length ≤ cap' ∧ RowM w' A' r ∧ Below w.heap.size w w' := by
  cases A with
  | none =>
    have h0 : r.length = 0 := by
      rcases Nat.eq_zero_or_pos r.length with h0 | h0
      · exact h0
      · obtain ⟨_, _, e, _⟩ := lock_cell h h0; cases e
    obtain rfl : r = [] := List.length_eq_zero_iff.mp h0
    refine (GuardClone.clone_nil w cap).mono ?_
    rintro e w' ⟨rfl, rfl⟩
    exact ⟨none, 0, rfl, Nat.le_refl _, h, Below.refl _ _⟩
  | some a => exact clone_some h hf
set_option maxHeartbeats 1000000 in
theorem copy_at (h : GAt w g x s) (hf : s.row.length ≤ 1000) : Calls Try.prog 19 #[.pointer (some ⟨g, 0, none⟩)] w fun e w' => e = .returned (.pointer (some ⟨w.heap.size, 0, none⟩)) ∧ GAt w' w.heap.size x s ∧ Below w.heap.size w w' := by
  obtain ⟨A, cap, hO, hcap, hR⟩ := h.obj
  have hle := h.le
  have hfew := h.few
  have hlt := hO.lt
  have g0 : w.cell? ⟨g, 0, none⟩ = some (.pointer (some ⟨x, 0, none⟩)) := hO.cell 0
  have g1 : w.cell? ⟨g, 1, none⟩ = some (.slice A s.row.length cap) := hO.cell 1
  have g2 : w.cell? ⟨g, 2, none⟩ = some (.int .i64 (s.n : Int)) := hO.cell 2
  have g3 : w.cell? ⟨g, 3, none⟩ = some (.int .u16 (s.mine : Int)) := hO.cell 3
  have g4 : w.cell? ⟨g, 4, none⟩ = some (.bool s.drawn) := hO.cell 4
  go_enter Try.func19, Try.ntmps19
  go_wp2_with (fail)
  have hb0 : Below w.heap.size w (w.alloc (.cells #[.pointer (some ⟨x, 0, none⟩), .slice A s.row.length cap, .int .i64 (s.n : Int), .int .u16 (s.mine : Int), .bool s.drawn] 76)) := (Below.refl _ _).alloc (Nat.le_refl _) _
  refine (clone_row (hR.below hb0) hf).mono ?_
  rintro e w1 ⟨A1, c1, rfl, hle1, hR1, hb1⟩
  have hB := (Blk.new w 76 [.pointer (some ⟨x, 0, none⟩), .slice A s.row.length cap, .int .i64 (s.n : Int), .int .u16 (s.mine : Int), .bool s.drawn]).same (hb1.block _ (by simp))
  have d1 : w1.cell? ⟨w.heap.size, 1, none⟩ = some (.slice A s.row.length cap) := hB.cell 1
  have f1 := hB.frozen 1
  have hB2 := hB.set 1 (.slice A1 s.row.length c1)
  have og : Only (fun k => k = w.heap.size) w1 (w1.setCell ⟨w.heap.size, 1, none⟩ (.slice A1 s.row.length c1)) := Only.setCell _ _ _ rfl
  have hR2 := hR1.only og (fun j hj vs => by subst hj; exact not_int hB (by decide) vs)
  have hb2 : Below w.heap.size w (w1.setCell ⟨w.heap.size, 1, none⟩ (.slice A1 s.row.length c1)) := og.below (hb0.trans (hb1.mono (by simp))) (by have := hb1.size; simp at this; omega) (fun k _ hk => by omega)
  have hG : GAt (w1.setCell ⟨w.heap.size, 1, none⟩ (.slice A1 s.row.length c1)) w.heap.size x s := ⟨⟨A1, c1, hB2, hle1, hR2⟩, hle, hfew⟩
  clear hb0 hR hR1 hb1 hB hB2 og hR2 h hO
  go_wp2_with (fail)
  go_ret
  exact ⟨rfl, hG, hb2⟩
theorem step_nil (w : World) : Calls Try.prog 13 #[.pointer none] w fun e w' => e = .returned (.tuple #[.bool false, .int .i64 1]) ∧ Below w.heap.size w w' := by
  have hM : ∀ (v : Value) (w : World), Calls Try.prog 29 #[.pointer none, v] w fun e w' => e = .returned (.int .i64 1) ∧ w' = w := fun v w => by
    go_enter Try.func29, Try.ntmps29
    go_wp2_with (fail)
    go_ret
    exact ⟨rfl, rfl⟩
  have hb0 : Below w.heap.size w (w.alloc (.cells #[.pointer none] 29)) := (Below.refl _ _).alloc (Nat.le_refl _) _
  go_enter Try.func13, Try.ntmps13
  go_wp2_with (fail)
  refine (hM _ _).mono ?_
  rintro e w1 ⟨rfl, hw⟩
  obtain rfl := hw.symm
  go_wp2_with (fail)
  go_ret2
  exact ⟨rfl, hb0⟩
theorem give_nil (w : World) : Calls Try.prog 12 #[.pointer none] w fun e w' => e = .returned (.tuple #[.int .i64 0, .int .i64 1]) ∧ Below w.heap.size w w' := by
  have hM : ∀ (v : Value) (w : World), Calls Try.prog 29 #[.pointer none, v] w fun e w' => e = .returned (.int .i64 1) ∧ w' = w := fun v w => by
    go_enter Try.func29, Try.ntmps29
    go_wp2_with (fail)
    go_ret
    exact ⟨rfl, rfl⟩
  have hb0 : Below w.heap.size w (w.alloc (.cells #[.pointer none] 29)) := (Below.refl _ _).alloc (Nat.le_refl _) _
  go_enter Try.func12, Try.ntmps12
  go_wp2_with (fail)
  refine (hM _ _).mono ?_
  rintro e w1 ⟨rfl, hw⟩
  obtain rfl := hw.symm
  go_wp2_with (fail)
  go_ret2
  exact ⟨rfl, hb0⟩
theorem next_nil (w : World) : Calls Try.prog 35 #[.pointer none] w fun e w' => e = .returned (.tuple #[.int .i64 0, .int .u16 0, .bool false]) ∧ w' = w := by
  go_enter Try.func35, Try.ntmps35
  go_wp2_with (fail)
  refine bodyPost_ret (by simp [results, Try.f35, go_sem]; rfl) rfl ?_
  exact ⟨rfl, rfl⟩
theorem want_nil (v : Value) (w : World) : Calls Try.prog 9 #[.pointer none, v] w fun e w' => e = .returned (.int .i64 1) ∧ w' = w := by
  go_enter Try.func9, Try.ntmps9
  go_wp2_with (fail)
  go_step3
  go_wp2_with (fail)
  rw [Exit.noGoto_ret]
  go_ret
  exact ⟨rfl, rfl⟩
theorem all_nil (w : World) : Calls Try.prog 11 #[.pointer none] w fun e w' => e = .returned (.bool false) ∧ ∃ n, w' = w.drewN n := by
  go_enter Try.func11, Try.ntmps11
  go_wp2_with (go_quiet (fail))
  go_ret
  exact ⟨rfl, _, rfl⟩
theorem held_nil (w : World) : Calls Try.prog 23 #[.pointer none] w fun e w' => e = .returned (.slice none 0 0) ∧ w' = w := by
  go_enter Try.func23, Try.ntmps23
  go_wp2_with (fail)
  go_ret
  exact ⟨rfl, rfl⟩
theorem copy_nil (w : World) : Calls Try.prog 19 #[.pointer none] w fun e w' => e = .returned (.pointer none) ∧ w' = w := by
  go_enter Try.func19, Try.ntmps19
  go_wp2_with (fail)
  go_ret
  exact ⟨rfl, rfl⟩
set_option maxHeartbeats 2000000 in
theorem nothing_at (w : World) : Calls Try.prog 15 #[] w fun e w' => e = .returned (.bool true) ∧ Below w.heap.size w w' := by
  go_enter Try.func15, Try.ntmps15
  go_wp2_with (first
    | (go_at_call 13; (refine (step_nil _).mono ?_); rintro e w1 ⟨rfl, hB1⟩)
    | (go_at_call 12; (refine (give_nil _).mono ?_); rintro e w2 ⟨rfl, hB2⟩)
    | (go_at_call 35; (refine (next_nil _).mono ?_); rintro e w3 ⟨rfl, rfl⟩)
    | (go_at_call 9; (refine (want_nil _ _).mono ?_); rintro e w4 ⟨rfl, hw4⟩; obtain rfl := hw4.symm)
    | (go_at_call 11; (refine (all_nil _).mono ?_); rintro e w5 ⟨rfl, n5, rfl⟩)
    | (go_at_call 23; (refine (held_nil _).mono ?_); rintro e w6 ⟨rfl, hw6⟩; obtain rfl := hw6.symm)
    | (go_at_call 19; (refine (copy_nil _).mono ?_); rintro e w7 ⟨rfl, hw7⟩; obtain rfl := hw7.symm))
  go_ret
  have hB3 := (hB1.trans (hB2.mono hB1.size)).alloc (Nat.le_trans hB1.size hB2.size) (.cells #[.int .i64 0] 3)
  exact ⟨rfl, ⟨hB3.os, hB3.tape, hB3.output, hB3.size, hB3.block⟩⟩
end
end Go.Proofs.Ytabcodjalacdjab.GuardCode
