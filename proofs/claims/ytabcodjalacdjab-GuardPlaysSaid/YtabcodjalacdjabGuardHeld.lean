
/- guard: Held, Next. -/
import Derived.Test.YtabcodjalacdjabGuardWant
namespace Go.Proofs.Ytabcodjalacdjab.GuardCode
open Go Go.RowKit Go.Proofs.Ytabcodjalacdjab.Obj Go.Proofs.Ytabcodjalacdjab.Row Go.Proofs.Ytabcodjalacdjab.CellCode Go.Proofs.Ytabcodjalacdjab.TicketCode Go.Proofs.YtabcodjalacdjabW.PrintWords Go.Proofs.YtabcodjalacdjabW.PrintMore
set_option linter.unusedVariables false
set_option maxRecDepth 100000
section
variable {w w' : World} {g x c lb : Nat} {s : Gs} {L : List Nat} {N : Nat} {A : Option Addr} {r : List Int}
theorem bl_drewN {w w' : World} {n : Nat} (h : Below w.heap.size w w') : Below w.heap.size w (w'.drewN n) := ⟨h.os, h.tape, h.output, h.size, h.block⟩
set_option maxHeartbeats 2000000 in
theorem held_at (h : GAt w g x s) (hf : s.row.length ≤ 1000) : Calls Try.prog 23 #[.pointer (some ⟨g, 0, none⟩)] w fun e w' => ∃ A' cap', e = .returned (.slice A' s.n cap') ∧ s.n ≤ cap' ∧ RowM w' A' (s.row.take s.n) ∧ Below w.heap.size w w' := by
  obtain ⟨A, cap, hO, hcap, hR⟩ := h.obj
  have hle := h.le
  have g1 : w.cell? ⟨g, 1, none⟩ = some (.slice A s.row.length cap) := hO.cell 1
  have g2 : w.cell? ⟨g, 2, none⟩ = some (.int .i64 (s.n : Int)) := hO.cell 2
  have hl : (s.row.take s.n).length = s.n := by rw [List.length_take]; omega
  have hC : ∀ m, Calls Try.prog 28 #[.slice A s.n cap] (w.drewN m) fun e w' => ∃ A' cap', e = .returned (.slice A' s.n cap') ∧ s.n ≤ cap' ∧ RowM w' A' (s.row.take s.n) ∧ Below w.heap.size w w' := by
    intro m
    cases A with
    | none =>
      have h0 : s.row.length = 0 := by
        rcases Nat.eq_zero_or_pos s.row.length with h0 | h0
        · exact h0
        · obtain ⟨_, _, e, _⟩ := lock_cell hR h0; cases e
      have h1 : s.n = 0 := by omega
      have h2 : s.row = [] := List.length_eq_zero_iff.mp h0
      rw [h1, h2]
      refine (GuardClone.clone_nil _ cap).mono ?_
      rintro e w' ⟨rfl, rfl⟩
      exact ⟨none, 0, rfl, Nat.le_refl _, RowM.nil _, bl_drewN (Below.refl _ w)⟩
    | some a =>
      have hT := hR.takeN s.n
      have hTm : RowM (w.drewN m) (some a) (s.row.take s.n) := ⟨hT.nums.drewN m, hT.typ⟩
      have := clone_some (cap := cap) hTm (by rw [hl]; omega)
      rw [hl] at this
      exact this.mono fun e w' ⟨A', c', h0, h1, h2, h3⟩ => ⟨A', c', h0, h1, h2, (bl_drewN (n := m) (Below.refl _ w)).trans h3⟩
  have q1 : (s.n : Int) ≤ (cap : Int) := by omega
  have q2 : (0 : Int) ≤ (s.n : Int) := by omega
  have hOw := hid (show ∀ w3, Below w.heap.size w w3 → w3.cell? ⟨g, 1, none⟩ = some (.slice A s.row.length cap) ∧ w3.cell? ⟨g, 2, none⟩ = some (.int .i64 (s.n : Int)) from fun w3 hb => ⟨(hO.same (hb.block _ hO.lt)).cell 1, (hO.same (hb.block _ hO.lt)).cell 2⟩)
  clear h hO hR hl
  go_enter Try.func23, Try.ntmps23
  go_wp2_with (fail)
  go_region_held3 (fun W' : World => W'.cell? ⟨g, 1, none⟩ = some (.slice A s.row.length cap) ∧ W'.cell? ⟨g, 2, none⟩ = some (.int .i64 (s.n : Int))) (first | (refine ⟨?_, ?_⟩ <;> assumption) | go_keep) (first
    | (go_at_call 28; refine (hC _).mono ?_; rintro e w3 ⟨A', c', rfl, h5, h6, h7⟩; have e1 := (hOw.out _ h7).1; have e2 := (hOw.out _ h7).2))
  go_wp2_with (fail)
  go_ret
  exact ⟨A', c', rfl, h5, h6, h7⟩
end
end Go.Proofs.Ytabcodjalacdjab.GuardCode
