
/- The document's guard: Give. -/
import Derived.Test.YtabcodjalacdjabRefGuard
namespace Go.Proofs.Ytabcodjalacdjab.RefGuard
open Go Go.RowKit Go.Proofs.Ytabcodjalacdjab.Obj Go.Proofs.Ytabcodjalacdjab.Row Go.Proofs.Ytabcodjalacdjab.RefCells Go.Proofs.YtabcodjalacdjabW.PrintWords Go.Proofs.YtabcodjalacdjabW.PrintMore
open Go.Proofs.Ytabcodjalacdjab.CellCode (addL)
open Go.Proofs.Ytabcodjalacdjab.TicketCode (Sm)
open Go.Proofs.Ytabcodjalacdjab.GuardCode (Gs RowM stepA giveA lock_cell not_int Rise)
set_option linter.unusedVariables false
set_option maxRecDepth 100000
section
variable {w w' : World} {r y m lo : Nat} {s : Gs} {L : List Nat} {N : Nat}
theorem rgive_none (h : RB w r y m lo s L N) (hn : s.n = 0) : Calls Try.prog 18 #[.pointer (some ⟨r, 0, none⟩)] w fun e w' => e = .returned (.tuple #[.int .i64 0, .int .i64 3]) ∧ w' = w := by
  obtain ⟨A, cap, hO, hcap, hR⟩ := h.g.obj
  rw [hn] at hO
  have g2 : w.cell? ⟨r, 2, none⟩ = some (.int .i64 0) := hO.cell 2
  clear h hO hR
  go_enter Try.func18, Try.ntmps18
  go_wp2_with (fail)
  go_ret2
  exact ⟨rfl, rfl⟩
theorem rgive_have (h : RB w r y m lo s L N) (hn : s.n ≠ 0) (hd : s.drawn = true) : Calls Try.prog 18 #[.pointer (some ⟨r, 0, none⟩)] w fun e w' => e = .returned (.tuple #[.int .i64 0, .int .i64 9]) ∧ w' = w := by
  obtain ⟨A, cap, hO, hcap, hR⟩ := h.g.obj
  rw [hd] at hO
  have g2 : w.cell? ⟨r, 2, none⟩ = some (.int .i64 (s.n : Int)) := hO.cell 2
  have g4 : w.cell? ⟨r, 4, none⟩ = some (.bool true) := hO.cell 4
  have hq : ((s.n : Int) == 0) = false := by rw [beq_eq_false_iff_ne]; omega
  clear h hO hR hd
  go_enter Try.func18, Try.ntmps18
  go_wp2_with (fail)
  go_ret2
  exact ⟨rfl, rfl⟩
set_option maxHeartbeats 4000000 in
theorem rgive_yes (h : RB w r y m lo s L N) (hs : Sm L N) (hn : s.n ≠ 0) (hd : s.drawn = false) (hk : ∀ z ∈ s.row, 0 ≤ z ∧ z < 6) :
    Calls Try.prog 18 #[.pointer (some ⟨r, 0, none⟩)] w fun e w' => e = .returned (.tuple #[.int .i64 ((s.n - 1 : Nat) : Int), .int .i64 0]) ∧ RB w' r y m lo { s with row := s.row.take (s.n - 1), n := s.n - 1 } (addL L (5 + 2 * s.last)) (N + 1) ∧ Only (RS r m) w w' := by
  obtain ⟨nry, nrm⟩ := h.ne
  obtain ⟨A, cap, hO, hcap, hR⟩ := h.g.obj
  have hle := h.g.le
  have hfew := h.g.few
  obtain ⟨q, hq0⟩ : ∃ q, s.n = q + 1 := ⟨s.n - 1, by omega⟩
  have hqr : q < s.row.length := by omega
  obtain ⟨rb, ro, rfl, hrl, hrc⟩ := lock_cell hR hqr
  have hlk := hk (s.row.getD q 0) (by rw [List.getD_eq_getElem?_getD, List.getElem?_eq_getElem hqr]; exact List.getElem_mem hqr)
  obtain ⟨k, hkk⟩ : ∃ k : Nat, k = s.last := ⟨_, rfl⟩
  have hq1 : s.n - 1 = q := by omega
  have hk6 : k < 6 := by rw [hkk]; unfold Gs.last; rw [hq1]; omega
  have hke : s.row.getD q 0 = (k : Int) := by rw [hkk]; unfold Gs.last; rw [hq1]; omega
  rw [hke] at hrc
  rw [← hkk, hq1]
  have hd4 : s.drawn = false := hd
  rw [hd, hq0] at hO
  have p0 : ((((q + 1 : Nat) : Int)) == 0) = false := by rw [beq_eq_false_iff_ne]; omega
  have p1 : IntKind.i64.wrap (((q + 1 : Nat) : Int) - 1) = (q : Int) := by rw [IntWalk.i64_in _ (by omega)]; omega
  have p6 : IntKind.i64.wrap (q : Int) = (q : Int) := IntWalk.i64_in _ (by omega)
  have p2 : (q : Int) < (s.row.length : Int) := by omega
  have p3 : (0 : Int) ≤ (q : Int) := by omega
  have p4 : (q : Int) ≤ (cap : Int) := by omega
  have p5 : (q : Int) ≤ (s.row.length : Int) := by omega
  have g2 : w.cell? ⟨r, 2, none⟩ = some (.int .i64 ((q + 1 : Nat) : Int)) := hO.cell 2
  have g4 : w.cell? ⟨r, 4, none⟩ = some (.bool false) := hO.cell 4
  have f2 := hO.frozen 2
  have G0 := h.g
  have og1 : Only (fun k => k = r) w (w.setCell ⟨r, 2, none⟩ (.int .i64 (q : Int))) := Only.setCell _ _ _ rfl
  have O2 := hO.set 2 (.int .i64 (q : Int))
  have T2 := h.t.guard G0 nry nrm og1
  have R2 := hR.only og1 (fun j hj vs => by subst hj; exact not_int hO (by decide) vs)
  obtain ⟨w2, hw2⟩ : ∃ w2, w2 = w.setCell ⟨r, 2, none⟩ (.int .i64 (q : Int)) := ⟨_, rfl⟩
  have hrc2 : w2.cell? ⟨rb, ro + q, none⟩ = some (.int .i64 (k : Int)) := by
    rw [← hw2] at R2
    obtain ⟨b', o', e', _, hc'⟩ := lock_cell R2 hqr
    cases e'
    rw [hke] at hc'
    exact hc'
  rw [← hw2] at O2 T2 R2 og1
  have hV := fun n => rgive_at (T2.drewN n) hs k hk6
  have c1 : w2.cell? ⟨r, 0, none⟩ = some (.pointer (some ⟨y, 0, none⟩)) := O2.cell 0
  have c2 : w2.cell? ⟨r, 1, none⟩ = some (.slice (some ⟨rb, ro, none⟩) s.row.length cap) := O2.cell 1
  have c3 : w2.cell? ⟨r, 2, none⟩ = some (.int .i64 (q : Int)) := O2.cell 2
  have hfin := hid (show ∀ n w3, Only (· = m) (w2.drewN n) w3 → RL w3 y m lo (addL L (5 + 2 * k)) (N + 1) → w3.cell? ⟨r, 0, none⟩ = some (.pointer (some ⟨y, 0, none⟩)) ∧ w3.cell? ⟨r, 1, none⟩ = some (.slice (some ⟨rb, ro, none⟩) s.row.length cap) ∧ w3.cell? ⟨r, 2, none⟩ = some (.int .i64 (q : Int)) ∧ w3.frozen? ⟨r, 1, none⟩ = false ∧ w3.cell? ⟨rb, ro + q, none⟩ = some (.int .i64 (k : Int)) ∧ (w3.setCell ⟨r, 1, none⟩ (.slice (some ⟨rb, ro, none⟩) q cap)).cell? ⟨r, 2, none⟩ = some (.int .i64 (q : Int)) ∧
      RB (w3.setCell ⟨r, 1, none⟩ (.slice (some ⟨rb, ro, none⟩) q cap)) r y m lo { s with row := s.row.take q, n := q } (addL L (5 + 2 * k)) (N + 1) ∧ Only (RS r m) w (w3.setCell ⟨r, 1, none⟩ (.slice (some ⟨rb, ro, none⟩) q cap)) from fun n w3 o T3 => by
    have o' := (Only.drewN (fun k => k = m) w2 n).trans o
    have Bg := O2.only o' nrm
    have R3 := R2.only o' (fun j hj vs => by subst hj; exact m_int T2 vs)
    have og : Only (fun k => k = r) w3 (w3.setCell ⟨r, 1, none⟩ (.slice (some ⟨rb, ro, none⟩) q cap)) := Only.setCell _ _ _ rfl
    have B2 := Bg.set 1 (.slice (some ⟨rb, ro, none⟩) q cap)
    have R4 := (R3.only og (fun j hj vs => by subst hj; exact not_int Bg (by decide) vs)).takeN q
    have hl : (s.row.take q).length = q := by rw [List.length_take]; omega
    have G3 : RG w3 r y ⟨s.row, q, s.mine, false⟩ := ⟨⟨_, cap, Bg, hcap, R3⟩, by show q ≤ s.row.length; omega, hfew⟩
    refine ⟨Bg.cell 0, Bg.cell 1, Bg.cell 2, Bg.frozen 1, ?_, B2.cell 2, ⟨⟨⟨_, cap, ?_, by rw [hl]; omega, R4⟩, by rw [hl]; exact Nat.le_refl _, by rw [hl]; omega⟩, T3.guard G3 nry nrm og⟩, ?_⟩
    · obtain ⟨b', o', e', _, hc'⟩ := lock_cell R3 hqr
      cases e'
      rw [hke] at hc'
      exact hc'
    · show Blk _ r _ [_, .slice _ (s.row.take q).length cap, _, _, .bool s.drawn]
      rw [hl, hd4]; exact B2
    · exact ((og1.mono (fun j _ hj => .inl hj)).trans (o'.mono (fun j _ hj => .inr hj))).trans (og.mono (fun j _ hj => .inl hj)))
  have hw2H := hid hw2
  clear h hO hR hs hk hlk hke hkk O2 T2 R2 og1 hq0 hq1 hle hfew hd hd4 hn G0 hw2
  go_enter Try.func18, Try.ntmps18
  go_wp2_with (fail)
  rw [← hw2H.out]
  clear hw2H g2 f2 g4
  go_region_held3 (fun W' : World => W'.cell? ⟨r, 0, none⟩ = some (.pointer (some ⟨y, 0, none⟩)) ∧ W'.cell? ⟨r, 1, none⟩ = some (.slice (some ⟨rb, ro, none⟩) s.row.length cap) ∧ W'.cell? ⟨r, 2, none⟩ = some (.int .i64 (q : Int)) ∧ W'.cell? ⟨rb, ro + q, none⟩ = some (.int .i64 (k : Int))) (first | (refine ⟨?_, ?_, ?_, ?_⟩ <;> assumption) | go_keep) (first
    | (go_at_call 40; refine (hV _).mono ?_; rintro e w3 ⟨rfl, T3, o3⟩; obtain ⟨e1, e2, e3, e4, e5, e6, e7, e8⟩ := hfin.out _ w3 o3 T3))
  go_wp2_with (fail)
  go_still_tail 12, (by kernel_rfl)
  go_wp2_with (fail)
  go_ret2
  exact ⟨rfl, e7.drewN 1, e8.trans (Only.drew _ _)⟩
theorem rgive_is (h : RB w r y m lo s L N) (hs : Sm L N) (hr : Rise s.row) : Calls Try.prog 18 #[.pointer (some ⟨r, 0, none⟩)] w fun e w' => e = .returned (.tuple #[.int .i64 ((giveA s L).left : Int), .int .i64 (giveA s L).e]) ∧ RB w' r y m lo (giveA s L).s (giveA s L).L (N + (giveA s L).k) ∧ Only (RS r m) w w' := by
  by_cases h1 : s.n = 0
  · rw [show giveA s L = ⟨s, L, 0, 0, 3⟩ by unfold giveA; rw [if_pos h1]]
    exact (rgive_none h h1).mono fun e w' ⟨a, b⟩ => by subst b; exact ⟨a, h, Only.refl _ _⟩
  · by_cases h2 : s.drawn = true
    · rw [show giveA s L = ⟨s, L, 0, 0, 9⟩ by unfold giveA; rw [if_neg h1, if_pos h2]]
      exact (rgive_have h h1 h2).mono fun e w' ⟨a, b⟩ => by subst b; exact ⟨a, h, Only.refl _ _⟩
    · rw [show giveA s L = ⟨{ s with row := s.row.take (s.n - 1), n := s.n - 1 }, addL L (5 + 2 * s.last), 1, s.n - 1, 0⟩ by unfold giveA; rw [if_neg h1, if_neg h2]]
      exact rgive_yes h hs h1 (by cases hd : s.drawn with | true => exact absurd hd h2 | false => rfl) hr.all
end
end Go.Proofs.Ytabcodjalacdjab.RefGuard
