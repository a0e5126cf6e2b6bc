
/- The document's guard: All, Step, Give. -/
import Derived.Test.YtabcodjalacdjabRefTicket
namespace Go.Proofs.Ytabcodjalacdjab.RefGuard
open Go Go.RowKit Go.Proofs.Ytabcodjalacdjab.Obj Go.Proofs.Ytabcodjalacdjab.Row Go.Proofs.Ytabcodjalacdjab.RefCells Go.Proofs.YtabcodjalacdjabW.PrintWords Go.Proofs.YtabcodjalacdjabW.PrintMore
open Go.Proofs.Ytabcodjalacdjab.CellCode (addL)
open Go.Proofs.Ytabcodjalacdjab.TicketCode (Sm)
open Go.Proofs.Ytabcodjalacdjab.GuardCode (Gs RowM stepA giveA lock_cell not_int Rise)
set_option linter.unusedVariables false
set_option maxRecDepth 100000
structure RG (w : World) (r y : Nat) (s : Gs) : Prop where
  obj : ∃ A cap, Blk w r 58 [.pointer (some ⟨y, 0, none⟩), .slice A s.row.length cap, .int .i64 (s.n : Int), .int .u16 (s.mine : Int), .bool s.drawn] ∧ s.row.length ≤ cap ∧ RowM w A s.row
  le : s.n ≤ s.row.length
  few : s.row.length ≤ 100000
/-- A guard of the document's and its locks. -/
structure RB (w : World) (r y m lo : Nat) (s : Gs) (L : List Nat) (N : Nat) : Prop where
  g : RG w r y s
  t : RL w y m lo L N
/-- What its methods write. -/
def RS (r m : Nat) : Nat → Prop := fun k => k = r ∨ k = m
section
variable {w w' : World} {r y m lo : Nat} {s : Gs} {L : List Nat} {N : Nat}
theorem RG.lt (h : RG w r y s) : r < w.heap.size := by obtain ⟨A, c, h1, _⟩ := h.obj; exact h1.lt
theorem RG.only {S : Nat → Prop} (h : RG w r y s) (o : Only S w w') (hr : ¬ S r) (hS : ∀ k, S k → ∀ vs, w.heap[k]? ≠ some (.cells vs 3 (0, 0))) : RG w' r y s := by
  obtain ⟨A, c, h1, h2, h3⟩ := h.obj
  exact ⟨⟨A, c, h1.only o hr, h2, h3.only o hS⟩, h.le, h.few⟩
theorem RG.below (h : RG w r y s) (hb : Below w.heap.size w w') : RG w' r y s := h.only (Only.none_of_below hb) id (fun _ hk => hk.elim)
theorem RG.drewN (h : RG w r y s) (n : Nat) : RG (w.drewN n) r y s := by
  obtain ⟨A, c, h1, h2, h3⟩ := h.obj
  exact ⟨⟨A, c, h1, h2, ⟨h3.nums.drewN n, h3.typ⟩⟩, h.le, h.few⟩
theorem RB.drewN (h : RB w r y m lo s L N) (n : Nat) : RB (w.drewN n) r y m lo s L N := ⟨h.g.drewN n, h.t.drewN n⟩
theorem RB.below (h : RB w r y m lo s L N) (hb : Below w.heap.size w w') : RB w' r y m lo s L N := ⟨h.g.below hb, h.t.below hb⟩
theorem RB.ne (h : RB w r y m lo s L N) : r ≠ y ∧ r ≠ m := by
  obtain ⟨A, cap, h1, h2, h3⟩ := h.g.obj
  obtain ⟨b, c, h4, _⟩ := h.t.cells.obj
  exact ⟨CellCode.blk_ne h1 h.t.obj (by decide), CellCode.blk_ne h1 h4 (by decide)⟩
theorem m_int (h : RL w y m lo L N) (vs : Array Value) : w.heap[m]? ≠ some (.cells vs 3 (0, 0)) := by
  obtain ⟨b, c, h4, _⟩ := h.cells.obj
  exact not_int h4 (by decide) vs
theorem r_u64 (h : RG w r y s) (vs : Array Value) : w.heap[r]? ≠ some (.cells vs 48 (0, 0)) := by
  obtain ⟨A, c, h1, _⟩ := h.obj
  intro e
  have := h1.symm.trans e
  simp at this
/-- Writes into a guard alone leave its locks. -/
theorem RL.guard (h : RL w y m lo L N) (hg : RG w r y s) (hy : r ≠ y) (hm : r ≠ m) (o : Only (· = r) w w') : RL w' y m lo L N :=
  h.only o (Ne.symm hm) (Ne.symm hy) (fun k hk _ vs => by subst hk; exact r_u64 hg vs)
theorem rall_at (h : RG w r y s) : Calls Try.prog 36 #[.pointer (some ⟨r, 0, none⟩)] w fun e w' => e = .returned (.bool (decide (s.n = s.row.length))) ∧ ∃ n, w' = w.drewN n := by
  obtain ⟨A, cap, h1, h2, h3⟩ := h.obj
  have c1 : w.cell? ⟨r, 1, none⟩ = some (.slice A s.row.length cap) := h1.cell 1
  have c2 : w.cell? ⟨r, 2, none⟩ = some (.int .i64 (s.n : Int)) := h1.cell 2
  have hq : (((s.n : Nat) : Int) == ((s.row.length : Nat) : Int)) = decide (s.n = s.row.length) := by rw [Bool.eq_iff_iff, beq_iff_eq, decide_eq_true_eq]; omega
  have hqH := hid hq
  clear h h1 h2 h3 hq
  generalize s.row.length = q at *
  generalize s.n = k at *
  go_enter Try.func36, Try.ntmps36
  go_wp2_with (go_quiet (fail))
  go_ret
  exact ⟨by rw [← hqH.out]; rfl, _, rfl⟩
theorem rstep_none (h : RB w r y m lo s L N) (hn : s.n = s.row.length) : Calls Try.prog 16 #[.pointer (some ⟨r, 0, none⟩)] w fun e w' => e = .returned (.tuple #[.bool false, .int .i64 3]) ∧ RB w' r y m lo s L N ∧ Only (RS r m) w w' := by
  have hA := rall_at h.g
  rw [decide_eq_true hn] at hA
  have hH := hid h
  clear h hn
  go_enter Try.func16, Try.ntmps16
  go_wp2_with (fail)
  refine hA.mono ?_
  rintro e w1 ⟨rfl, n, rfl⟩
  go_wp2_with (fail)
  go_ret2
  exact ⟨rfl, hH.out.drewN n, Only.drewN _ _ _⟩
set_option maxHeartbeats 4000000 in
theorem rstep_draw (h : RB w r y m lo s L N) (hs : Sm L N) (hn : s.n < s.row.length) (hd : s.drawn = false) (hk : ∀ z ∈ s.row, 0 ≤ z ∧ z < 6) :
    Calls Try.prog 16 #[.pointer (some ⟨r, 0, none⟩)] w fun e w' => e = .returned (.tuple #[.bool false, .int .i64 0]) ∧ RB w' r y m lo { s with mine := L.getD (4 + 2 * s.lock) 0 % 65536, drawn := true } (addL L (4 + 2 * s.lock)) (N + 1) ∧ Only (RS r m) w w' := by
  obtain ⟨nry, nrm⟩ := h.ne
  have hA := rall_at h.g
  rw [decide_eq_false (show ¬ s.n = s.row.length by omega)] at hA
  obtain ⟨A, cap, hO, hcap, hR⟩ := h.g.obj
  have hle := h.g.le
  have hfew := h.g.few
  obtain ⟨rb, ro, rfl, hrl, hrc⟩ := lock_cell hR hn
  have hlk := hk (s.row.getD s.n 0) (by rw [List.getD_eq_getElem?_getD, List.getElem?_eq_getElem hn]; exact List.getElem_mem hn)
  obtain ⟨k, hkk⟩ : ∃ k : Nat, k = s.lock := ⟨_, rfl⟩
  have hk6 : k < 6 := by rw [hkk]; unfold Gs.lock; omega
  have hke : s.row.getD s.n 0 = (k : Int) := by rw [hkk]; unfold Gs.lock; omega
  rw [hke] at hrc
  rw [← hkk]
  have hD := fun n => rdraw_at (h.t.drewN n) hs k hk6
  obtain ⟨u, hu⟩ : ∃ u, u = L.getD (4 + 2 * k) 0 % 65536 := ⟨_, rfl⟩
  rw [← hu] at hD ⊢
  clear hu
  have hT := h.t
  have hG := h.g
  have hd4 : s.drawn = false := hd
  rw [hd] at hO
  have hn1 : (s.n : Int) < (s.row.length : Int) := by omega
  have g0 : w.cell? ⟨r, 0, none⟩ = some (.pointer (some ⟨y, 0, none⟩)) := hO.cell 0
  have g1 : w.cell? ⟨r, 1, none⟩ = some (.slice (some ⟨rb, ro, none⟩) s.row.length cap) := hO.cell 1
  have g2 : w.cell? ⟨r, 2, none⟩ = some (.int .i64 (s.n : Int)) := hO.cell 2
  have g4 : w.cell? ⟨r, 4, none⟩ = some (.bool false) := hO.cell 4
  have hfin := hid (show ∀ n w3, Only (· = m) (w.drewN n) w3 → RL w3 y m lo (addL L (4 + 2 * k)) (N + 1) → w3.cell? ⟨r, 3, none⟩ = some (.int .u16 (s.mine : Int)) ∧ w3.frozen? ⟨r, 3, none⟩ = false ∧ (w3.setCell ⟨r, 3, none⟩ (.int .u16 (u : Int))).cell? ⟨r, 4, none⟩ = some (.bool false) ∧ (w3.setCell ⟨r, 3, none⟩ (.int .u16 (u : Int))).frozen? ⟨r, 4, none⟩ = false ∧
      RB ((w3.setCell ⟨r, 3, none⟩ (.int .u16 (u : Int))).setCell ⟨r, 4, none⟩ (.bool true)) r y m lo { s with mine := u, drawn := true } (addL L (4 + 2 * k)) (N + 1) ∧ Only (RS r m) w ((w3.setCell ⟨r, 3, none⟩ (.int .u16 (u : Int))).setCell ⟨r, 4, none⟩ (.bool true)) from fun n w3 o T3 => by
    have o' := (Only.drewN (fun k => k = m) w n).trans o
    have Bg := hO.only o' nrm
    have R3 := hR.only o' (fun j hj vs => by subst hj; exact m_int hT vs)
    have og : Only (fun k => k = r) w3 ((w3.setCell ⟨r, 3, none⟩ (.int .u16 (u : Int))).setCell ⟨r, 4, none⟩ (.bool true)) := (Only.setCell (S := fun k => k = r) w3 ⟨r, 3, none⟩ _ rfl).trans (Only.setCell _ ⟨r, 4, none⟩ _ rfl)
    have Bg' := (Bg.set 3 (.int .u16 (u : Int))).set 4 (.bool true)
    have R4 := R3.only og (fun j hj vs => by subst hj; exact not_int Bg (by decide) vs)
    have G3 : RG w3 r y s := ⟨⟨_, cap, by rw [hd4]; exact Bg, hcap, R3⟩, hle, hfew⟩
    refine ⟨Bg.cell 3, Bg.frozen 3, (Bg.set 3 _).cell 4, (Bg.set 3 _).frozen 4, ⟨⟨⟨_, cap, Bg', hcap, R4⟩, hle, hfew⟩, T3.guard G3 nry nrm og⟩, ?_⟩
    exact (o'.mono (fun j _ hj => .inr hj)).trans (og.mono (fun j _ hj => .inl hj)))
  clear h hO hR hs hk hlk hke hkk hT hG hd4 hd hle hfew hn
  go_enter Try.func16, Try.ntmps16
  go_wp2_with (fail)
  refine hA.mono ?_
  rintro e w2 ⟨rfl, n1, rfl⟩
  go_wp2_with (go_quiet (fail))
  refine (hD _).mono ?_
  rintro e w3 ⟨rfl, T3, o3⟩
  obtain ⟨e1, e2, e3, e4, e5, e6⟩ := hfin.out _ w3 o3 T3
  go_wp2_with (fail)
  go_ret2
  exact ⟨rfl, e5, e6⟩
set_option maxHeartbeats 4000000 in
theorem rstep_no (h : RB w r y m lo s L N) (hs : Sm L N) (hn : s.n < s.row.length) (hd : s.drawn = true) (hk : ∀ z ∈ s.row, 0 ≤ z ∧ z < 6) (hy : decide (L.getD (5 + 2 * s.lock) 0 % 65536 = s.mine) = false) :
    Calls Try.prog 16 #[.pointer (some ⟨r, 0, none⟩)] w fun e w' => e = .returned (.tuple #[.bool false, .int .i64 0]) ∧ RB w' r y m lo s L (N + 1) ∧ Only (RS r m) w w' := by
  obtain ⟨nry, nrm⟩ := h.ne
  obtain ⟨A, cap, hO, hcap, hR⟩ := h.g.obj
  have hle := h.g.le
  have hfew := h.g.few
  obtain ⟨rb, ro, rfl, hrl, hrc⟩ := lock_cell hR hn
  have hlk := hk (s.row.getD s.n 0) (by rw [List.getD_eq_getElem?_getD, List.getElem?_eq_getElem hn]; exact List.getElem_mem hn)
  obtain ⟨k, hkk⟩ : ∃ k : Nat, k = s.lock := ⟨_, rfl⟩
  have hk6 : k < 6 := by rw [hkk]; unfold Gs.lock; omega
  have hke : s.row.getD s.n 0 = (k : Int) := by rw [hkk]; unfold Gs.lock; omega
  rw [hke] at hrc
  rw [← hkk] at hy
  have hA := rall_at h.g
  rw [decide_eq_false (show ¬ s.n = s.row.length by omega)] at hA
  have hD := fun n => rmine_at (h.t.drewN n) hs k hk6 s.mine
  rw [hy] at hD
  have hT := h.t
  have hG := h.g
  have hd4 : s.drawn = true := hd
  rw [hd] at hO
  have hn1 : (s.n : Int) < (s.row.length : Int) := by omega
  have g0 : w.cell? ⟨r, 0, none⟩ = some (.pointer (some ⟨y, 0, none⟩)) := hO.cell 0
  have g1 : w.cell? ⟨r, 1, none⟩ = some (.slice (some ⟨rb, ro, none⟩) s.row.length cap) := hO.cell 1
  have g2 : w.cell? ⟨r, 2, none⟩ = some (.int .i64 (s.n : Int)) := hO.cell 2
  have g3 : w.cell? ⟨r, 3, none⟩ = some (.int .u16 (s.mine : Int)) := hO.cell 3
  have g4 : w.cell? ⟨r, 4, none⟩ = some (.bool true) := hO.cell 4
  have hfin := hid (show ∀ n w3, Only (· = m) (w.drewN n) w3 → RL w3 y m lo L (N + 1) → RB w3 r y m lo s L (N + 1) ∧ Only (RS r m) w w3 ∧ w3.cell? ⟨r, 0, none⟩ = some (.pointer (some ⟨y, 0, none⟩)) ∧ w3.cell? ⟨r, 3, none⟩ = some (.int .u16 (s.mine : Int)) from fun n w3 o T3 => by
    have o' := (Only.drewN (fun k => k = m) w n).trans o
    have Bg := hO.only o' nrm
    have R3 := hR.only o' (fun j hj vs => by subst hj; exact m_int hT vs)
    exact ⟨⟨⟨⟨_, cap, by rw [hd4]; exact Bg, hcap, R3⟩, hle, hfew⟩, T3⟩, o'.mono (fun j _ hj => .inr hj), Bg.cell 0, Bg.cell 3⟩)
  have hnn : decide (s.n = s.row.length) = false := decide_eq_false (by omega)
  have hnH := hid hnn
  clear h hO hR hs hk hlk hke hkk hT hG hd4 hd hle hfew hn hy hnn
  go_enter Try.func16, Try.ntmps16
  go_wp2_with (fail)
  refine hA.mono ?_
  rintro e w2 ⟨rfl, n1, rfl⟩
  go_wp2_with (go_quiet (fail))
  go_region_held3 (fun W' : World => W'.cell? ⟨r, 0, none⟩ = some (.pointer (some ⟨y, 0, none⟩)) ∧ W'.cell? ⟨r, 3, none⟩ = some (.int .u16 (s.mine : Int))) (first | (refine ⟨?_, ?_⟩ <;> assumption) | go_keep) (first
    | (go_at_call 38; refine (hD _).mono ?_; rintro e w3 ⟨rfl, T3, o3⟩; obtain ⟨k1, k2, e0, e1⟩ := hfin.out _ w3 o3 T3))
  have hA3 := rall_at k1.g
  rw [hnH.out] at hA3
  go_wp2_with (fail)
  refine hA3.mono ?_
  rintro e w5 ⟨rfl, n5, rfl⟩
  go_wp2_with (fail)
  go_ret2
  exact ⟨rfl, k1.drewN n5, k2.trans (Only.drewN _ _ _)⟩
set_option maxHeartbeats 4000000 in
theorem rstep_yes (h : RB w r y m lo s L N) (hs : Sm L N) (hn : s.n < s.row.length) (hd : s.drawn = true) (hk : ∀ z ∈ s.row, 0 ≤ z ∧ z < 6) (hy : decide (L.getD (5 + 2 * s.lock) 0 % 65536 = s.mine) = true) :
    Calls Try.prog 16 #[.pointer (some ⟨r, 0, none⟩)] w fun e w' => e = .returned (.tuple #[.bool (decide (s.n + 1 = s.row.length)), .int .i64 0]) ∧ RB w' r y m lo { s with n := s.n + 1, mine := 0, drawn := false } L (N + 1) ∧ Only (RS r m) w w' := by
  obtain ⟨nry, nrm⟩ := h.ne
  obtain ⟨A, cap, hO, hcap, hR⟩ := h.g.obj
  have hle := h.g.le
  have hfew := h.g.few
  obtain ⟨rb, ro, rfl, hrl, hrc⟩ := lock_cell hR hn
  have hlk := hk (s.row.getD s.n 0) (by rw [List.getD_eq_getElem?_getD, List.getElem?_eq_getElem hn]; exact List.getElem_mem hn)
  obtain ⟨k, hkk⟩ : ∃ k : Nat, k = s.lock := ⟨_, rfl⟩
  have hk6 : k < 6 := by rw [hkk]; unfold Gs.lock; omega
  have hke : s.row.getD s.n 0 = (k : Int) := by rw [hkk]; unfold Gs.lock; omega
  rw [hke] at hrc
  rw [← hkk] at hy
  have hA := rall_at h.g
  rw [decide_eq_false (show ¬ s.n = s.row.length by omega)] at hA
  have hD := fun n => rmine_at (h.t.drewN n) hs k hk6 s.mine
  rw [hy] at hD
  have hT := h.t
  have hG := h.g
  have hd4 : s.drawn = true := hd
  rw [hd] at hO
  have hn1 : (s.n : Int) < (s.row.length : Int) := by omega
  have g0 : w.cell? ⟨r, 0, none⟩ = some (.pointer (some ⟨y, 0, none⟩)) := hO.cell 0
  have g1 : w.cell? ⟨r, 1, none⟩ = some (.slice (some ⟨rb, ro, none⟩) s.row.length cap) := hO.cell 1
  have g2 : w.cell? ⟨r, 2, none⟩ = some (.int .i64 (s.n : Int)) := hO.cell 2
  have g3 : w.cell? ⟨r, 3, none⟩ = some (.int .u16 (s.mine : Int)) := hO.cell 3
  have g4 : w.cell? ⟨r, 4, none⟩ = some (.bool true) := hO.cell 4
  have hfin := hid (show ∀ n w3, Only (· = m) (w.drewN n) w3 → RL w3 y m lo L (N + 1) → w3.cell? ⟨r, 0, none⟩ = some (.pointer (some ⟨y, 0, none⟩)) ∧ w3.cell? ⟨r, 3, none⟩ = some (.int .u16 (s.mine : Int)) ∧ w3.cell? ⟨r, 2, none⟩ = some (.int .i64 (s.n : Int)) ∧ w3.frozen? ⟨r, 2, none⟩ = false ∧
      (w3.setCell ⟨r, 2, none⟩ (.int .i64 ((s.n : Int) + 1))).cell? ⟨r, 4, none⟩ = some (.bool true) ∧ (w3.setCell ⟨r, 2, none⟩ (.int .i64 ((s.n : Int) + 1))).frozen? ⟨r, 4, none⟩ = false ∧
      ((w3.setCell ⟨r, 2, none⟩ (.int .i64 ((s.n : Int) + 1))).setCell ⟨r, 4, none⟩ (.bool false)).cell? ⟨r, 3, none⟩ = some (.int .u16 (s.mine : Int)) ∧ ((w3.setCell ⟨r, 2, none⟩ (.int .i64 ((s.n : Int) + 1))).setCell ⟨r, 4, none⟩ (.bool false)).frozen? ⟨r, 3, none⟩ = false ∧
      RB (((w3.setCell ⟨r, 2, none⟩ (.int .i64 ((s.n : Int) + 1))).setCell ⟨r, 4, none⟩ (.bool false)).setCell ⟨r, 3, none⟩ (.int .u16 0)) r y m lo { s with n := s.n + 1, mine := 0, drawn := false } L (N + 1) ∧ Only (RS r m) w (((w3.setCell ⟨r, 2, none⟩ (.int .i64 ((s.n : Int) + 1))).setCell ⟨r, 4, none⟩ (.bool false)).setCell ⟨r, 3, none⟩ (.int .u16 0)) from fun n w3 o T3 => by
    have o' := (Only.drewN (fun k => k = m) w n).trans o
    have Bg := hO.only o' nrm
    have R3 := hR.only o' (fun j hj vs => by subst hj; exact m_int hT vs)
    have og : Only (fun k => k = r) w3 (((w3.setCell ⟨r, 2, none⟩ (.int .i64 ((s.n : Int) + 1))).setCell ⟨r, 4, none⟩ (.bool false)).setCell ⟨r, 3, none⟩ (.int .u16 0)) := ((Only.setCell (S := fun k => k = r) w3 ⟨r, 2, none⟩ _ rfl).trans (Only.setCell _ ⟨r, 4, none⟩ _ rfl)).trans (Only.setCell _ ⟨r, 3, none⟩ _ rfl)
    have B1 := Bg.set 2 (.int .i64 ((s.n : Int) + 1))
    have B2 := B1.set 4 (.bool false)
    have B3 := B2.set 3 (.int .u16 0)
    have R4 := R3.only og (fun j hj vs => by subst hj; exact not_int Bg (by decide) vs)
    have G3 : RG w3 r y s := ⟨⟨_, cap, by rw [hd4]; exact Bg, hcap, R3⟩, hle, hfew⟩
    refine ⟨Bg.cell 0, Bg.cell 3, Bg.cell 2, Bg.frozen 2, B1.cell 4, B1.frozen 4, B2.cell 3, B2.frozen 3, ⟨⟨⟨_, cap, B3, hcap, R4⟩, by show s.n + 1 ≤ s.row.length; omega, hfew⟩, T3.guard G3 nry nrm og⟩, ?_⟩
    exact (o'.mono (fun j _ hj => .inr hj)).trans (og.mono (fun j _ hj => .inl hj)))
  have hq : IntKind.i64.wrap ((s.n : Int) + 1) = (s.n : Int) + 1 := IntWalk.i64_in _ (by omega)
  have hA9 := hid (show ∀ w9, RB w9 r y m lo { s with n := s.n + 1, mine := 0, drawn := false } L (N + 1) → Calls Try.prog 36 #[.pointer (some ⟨r, 0, none⟩)] w9 fun e w' => e = .returned (.bool (decide (s.n + 1 = s.row.length))) ∧ ∃ n, w' = w9.drewN n from fun w9 h9 => rall_at h9.g)
  clear h hO hR hs hk hlk hke hkk hT hG hd4 hd hle hfew hn hy
  generalize decide (s.n + 1 = s.row.length) = dd at *
  go_enter Try.func16, Try.ntmps16
  go_wp2_with (fail)
  refine hA.mono ?_
  rintro e w2 ⟨rfl, n1, rfl⟩
  go_wp2_with (go_quiet (fail))
  go_region_held3 (fun W' : World => W'.cell? ⟨r, 0, none⟩ = some (.pointer (some ⟨y, 0, none⟩)) ∧ W'.cell? ⟨r, 3, none⟩ = some (.int .u16 (s.mine : Int))) (first | (refine ⟨?_, ?_⟩ <;> assumption) | go_keep) (first
    | (go_at_call 38; refine (hD _).mono ?_; rintro e w3 ⟨rfl, T3, o3⟩; obtain ⟨e0, e1, e2, e3, e4, e5, e6, e7, k1, k2⟩ := hfin.out _ w3 o3 T3))
  have hA3 := hA9.out _ k1
  go_wp2_with (fail)
  refine hA3.mono ?_
  rintro e w5 ⟨rfl, n5, rfl⟩
  go_wp2_with (fail)
  go_ret2
  exact ⟨rfl, k1.drewN n5, k2.trans (Only.drewN _ _ _)⟩
theorem rstep_is (h : RB w r y m lo s L N) (hs : Sm L N) (hr : Rise s.row) : Calls Try.prog 16 #[.pointer (some ⟨r, 0, none⟩)] w fun e w' => e = .returned (.tuple #[.bool (stepA s L).b, .int .i64 (stepA s L).e]) ∧ RB w' r y m lo (stepA s L).s (stepA s L).L (N + (stepA s L).k) ∧ Only (RS r m) w w' := by
  by_cases h1 : s.n = s.row.length
  · rw [show stepA s L = ⟨s, L, 0, false, 3⟩ by unfold stepA; rw [if_pos h1]]
    exact rstep_none h h1
  · have hn : s.n < s.row.length := by have := h.g.le; omega
    cases h2 : s.drawn with
    | false =>
      rw [show stepA s L = ⟨{ s with mine := L.getD (4 + 2 * s.lock) 0 % 65536, drawn := true }, addL L (4 + 2 * s.lock), 1, false, 0⟩ by unfold stepA; rw [if_neg h1, if_pos h2]]
      exact rstep_draw h hs hn h2 hr.all
    | true =>
      by_cases h3 : L.getD (5 + 2 * s.lock) 0 % 65536 = s.mine
      · rw [show stepA s L = ⟨{ s with n := s.n + 1, mine := 0, drawn := false }, L, 1, decide (s.n + 1 = s.row.length), 0⟩ by unfold stepA; rw [if_neg h1, if_neg (by rw [h2]; decide), if_pos h3]]
        exact rstep_yes h hs hn h2 hr.all (decide_eq_true h3)
      · rw [show stepA s L = ⟨s, L, 1, false, 0⟩ by unfold stepA; rw [if_neg h1, if_neg (by rw [h2]; decide), if_neg h3]]
        exact rstep_no h hs hn h2 hr.all (decide_eq_false h3)
end
end Go.Proofs.Ytabcodjalacdjab.RefGuard
