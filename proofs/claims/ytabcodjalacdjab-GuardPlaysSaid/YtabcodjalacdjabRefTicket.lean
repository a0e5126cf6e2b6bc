
/- The document's locks. -/
import Derived.Test.YtabcodjalacdjabRefCells
import Derived.Test.YtabcodjalacdjabGuardMany
namespace Go.Proofs.Ytabcodjalacdjab.RefGuard
open Go Go.RowKit Go.Proofs.Ytabcodjalacdjab.Obj Go.Proofs.Ytabcodjalacdjab.Row Go.Proofs.Ytabcodjalacdjab.RefCells Go.Proofs.YtabcodjalacdjabW.PrintWords Go.Proofs.YtabcodjalacdjabW.PrintMore
open Go.Proofs.Ytabcodjalacdjab.CellCode (addL)
open Go.Proofs.Ytabcodjalacdjab.TicketCode (Sm)
set_option linter.unusedVariables false
set_option maxRecDepth 100000
/-- Six locks of the document's. -/
structure RL (w : World) (y m lo : Nat) (L : List Nat) (N : Nat) : Prop where
  cells : RC w m lo L N
  obj : Blk w y 53 [.pointer (some ⟨m, 0, none⟩), .int .i64 4, .int .i64 6]
  len : L.length = 20
section
variable {w w' : World} {y m lo : Nat} {L : List Nat} {N : Nat}
theorem RL.ne (h : RL w y m lo L N) : y ≠ m := by
  obtain ⟨b, c, h1, _⟩ := h.cells.obj
  exact CellCode.blk_ne h.obj h1 (by decide)
theorem RL.only {S : Nat → Prop} (h : RL w y m lo L N) (o : Only S w w') (hm : ¬ S m) (hy : ¬ S y) (hS : ∀ k, S k → lo ≤ k → ∀ vs, w.heap[k]? ≠ some (.cells vs 48 (0, 0))) : RL w' y m lo L N := ⟨h.cells.only o hm hS, h.obj.only o hy, h.len⟩
theorem RL.below (h : RL w y m lo L N) (hb : Below w.heap.size w w') : RL w' y m lo L N := ⟨h.cells.below hb, h.obj.same (hb.block _ h.obj.lt), h.len⟩
theorem RL.drewN (h : RL w y m lo L N) (n : Nat) : RL (w.drewN n) y m lo L N := ⟨h.cells.drewN n, h.obj, h.len⟩
theorem rhas_at (h : RL w y m lo L N) (k : Int) : Calls Try.prog 39 #[.pointer (some ⟨y, 0, none⟩), .int .i64 k] w fun e w' => e = .returned (.bool (decide (0 ≤ k ∧ k < 6))) ∧ w' = w := by
  have h2 : w.cell? ⟨y, 2, none⟩ = some (.int .i64 6) := h.obj.cell 2
  clear h
  by_cases h0 : 0 ≤ k
  · by_cases h6 : k < 6
    · rw [decide_eq_true (And.intro h0 h6)]
      go_enter Try.func39, Try.ntmps39
      go_wp2_with (fail)
      go_ret
      exact ⟨rfl, rfl⟩
    · rw [decide_eq_false (fun h => h6 h.2)]
      go_enter Try.func39, Try.ntmps39
      go_wp2_with (fail)
      go_ret
      exact ⟨rfl, rfl⟩
  · rw [decide_eq_false (fun h => h0 h.1)]
    go_enter Try.func39, Try.ntmps39
    go_wp2_with (fail)
    go_ret
    exact ⟨rfl, rfl⟩
theorem rhas_in (h : RL w y m lo L N) (k : Nat) (hk : k < 6) : Calls Try.prog 39 #[.pointer (some ⟨y, 0, none⟩), .int .i64 (k : Int)] w fun e w' => e = .returned (.bool true) ∧ w' = w := by
  have := rhas_at h (k : Int)
  rw [decide_eq_true (show (0 : Int) ≤ (k : Int) ∧ (k : Int) < 6 by omega)] at this
  exact this
theorem RL.next (h : RL w y m lo L N) {L' : List Nat} {N' : Nat} (hC : RC w' m lo L' N') (o : Only (· = m) w w') (hl : L'.length = 20) : RL w' y m lo L' N' := ⟨hC, h.obj.only o h.ne, hl⟩
theorem sm_lt (hs : Sm L N) (i : Nat) : L.getD i 0 < 1000000000 := by
  rw [List.getD_eq_getElem?_getD]
  rcases Nat.lt_or_ge i L.length with h | h
  · rw [List.getElem?_eq_getElem h]
    have := hs.2 _ (List.getElem_mem h); have := hs.1
    simp only [Option.getD_some]; omega
  · rw [List.getElem?_eq_none h]; decide
theorem u16_of (n : Nat) : ((n % 65536 : Nat) : Int) = (n : Int) % 65536 := by omega
theorem radd_draw (h : RL w y m lo L N) (hs : Sm L N) (i : Nat) (hi : i < 20) : Calls Try.prog 50 #[.pointer (some ⟨m, 0, none⟩), .int .i64 (i : Int), .int .u64 1] w fun e w' => e = .returned (.int .u64 ((L.getD i 0 : Nat) : Int)) ∧ RL w' y m lo (addL L i) (N + 1) ∧ Only (· = m) w w' := by
  have := h.len
  refine (add_at h.cells i (by omega) (by omega) (by have := hs.1; omega) (by have := sm_lt hs i; omega)).mono ?_
  rintro e w' ⟨rfl, h1, h2⟩
  exact ⟨rfl, h.next h1 h2 (by rw [List.length_set]; exact h.len), h2⟩
theorem rread (h : RL w y m lo L N) (hs : Sm L N) (i : Nat) (hi : i < 20) : Calls Try.prog 51 #[.pointer (some ⟨m, 0, none⟩), .int .i64 (i : Int)] w fun e w' => e = .returned (.int .u64 ((L.getD i 0 : Nat) : Int)) ∧ RL w' y m lo L (N + 1) ∧ Only (· = m) w w' := by
  have := h.len
  refine (read_at h.cells i (by omega) (by have := hs.1; omega)).mono ?_
  rintro e w' ⟨rfl, h1, h2⟩
  exact ⟨rfl, h.next h1 h2 h.len, h2⟩
theorem rdraw_at (h : RL w y m lo L N) (hs : Sm L N) (k : Nat) (hk : k < 6) : Calls Try.prog 37 #[.pointer (some ⟨y, 0, none⟩), .int .i64 (k : Int)] w fun e w' => e = .returned (.int .u16 ((L.getD (4 + 2 * k) 0 % 65536 : Nat) : Int)) ∧ RL w' y m lo (addL L (4 + 2 * k)) (N + 1) ∧ Only (· = m) w w' := by
  have hH := rhas_in h k hk
  have hA := fun n => radd_draw (h.drewN n) hs (4 + 2 * k) (by omega)
  rw [show ((4 + 2 * k : Nat) : Int) = 4 + 2 * (k : Int) by omega] at hA
  have c0 : w.cell? ⟨y, 0, none⟩ = some (.pointer (some ⟨m, 0, none⟩)) := h.obj.cell 0
  have c1 : w.cell? ⟨y, 1, none⟩ = some (.int .i64 4) := h.obj.cell 1
  have hq1 : IntKind.i64.wrap (2 * (k : Int)) = 2 * (k : Int) := IntWalk.i64_in _ (by omega)
  have hq2 : IntKind.i64.wrap (4 + 2 * (k : Int)) = 4 + 2 * (k : Int) := IntWalk.i64_in _ (by omega)
  have hu := hid (u16_of (L.getD (4 + 2 * k) 0))
  obtain ⟨L', hL'⟩ : ∃ L', L' = addL L (4 + 2 * k) := ⟨_, rfl⟩
  rw [← hL'] at hA ⊢
  clear hL' h hs hk
  generalize L.getD (4 + 2 * k) 0 = x at *
  go_enter Try.func37, Try.ntmps37
  go_wp2_with (fail)
  refine hH.mono ?_
  rintro e w1 ⟨rfl, hw⟩
  obtain rfl : w = w1 := hw.symm
  go_wp2_with (fail)
  go_region_held3 (fun W' : World => W'.cell? ⟨y, 0, none⟩ = some (.pointer (some ⟨m, 0, none⟩)) ∧ W'.cell? ⟨y, 1, none⟩ = some (.int .i64 4)) (first | (refine ⟨?_, ?_⟩ <;> assumption) | go_keep) (first
    | (go_at_call 50; refine (hA _).mono ?_; rintro e w3 ⟨rfl, h5, h6⟩; have e0 : w3.cell? ⟨y, 0, none⟩ = some (.pointer (some ⟨m, 0, none⟩)) := h5.obj.cell 0; have e1 : w3.cell? ⟨y, 1, none⟩ = some (.int .i64 4) := h5.obj.cell 1))
  go_wp2_with (fail)
  go_ret
  exact ⟨by rw [hu.out]; rfl, h5, (Only.drewN _ _ _).trans h6⟩
theorem rmine_at (h : RL w y m lo L N) (hs : Sm L N) (k : Nat) (hk : k < 6) (t : Nat) : Calls Try.prog 38 #[.pointer (some ⟨y, 0, none⟩), .int .i64 (k : Int), .int .u16 (t : Int)] w fun e w' => e = .returned (.bool (decide (L.getD (5 + 2 * k) 0 % 65536 = t))) ∧ RL w' y m lo L (N + 1) ∧ Only (· = m) w w' := by
  have hH := rhas_in h k hk
  have hA := fun n => rread (h.drewN n) hs (5 + 2 * k) (by omega)
  rw [show ((5 + 2 * k : Nat) : Int) = 4 + 2 * (k : Int) + 1 by omega] at hA
  have c0 : w.cell? ⟨y, 0, none⟩ = some (.pointer (some ⟨m, 0, none⟩)) := h.obj.cell 0
  have c1 : w.cell? ⟨y, 1, none⟩ = some (.int .i64 4) := h.obj.cell 1
  have hq1 : IntKind.i64.wrap (2 * (k : Int)) = 2 * (k : Int) := IntWalk.i64_in _ (by omega)
  have hq2 : IntKind.i64.wrap (4 + 2 * (k : Int)) = 4 + 2 * (k : Int) := IntWalk.i64_in _ (by omega)
  have hq3 : IntKind.i64.wrap (4 + 2 * (k : Int) + 1) = 4 + 2 * (k : Int) + 1 := IntWalk.i64_in _ (by omega)
  clear h hs hk
  generalize L.getD (5 + 2 * k) 0 = x at *
  have hu : ((x : Int) % 65536 == (t : Int)) = decide (x % 65536 = t) := by rw [Bool.eq_iff_iff, beq_iff_eq, decide_eq_true_eq]; omega
  have huH := hid hu
  clear hu
  go_enter Try.func38, Try.ntmps38
  go_wp2_with (fail)
  refine hH.mono ?_
  rintro e w1 ⟨rfl, hw⟩
  obtain rfl : w = w1 := hw.symm
  go_wp2_with (fail)
  go_region_held3 (fun W' : World => W'.cell? ⟨y, 0, none⟩ = some (.pointer (some ⟨m, 0, none⟩)) ∧ W'.cell? ⟨y, 1, none⟩ = some (.int .i64 4)) (first | (refine ⟨?_, ?_⟩ <;> assumption) | go_keep) (first
    | (go_at_call 51; refine (hA _).mono ?_; rintro e w3 ⟨rfl, h5, h6⟩; have e0 : w3.cell? ⟨y, 0, none⟩ = some (.pointer (some ⟨m, 0, none⟩)) := h5.obj.cell 0; have e1 : w3.cell? ⟨y, 1, none⟩ = some (.int .i64 4) := h5.obj.cell 1))
  go_wp2_with (fail)
  go_ret
  exact ⟨by rw [← huH.out]; rfl, h5, (Only.drewN _ _ _).trans h6⟩
theorem rgive_at (h : RL w y m lo L N) (hs : Sm L N) (k : Nat) (hk : k < 6) : Calls Try.prog 40 #[.pointer (some ⟨y, 0, none⟩), .int .i64 (k : Int)] w fun e w' => e = .returned (.tuple #[]) ∧ RL w' y m lo (addL L (5 + 2 * k)) (N + 1) ∧ Only (· = m) w w' := by
  have hH := rhas_in h k hk
  have hA := fun n => radd_draw (h.drewN n) hs (5 + 2 * k) (by omega)
  rw [show ((5 + 2 * k : Nat) : Int) = 4 + 2 * (k : Int) + 1 by omega] at hA
  have c0 : w.cell? ⟨y, 0, none⟩ = some (.pointer (some ⟨m, 0, none⟩)) := h.obj.cell 0
  have c1 : w.cell? ⟨y, 1, none⟩ = some (.int .i64 4) := h.obj.cell 1
  have hq1 : IntKind.i64.wrap (2 * (k : Int)) = 2 * (k : Int) := IntWalk.i64_in _ (by omega)
  have hq2 : IntKind.i64.wrap (4 + 2 * (k : Int)) = 4 + 2 * (k : Int) := IntWalk.i64_in _ (by omega)
  have hq3 : IntKind.i64.wrap (4 + 2 * (k : Int) + 1) = 4 + 2 * (k : Int) + 1 := IntWalk.i64_in _ (by omega)
  obtain ⟨L', hL'⟩ : ∃ L', L' = addL L (5 + 2 * k) := ⟨_, rfl⟩
  rw [← hL'] at hA ⊢
  clear hL' h hs hk
  generalize L.getD (5 + 2 * k) 0 = x at *
  go_enter Try.func40, Try.ntmps40
  go_wp2_with (fail)
  refine hH.mono ?_
  rintro e w1 ⟨rfl, hw⟩
  obtain rfl : w = w1 := hw.symm
  go_wp2_with (fail)
  go_region_held3 (fun W' : World => W'.cell? ⟨y, 0, none⟩ = some (.pointer (some ⟨m, 0, none⟩)) ∧ W'.cell? ⟨y, 1, none⟩ = some (.int .i64 4)) (first | (refine ⟨?_, ?_⟩ <;> assumption) | go_keep) (first
    | (go_at_call 50; refine (hA _).mono ?_; rintro e w3 ⟨rfl, h5, h6⟩; have e0 : w3.cell? ⟨y, 0, none⟩ = some (.pointer (some ⟨m, 0, none⟩)) := h5.obj.cell 0; have e1 : w3.cell? ⟨y, 1, none⟩ = some (.int .i64 4) := h5.obj.cell 1))
  all_goals go_wp2_with (fail)
  all_goals go_end0
  all_goals exact ⟨rfl, h5, (Only.drewN _ _ _).trans h6⟩
end
end Go.Proofs.Ytabcodjalacdjab.RefGuard
