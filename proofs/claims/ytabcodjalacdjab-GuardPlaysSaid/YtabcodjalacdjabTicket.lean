
/- ticket: locks on cells. -/
import Derived.Test.YtabcodjalacdjabCell
namespace Go.Proofs.Ytabcodjalacdjab.TicketCode
open Go Go.RowKit Go.Proofs.Ytabcodjalacdjab.Obj Go.Proofs.Ytabcodjalacdjab.Row Go.Proofs.Ytabcodjalacdjab.CellCode Go.Proofs.YtabcodjalacdjabW.PrintWords Go.Proofs.YtabcodjalacdjabW.PrintMore
set_option linter.unusedVariables false
set_option maxRecDepth 100000
/-- Six locks on twenty cells. -/
structure TAt (w : World) (x c lb : Nat) (L : List Nat) (N : Nat) : Prop where
  cells : CAt w c lb L N
  obj : Blk w x 91 [.pointer (some ⟨c, 0, none⟩), .int .i64 4, .int .i64 6]
  len : L.length = 20
section
variable {w w' : World} {x c lb : Nat} {L : List Nat} {N : Nat}
theorem TAt.nc (h : TAt w x c lb L N) : x ≠ c := CellCode.blk_ne h.obj h.cells.obj (by decide)
theorem TAt.nl (h : TAt w x c lb L N) : x ≠ lb := CellCode.blk_ne h.obj h.cells.row (by decide)
theorem TAt.below (h : TAt w x c lb L N) (hb : Below w.heap.size w w') : TAt w' x c lb L N := ⟨h.cells.below hb, h.obj.same (hb.block _ h.obj.lt), h.len⟩
theorem TAt.only {S : Nat → Prop} (h : TAt w x c lb L N) (o : Only S w w') (h1 : ¬ S c) (h2 : ¬ S lb) (h3 : ¬ S x) : TAt w' x c lb L N := ⟨h.cells.only o h1 h2, h.obj.only o h3, h.len⟩
theorem TAt.alloc (h : TAt w x c lb L N) (o : Obj) : TAt (w.alloc o) x c lb L N := ⟨h.cells.alloc o, h.obj.alloc o, h.len⟩
theorem new_at (h : CAt w c lb L N) (hl : L.length = 20) : Calls Try.prog 26 #[.pointer (some ⟨c, 0, none⟩), .int .i64 4, .int .i64 6] w fun e w' => e = .returned (.tuple #[.pointer (some ⟨w.heap.size, 0, none⟩), .int .i64 0]) ∧ TAt w' w.heap.size c lb L N ∧ Below w.heap.size w w' ∧ w'.heap.size = w.heap.size + 1 := by
  have hL := len_at h
  rw [hl] at hL
  have hT : TAt (w.alloc (.cells #[.pointer (some ⟨c, 0, none⟩), .int .i64 4, .int .i64 6] 91)) w.heap.size c lb L N := ⟨h.alloc _, Blk.new w _ _, hl⟩
  have hb : Below w.heap.size w (w.alloc (.cells #[.pointer (some ⟨c, 0, none⟩), .int .i64 4, .int .i64 6] 91)) := (Below.refl _ _).alloc (Nat.le_refl _) _
  have hsz : (w.alloc (.cells #[.pointer (some ⟨c, 0, none⟩), .int .i64 4, .int .i64 6] 91)).heap.size = w.heap.size + 1 := by simp
  clear h hl
  go_enter Try.func26, Try.ntmps26
  go_wp2_with (fail)
  refine hL.mono ?_
  rintro e w1 ⟨rfl, hw⟩
  obtain rfl := hw.symm
  go_wp2_with (fail)
  go_ret2
  exact ⟨rfl, hT, hb, hsz⟩
theorem len_lock (h : TAt w x c lb L N) : Calls Try.prog 27 #[.pointer (some ⟨x, 0, none⟩)] w fun e w' => e = .returned (.int .i64 6) ∧ w' = w := by
  have h0 : w.cell? ⟨x, 2, none⟩ = some (.int .i64 6) := h.obj.cell 2
  clear h
  go_enter Try.func27, Try.ntmps27
  go_wp2_with (fail)
  go_ret
  exact ⟨rfl, rfl⟩
theorem of_draw (h1 : w.cell? ⟨x, 1, none⟩ = some (.int .i64 4)) (h2 : w.cell? ⟨x, 2, none⟩ = some (.int .i64 6)) (k : Nat) (hk : k < 6) (p0 p1 : Value) (Q : World → Prop)
    (hdo : ∀ n, Calls Try.prog 47 #[.int .i64 ((4 + 2 * k : Nat) : Int), .int .i64 ((5 + 2 * k : Nat) : Int), p0, p1] (w.drewN n) fun e w' => e = .returned (.tuple #[]) ∧ Q w') :
    Calls Try.prog 41 #[.pointer (some ⟨x, 0, none⟩), .int .i64 (k : Int), .func (.func 47) #[] #[p0, p1]] w fun e w' => e = .returned (.tuple #[]) ∧ Q w' := by
  have k0 : (0 : Int) ≤ (k : Int) := by omega
  have k1 : (k : Int) < 6 := by omega
  have q1 : IntKind.i64.wrap (2 * (k : Int)) = 2 * (k : Int) := IntWalk.i64_in _ (by omega)
  have q2 : IntKind.i64.wrap (4 + 2 * (k : Int)) = ((4 + 2 * k : Nat) : Int) := by rw [IntWalk.i64_in _ (by omega)]; omega
  have q3 : IntKind.i64.wrap (((4 + 2 * k : Nat) : Int) + 1) = ((5 + 2 * k : Nat) : Int) := by rw [IntWalk.i64_in _ (by omega)]; omega
  generalize 4 + 2 * k = a at *
  generalize 5 + 2 * k = b at *
  go_enter Try.func41, Try.ntmps41
  go_wp2_with (fail)
  go_still_tail 16, (by kernel_rfl)
  change wpList _ _ _ _ _ w.drew
  go_wp2_with (fail)
  refine (hdo 1).mono ?_
  rintro e w1 ⟨rfl, hQ⟩
  go_wp2_with (fail)
  go_end0
  exact ⟨rfl, hQ⟩
theorem of_mine (h1 : w.cell? ⟨x, 1, none⟩ = some (.int .i64 4)) (h2 : w.cell? ⟨x, 2, none⟩ = some (.int .i64 6)) (k : Nat) (hk : k < 6) (p0 p1 p2 : Value) (Q : World → Prop)
    (hdo : ∀ n, Calls Try.prog 48 #[.int .i64 ((4 + 2 * k : Nat) : Int), .int .i64 ((5 + 2 * k : Nat) : Int), p0, p1, p2] (w.drewN n) fun e w' => e = .returned (.tuple #[]) ∧ Q w') :
    Calls Try.prog 41 #[.pointer (some ⟨x, 0, none⟩), .int .i64 (k : Int), .func (.func 48) #[] #[p0, p1, p2]] w fun e w' => e = .returned (.tuple #[]) ∧ Q w' := by
  have k0 : (0 : Int) ≤ (k : Int) := by omega
  have k1 : (k : Int) < 6 := by omega
  have q1 : IntKind.i64.wrap (2 * (k : Int)) = 2 * (k : Int) := IntWalk.i64_in _ (by omega)
  have q2 : IntKind.i64.wrap (4 + 2 * (k : Int)) = ((4 + 2 * k : Nat) : Int) := by rw [IntWalk.i64_in _ (by omega)]; omega
  have q3 : IntKind.i64.wrap (((4 + 2 * k : Nat) : Int) + 1) = ((5 + 2 * k : Nat) : Int) := by rw [IntWalk.i64_in _ (by omega)]; omega
  generalize 4 + 2 * k = a at *
  generalize 5 + 2 * k = b at *
  go_enter Try.func41, Try.ntmps41
  go_wp2_with (fail)
  go_still_tail 16, (by kernel_rfl)
  change wpList _ _ _ _ _ w.drew
  go_wp2_with (fail)
  refine (hdo 1).mono ?_
  rintro e w1 ⟨rfl, hQ⟩
  go_wp2_with (fail)
  go_end0
  exact ⟨rfl, hQ⟩
theorem of_give (h1 : w.cell? ⟨x, 1, none⟩ = some (.int .i64 4)) (h2 : w.cell? ⟨x, 2, none⟩ = some (.int .i64 6)) (k : Nat) (hk : k < 6) (p0 : Value) (Q : World → Prop)
    (hdo : ∀ n, Calls Try.prog 45 #[.int .i64 ((4 + 2 * k : Nat) : Int), .int .i64 ((5 + 2 * k : Nat) : Int), p0] (w.drewN n) fun e w' => e = .returned (.tuple #[]) ∧ Q w') :
    Calls Try.prog 41 #[.pointer (some ⟨x, 0, none⟩), .int .i64 (k : Int), .func (.func 45) #[] #[p0]] w fun e w' => e = .returned (.tuple #[]) ∧ Q w' := by
  have k0 : (0 : Int) ≤ (k : Int) := by omega
  have k1 : (k : Int) < 6 := by omega
  have q1 : IntKind.i64.wrap (2 * (k : Int)) = 2 * (k : Int) := IntWalk.i64_in _ (by omega)
  have q2 : IntKind.i64.wrap (4 + 2 * (k : Int)) = ((4 + 2 * k : Nat) : Int) := by rw [IntWalk.i64_in _ (by omega)]; omega
  have q3 : IntKind.i64.wrap (((4 + 2 * k : Nat) : Int) + 1) = ((5 + 2 * k : Nat) : Int) := by rw [IntWalk.i64_in _ (by omega)]; omega
  generalize 4 + 2 * k = a at *
  generalize 5 + 2 * k = b at *
  go_enter Try.func41, Try.ntmps41
  go_wp2_with (fail)
  go_still_tail 16, (by kernel_rfl)
  change wpList _ _ _ _ _ w.drew
  go_wp2_with (fail)
  refine (hdo 1).mono ?_
  rintro e w1 ⟨rfl, hQ⟩
  go_wp2_with (fail)
  go_end0
  exact ⟨rfl, hQ⟩
theorem of_free (h1 : w.cell? ⟨x, 1, none⟩ = some (.int .i64 4)) (h2 : w.cell? ⟨x, 2, none⟩ = some (.int .i64 6)) (k : Nat) (hk : k < 6) (p0 p1 p2 : Value) (Q : World → Prop)
    (hdo : ∀ n, Calls Try.prog 42 #[.int .i64 ((4 + 2 * k : Nat) : Int), .int .i64 ((5 + 2 * k : Nat) : Int), p0, p1, p2] (w.drewN n) fun e w' => e = .returned (.tuple #[]) ∧ Q w') :
    Calls Try.prog 41 #[.pointer (some ⟨x, 0, none⟩), .int .i64 (k : Int), .func (.func 42) #[] #[p0, p1, p2]] w fun e w' => e = .returned (.tuple #[]) ∧ Q w' := by
  have k0 : (0 : Int) ≤ (k : Int) := by omega
  have k1 : (k : Int) < 6 := by omega
  have q1 : IntKind.i64.wrap (2 * (k : Int)) = 2 * (k : Int) := IntWalk.i64_in _ (by omega)
  have q2 : IntKind.i64.wrap (4 + 2 * (k : Int)) = ((4 + 2 * k : Nat) : Int) := by rw [IntWalk.i64_in _ (by omega)]; omega
  have q3 : IntKind.i64.wrap (((4 + 2 * k : Nat) : Int) + 1) = ((5 + 2 * k : Nat) : Int) := by rw [IntWalk.i64_in _ (by omega)]; omega
  generalize 4 + 2 * k = a at *
  generalize 5 + 2 * k = b at *
  go_enter Try.func41, Try.ntmps41
  go_wp2_with (fail)
  go_still_tail 16, (by kernel_rfl)
  change wpList _ _ _ _ _ w.drew
  go_wp2_with (fail)
  refine (hdo 1).mono ?_
  rintro e w1 ⟨rfl, hQ⟩
  go_wp2_with (fail)
  go_end0
  exact ⟨rfl, hQ⟩
theorem of_waiting (h1 : w.cell? ⟨x, 1, none⟩ = some (.int .i64 4)) (h2 : w.cell? ⟨x, 2, none⟩ = some (.int .i64 6)) (k : Nat) (hk : k < 6) (p0 p1 : Value) (Q : World → Prop)
    (hdo : ∀ n, Calls Try.prog 52 #[.int .i64 ((4 + 2 * k : Nat) : Int), .int .i64 ((5 + 2 * k : Nat) : Int), p0, p1] (w.drewN n) fun e w' => e = .returned (.tuple #[]) ∧ Q w') :
    Calls Try.prog 41 #[.pointer (some ⟨x, 0, none⟩), .int .i64 (k : Int), .func (.func 52) #[] #[p0, p1]] w fun e w' => e = .returned (.tuple #[]) ∧ Q w' := by
  have k0 : (0 : Int) ≤ (k : Int) := by omega
  have k1 : (k : Int) < 6 := by omega
  have q1 : IntKind.i64.wrap (2 * (k : Int)) = 2 * (k : Int) := IntWalk.i64_in _ (by omega)
  have q2 : IntKind.i64.wrap (4 + 2 * (k : Int)) = ((4 + 2 * k : Nat) : Int) := by rw [IntWalk.i64_in _ (by omega)]; omega
  have q3 : IntKind.i64.wrap (((4 + 2 * k : Nat) : Int) + 1) = ((5 + 2 * k : Nat) : Int) := by rw [IntWalk.i64_in _ (by omega)]; omega
  generalize 4 + 2 * k = a at *
  generalize 5 + 2 * k = b at *
  go_enter Try.func41, Try.ntmps41
  go_wp2_with (fail)
  go_still_tail 16, (by kernel_rfl)
  change wpList _ _ _ _ _ w.drew
  go_wp2_with (fail)
  refine (hdo 1).mono ?_
  rintro e w1 ⟨rfl, hQ⟩
  go_wp2_with (fail)
  go_end0
  exact ⟨rfl, hQ⟩
end
end Go.Proofs.Ytabcodjalacdjab.TicketCode
