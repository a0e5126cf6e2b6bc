
/- ticket: Waiting, Free. -/
import Derived.Test.YtabcodjalacdjabTicketOps
namespace Go.Proofs.Ytabcodjalacdjab.TicketCode
open Go Go.RowKit Go.Proofs.Ytabcodjalacdjab.Obj Go.Proofs.Ytabcodjalacdjab.Row Go.Proofs.Ytabcodjalacdjab.CellCode Go.Proofs.YtabcodjalacdjabW.PrintWords Go.Proofs.YtabcodjalacdjabW.PrintMore
set_option linter.unusedVariables false
set_option maxRecDepth 100000
section
variable {w w' : World} {x c lb : Nat} {L : List Nat} {N : Nat}
/-- How many wait: two counters' difference. -/
def waitV (a b : Nat) : Int := ((a : Int) - (b : Int)) % 65536
set_option maxHeartbeats 1000000 in
theorem waiting1_at {W : World} (T : TAt W x c lb L N) (hs : Sm L N) (i j : Nat) (hi : i < 20) (hj : j < 20) (b1 b3 : Nat) (y : Value) (B1 : Blk W b1 25 [.pointer (some ⟨x, 0, none⟩)]) (B3 : Blk W b3 3 [y]) :
    Calls Try.prog 52 #[.int .i64 (i : Int), .int .i64 (j : Int), .pointer (some ⟨b1, 0, none⟩), .pointer (some ⟨b3, 0, none⟩)] W fun e W' => e = .returned (.tuple #[]) ∧ TAt W' x c lb L N ∧ Blk W' b3 3 [.int .i64 (waitV (L.getD i 0) (L.getD j 0))] ∧ Only (fun k => k = b3) W W' := by
  have hil : i < L.length := by rw [T.len]; exact hi
  have hjl : j < L.length := by rw [T.len]; exact hj
  have hPi := fun n => peek_at (T.drewN n).cells i hil
  have hPj := fun n => peek_at (T.drewN n).cells j hjl
  have hx : L.getD i 0 = L[i] := by rw [List.getD_eq_getElem?_getD, List.getElem?_eq_getElem hil]; rfl
  have hy : L.getD j 0 = L[j] := by rw [List.getD_eq_getElem?_getD, List.getElem?_eq_getElem hjl]; rfl
  have b1' := hs.2 L[i] (List.getElem_mem hil)
  have b2' := hs.2 L[j] (List.getElem_mem hjl)
  have hN := hs.1
  rw [hx, hy]
  have z0 : W.cell? ⟨b1, 0, none⟩ = some (.pointer (some ⟨x, 0, none⟩)) := B1.cell 0
  have z1 : W.cell? ⟨x, 0, none⟩ = some (.pointer (some ⟨c, 0, none⟩)) := T.obj.cell 0
  have z2 : W.cell? ⟨b3, 0, none⟩ = some y := B3.cell 0
  have z3 := B3.frozen 0
  have n1 : b3 ≠ c := CellCode.blk_ne B3 T.cells.obj (by decide)
  have n2 : b3 ≠ lb := CellCode.blk_ne B3 T.cells.row (by decide)
  have n3 : b3 ≠ x := CellCode.blk_ne B3 T.obj (by decide)
  have hfin := hid (show ∀ n v, TAt ((W.drewN n).setCell ⟨b3, 0, none⟩ v) x c lb L N ∧ Blk ((W.drewN n).setCell ⟨b3, 0, none⟩ v) b3 3 [v] ∧ Only (fun k => k = b3) W ((W.drewN n).setCell ⟨b3, 0, none⟩ v) from fun n v =>
    ⟨⟨⟨(T.drewN n).cells.obj.set_other _ _ (Ne.symm n1), (T.drewN n).cells.row.set_other _ _ (Ne.symm n2)⟩, (T.drewN n).obj.set_other _ _ (Ne.symm n3), T.len⟩, (show Blk (W.drewN n) b3 3 [y] from B3).set 0 v, (Only.drewN _ W n).trans (Only.setCell _ _ _ rfl)⟩)
  have q1 : IntKind.u64.wrap ((L[i] : Int) - (L[j] : Int)) = ((L[i] : Int) - (L[j] : Int)) % 18446744073709551616 := by simp [IntKind.wrap, IntKind.bits, IntKind.signed]
  have q2 : ∀ z : Int, IntKind.u16.wrap z = z % 65536 := fun z => by simp [IntKind.wrap, IntKind.bits, IntKind.signed]
  have q3 : ((L[i] : Int) - (L[j] : Int)) % 18446744073709551616 % 65536 = waitV L[i] L[j] := by unfold waitV; omega
  have q4 : IntKind.i64.wrap (waitV L[i] L[j]) = waitV L[i] L[j] := IntWalk.i64_in _ (by unfold waitV; omega)
  have q5 : IntKind.u16.wrap (((L[i] : Int) - (L[j] : Int)) % 18446744073709551616) = waitV L[i] L[j] := by rw [q2, q3]
  clear q2 q3
  clear hx hy T hs B1 B3 n1 n2 n3 b1' b2' hN
  generalize hV : waitV L[i] L[j] = V at *
  generalize L[i] = p at *
  generalize L[j] = q at *
  clear hV hil hjl
  go_enter Try.func52, Try.ntmps52
  go_wp2_with (fail)
  go_still_tail 15, (by kernel_rfl)
  still_call (hPi 1)
  repeat still_step
  still_call (hPj 1)
  repeat still_step
  refine wpStill_nil ?_
  go_wp2_with (fail)
  go_end0
  exact ⟨rfl, hfin.out 1 _⟩
theorem waiting_at (T : TAt w x c lb L N) (hs : Sm L N) (k : Nat) (hk : k < 6) :
    Calls Try.prog 43 #[.pointer (some ⟨x, 0, none⟩), .int .i64 (k : Int)] w fun e w' => e = .returned (.int .i64 (waitV (L.getD (4 + 2 * k) 0) (L.getD (5 + 2 * k) 0))) ∧ Below w.heap.size w w' := by
  obtain ⟨W2, hW2⟩ : ∃ W2, W2 = (w.alloc (.cells #[.pointer (some ⟨x, 0, none⟩)] 25)).alloc (.cells #[.int .i64 0] 3) := ⟨_, rfl⟩
  have T2 : TAt W2 x c lb L N := by rw [hW2]; exact (T.alloc _).alloc _
  have B1 : Blk W2 w.heap.size 25 [.pointer (some ⟨x, 0, none⟩)] := by rw [hW2]; exact (Blk.new w _ _).alloc _
  have B2 : Blk W2 (w.heap.size + 1) 3 [.int .i64 0] := by
    have := Blk.new (w.alloc (.cells #[.pointer (some ⟨x, 0, none⟩)] 25)) 3 [.int .i64 0]
    rw [World.size_alloc] at this
    rw [hW2]; exact this
  have o2 : Below w.heap.size w W2 := by rw [hW2]; exact ((Below.refl _ w).alloc (Nat.le_refl _) _).alloc (by simp) _
  have hO := of_waiting (w := W2) (T2.obj.cell 1) (T2.obj.cell 2) k hk (.pointer (some ⟨w.heap.size, 0, none⟩)) (.pointer (some ⟨w.heap.size + 1, 0, none⟩)) (fun W' => TAt W' x c lb L N ∧ Blk W' (w.heap.size + 1) 3 [.int .i64 (waitV (L.getD (4 + 2 * k) 0) (L.getD (5 + 2 * k) 0))] ∧ Only (fun k => k = w.heap.size + 1) W2 W')
    (fun n => (waiting1_at (T2.drewN n) hs (4 + 2 * k) (5 + 2 * k) (by omega) (by omega) w.heap.size (w.heap.size + 1) (.int .i64 0) B1 B2).mono (fun e W' ⟨h0, h1, h2, h3⟩ => ⟨h0, h1, h2, (Only.drewN _ W2 n).trans h3⟩))
  have c1' : ((w.alloc (.cells #[.pointer (some ⟨x, 0, none⟩)] 25)).alloc (.cells #[.int .i64 0] 3)).cell? ⟨w.heap.size, 0, none⟩ = some (.pointer (some ⟨x, 0, none⟩)) := by rw [← hW2]; exact B1.cell 0
  have hup := hid (show ∀ W, Only (fun k => k = w.heap.size + 1) W2 W → Below w.heap.size w W from fun W o => o.below o2 o2.size (fun k _ hh => by omega))
  generalize waitV (L.getD (4 + 2 * k) 0) (L.getD (5 + 2 * k) 0) = u at *
  clear T2 B1 B2 o2 T hs
  go_enter Try.func43, Try.ntmps43
  go_wp2_with (fail)
  rw [← hW2]
  refine hO.mono ?_
  rintro e w3 ⟨rfl, T3, B3, o3⟩
  have o4 := hid (hup.out _ (o3.trans (Only.setCell (S := fun k => k = w.heap.size + 1) w3 ⟨w.heap.size + 1, 0, none⟩ (.int .i64 u) rfl)))
  have c3 : w3.cell? ⟨w.heap.size + 1, 0, none⟩ = some (.int .i64 u) := B3.cell 0
  have f3 := B3.frozen 0
  clear hO o3 hup c1'
  go_wp2_with (fail)
  have B5 := B3.set 0 (.int .i64 u)
  have c5 : (w3.setCell ⟨w.heap.size + 1, 0, none⟩ (.int .i64 u)).cell? ⟨w.heap.size + 1, 0, none⟩ = some (.int .i64 u) := B5.cell 0
  refine bodyPost_ret (v := .int .i64 u) (by simp [results, Try.f43, go_sem, c5]) rfl ?_
  exact ⟨rfl, o4.out⟩
theorem free1_at {W : World} (T : TAt W x c lb L N) (hs : Sm L N) (k : Nat) (hk : k < 6) (i j : Nat) (b1 b2 b3 : Nat) (y : Value) (B1 : Blk W b1 25 [.pointer (some ⟨x, 0, none⟩)]) (B2 : Blk W b2 3 [.int .i64 (k : Int)]) (B3 : Blk W b3 4 [y]) :
    Calls Try.prog 42 #[.int .i64 (i : Int), .int .i64 (j : Int), .pointer (some ⟨b1, 0, none⟩), .pointer (some ⟨b2, 0, none⟩), .pointer (some ⟨b3, 0, none⟩)] W fun e W' => e = .returned (.tuple #[]) ∧ Blk W' b3 4 [.bool (waitV (L.getD (4 + 2 * k) 0) (L.getD (5 + 2 * k) 0) == 0)] ∧ Only (fun k => k = b3) W W' := by
  have hW := waiting_at T hs k hk
  have z1 : W.cell? ⟨b1, 0, none⟩ = some (.pointer (some ⟨x, 0, none⟩)) := B1.cell 0
  have z2 : W.cell? ⟨b2, 0, none⟩ = some (.int .i64 (k : Int)) := B2.cell 0
  have hfin := hid (show ∀ w3, Below W.heap.size W w3 → w3.cell? ⟨b3, 0, none⟩ = some y ∧ w3.frozen? ⟨b3, 0, none⟩ = false ∧ ∀ v, Blk (w3.setCell ⟨b3, 0, none⟩ v) b3 4 [v] ∧ Only (fun k => k = b3) W (w3.setCell ⟨b3, 0, none⟩ v) from fun w3 hb => by
    have B := B3.same (hb.block _ B3.lt)
    exact ⟨B.cell 0, B.frozen 0, fun v => ⟨B.set 0 v, ((Only.none_of_below hb).mono (fun k _ hk => hk.elim)).trans (Only.setCell _ _ _ rfl)⟩⟩)
  generalize waitV (L.getD (4 + 2 * k) 0) (L.getD (5 + 2 * k) 0) = u at *
  clear T hs B1 B2 B3
  go_enter Try.func42, Try.ntmps42
  go_wp2_with (fail)
  refine hW.mono ?_
  rintro e w3 ⟨rfl, hb⟩
  obtain ⟨c3, f3, h3⟩ := hfin.out _ hb
  have h3 := hid h3
  clear hb hW hfin
  go_wp2_with (fail)
  go_end0
  exact ⟨rfl, h3.out _⟩
theorem free_at (T : TAt w x c lb L N) (hs : Sm L N) (k : Nat) (hk : k < 6) :
    Calls Try.prog 24 #[.pointer (some ⟨x, 0, none⟩), .int .i64 (k : Int)] w fun e w' => e = .returned (.bool (waitV (L.getD (4 + 2 * k) 0) (L.getD (5 + 2 * k) 0) == 0)) ∧ Below w.heap.size w w' := by
  obtain ⟨W2, hW2⟩ : ∃ W2, W2 = ((w.alloc (.cells #[.pointer (some ⟨x, 0, none⟩)] 25)).alloc (.cells #[.int .i64 (k : Int)] 3)).alloc (.cells #[.bool false] 4) := ⟨_, rfl⟩
  have T2 : TAt W2 x c lb L N := by rw [hW2]; exact ((T.alloc _).alloc _).alloc _
  have B1 : Blk W2 w.heap.size 25 [.pointer (some ⟨x, 0, none⟩)] := by rw [hW2]; exact ((Blk.new w _ _).alloc _).alloc _
  have B2 : Blk W2 (w.heap.size + 1) 3 [.int .i64 (k : Int)] := by
    have := Blk.new (w.alloc (.cells #[.pointer (some ⟨x, 0, none⟩)] 25)) 3 [.int .i64 (k : Int)]
    rw [World.size_alloc] at this
    rw [hW2]; exact this.alloc _
  have B3 : Blk W2 (w.heap.size + 1 + 1) 4 [.bool false] := by
    have := Blk.new ((w.alloc (.cells #[.pointer (some ⟨x, 0, none⟩)] 25)).alloc (.cells #[.int .i64 (k : Int)] 3)) 4 [.bool false]
    rw [World.size_alloc, World.size_alloc] at this
    rw [hW2]; exact this
  have o2 : Below w.heap.size w W2 := by rw [hW2]; exact (((Below.refl _ w).alloc (Nat.le_refl _) _).alloc (by simp) _).alloc (by simp; omega) _
  have hO := of_free (w := W2) (T2.obj.cell 1) (T2.obj.cell 2) k hk (.pointer (some ⟨w.heap.size, 0, none⟩)) (.pointer (some ⟨w.heap.size + 1, 0, none⟩)) (.pointer (some ⟨w.heap.size + 1 + 1, 0, none⟩)) (fun W' => Blk W' (w.heap.size + 1 + 1) 4 [.bool (waitV (L.getD (4 + 2 * k) 0) (L.getD (5 + 2 * k) 0) == 0)] ∧ Only (fun k => k = w.heap.size + 1 + 1) W2 W')
    (fun n => (free1_at (T2.drewN n) hs k hk (4 + 2 * k) (5 + 2 * k) w.heap.size (w.heap.size + 1) (w.heap.size + 1 + 1) (.bool false) B1 B2 B3).mono (fun e W' ⟨h0, h2, h3⟩ => ⟨h0, h2, (Only.drewN _ W2 n).trans h3⟩))
  have c1' : (((w.alloc (.cells #[.pointer (some ⟨x, 0, none⟩)] 25)).alloc (.cells #[.int .i64 (k : Int)] 3)).alloc (.cells #[.bool false] 4)).cell? ⟨w.heap.size, 0, none⟩ = some (.pointer (some ⟨x, 0, none⟩)) := by rw [← hW2]; exact B1.cell 0
  have c2' : (((w.alloc (.cells #[.pointer (some ⟨x, 0, none⟩)] 25)).alloc (.cells #[.int .i64 (k : Int)] 3)).alloc (.cells #[.bool false] 4)).cell? ⟨w.heap.size + 1, 0, none⟩ = some (.int .i64 (k : Int)) := by rw [← hW2]; exact B2.cell 0
  have hup := hid (show ∀ W, Only (fun k => k = w.heap.size + 1 + 1) W2 W → Below w.heap.size w W from fun W o => o.below o2 o2.size (fun k _ hh => by omega))
  generalize (waitV (L.getD (4 + 2 * k) 0) (L.getD (5 + 2 * k) 0) == 0) = u at *
  clear T2 B1 B2 B3 o2 T hs
  go_enter Try.func24, Try.ntmps24
  go_wp2_with (fail)
  rw [← hW2]
  refine hO.mono ?_
  rintro e w3 ⟨rfl, B3, o3⟩
  have o4 := hid (hup.out _ (o3.trans (Only.setCell (S := fun k => k = w.heap.size + 1 + 1) w3 ⟨w.heap.size + 1 + 1, 0, none⟩ (.bool u) rfl)))
  have c3 : w3.cell? ⟨w.heap.size + 1 + 1, 0, none⟩ = some (.bool u) := B3.cell 0
  have f3 := B3.frozen 0
  clear hO o3 hup c1' c2'
  go_wp2_with (fail)
  have B5 := B3.set 0 (.bool u)
  have c5 : (w3.setCell ⟨w.heap.size + 1 + 1, 0, none⟩ (.bool u)).cell? ⟨w.heap.size + 1 + 1, 0, none⟩ = some (.bool u) := B5.cell 0
  refine bodyPost_ret (v := .bool u) (by simp [results, Try.f24, go_sem, c5]) rfl ?_
  exact ⟨rfl, o4.out⟩
end
end Go.Proofs.Ytabcodjalacdjab.TicketCode
