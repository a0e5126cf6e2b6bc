
/- ticket: Draw, Mine, Give, Free. -/
import Derived.Test.YtabcodjalacdjabTicket
namespace Go.Proofs.Ytabcodjalacdjab.TicketCode
open Go Go.RowKit Go.Proofs.Ytabcodjalacdjab.Obj Go.Proofs.Ytabcodjalacdjab.Row Go.Proofs.Ytabcodjalacdjab.CellCode Go.Proofs.YtabcodjalacdjabW.PrintWords Go.Proofs.YtabcodjalacdjabW.PrintMore
set_option linter.unusedVariables false
set_option maxRecDepth 100000
section
variable {w w' : World} {x c lb : Nat} {L : List Nat} {N : Nat}
/-- No number is above how many accesses there were. -/
def Sm (L : List Nat) (N : Nat) : Prop := N < 1000000000 ∧ ∀ y ∈ L, y ≤ N
theorem Sm.add {i : Nat} (h : Sm L N) (hi : i < L.length) (hN : N + 1 < 1000000000) : Sm (addL L i) (N + 1) := by
  refine ⟨hN, fun y hy => ?_⟩
  rcases List.mem_or_eq_of_mem_set hy with h1 | h1
  · have := h.2 y h1; omega
  · have := h.2 L[i] (List.getElem_mem hi)
    rw [h1, List.getD_eq_getElem?_getD, List.getElem?_eq_getElem hi]
    simp only [Option.getD_some]
    omega
theorem TAt.drewN (h : TAt w x c lb L N) (n : Nat) : TAt (w.drewN n) x c lb L N := ⟨⟨h.cells.obj, h.cells.row⟩, h.obj, h.len⟩
theorem draw1_at {W : World} (T : TAt W x c lb L N) (hs : Sm L N) (i j : Nat) (hi : i < 20) (b1 b2 : Nat) (y : Value) (B1 : Blk W b1 25 [.pointer (some ⟨x, 0, none⟩)]) (B2 : Blk W b2 56 [y]) :
    Calls Try.prog 47 #[.int .i64 (i : Int), .int .i64 (j : Int), .pointer (some ⟨b1, 0, none⟩), .pointer (some ⟨b2, 0, none⟩)] W fun e W' => e = .returned (.tuple #[]) ∧ TAt W' x c lb (addL L i) (N + 1) ∧ Blk W' b2 56 [.int .u16 (((L.getD i 0) % 65536 : Nat) : Int)] ∧ Only (fun k => k = c ∨ k = lb ∨ k = b2) W W' := by
  have hil : i < L.length := by rw [T.len]; exact hi
  have hA := add_at T.cells i hil (by have := hs.1; omega) (by have := hs.2 L[i] (List.getElem_mem hil); have := hs.1; omega)
  have hx : L.getD i 0 = L[i] := by rw [List.getD_eq_getElem?_getD, List.getElem?_eq_getElem hil]; rfl
  rw [hx]
  have x0 : W.cell? ⟨x, 0, none⟩ = some (.pointer (some ⟨c, 0, none⟩)) := T.obj.cell 0
  have c1 : W.cell? ⟨b1, 0, none⟩ = some (.pointer (some ⟨x, 0, none⟩)) := B1.cell 0
  have n1 : b2 ≠ c := CellCode.blk_ne B2 T.cells.obj (by decide)
  have n2 : b2 ≠ lb := CellCode.blk_ne B2 T.cells.row (by decide)
  have n3 : b2 ≠ x := CellCode.blk_ne B2 T.obj (by decide)
  have nxc := T.nc
  have nxl := T.nl
  have hq : IntKind.u16.wrap (L[i] : Int) = ((L[i] % 65536 : Nat) : Int) := by
    have e : IntKind.u16.wrap (L[i] : Int) = (L[i] : Int) % 65536 := by simp [IntKind.wrap, IntKind.bits, IntKind.signed]
    rw [e]; simp
  have hfin := hid (show ∀ W', CAt W' c lb (addL L i) (N + 1) → Only (fun k => k = c ∨ k = lb) W W' → Blk W' b2 56 [y] ∧ TAt (W'.setCell ⟨b2, 0, none⟩ (.int .u16 ((L[i] % 65536 : Nat) : Int))) x c lb (addL L i) (N + 1) ∧ Blk (W'.setCell ⟨b2, 0, none⟩ (.int .u16 ((L[i] % 65536 : Nat) : Int))) b2 56 [.int .u16 ((L[i] % 65536 : Nat) : Int)] ∧ Only (fun k => k = c ∨ k = lb ∨ k = b2) W (W'.setCell ⟨b2, 0, none⟩ (.int .u16 ((L[i] % 65536 : Nat) : Int))) from fun W' h o => by
    have B' := B2.only o (by omega)
    have O' := T.obj.only o (by omega)
    refine ⟨B', ⟨⟨h.obj.set_other _ _ (Ne.symm n1), h.row.set_other _ _ (Ne.symm n2)⟩, O'.set_other _ _ (Ne.symm n3), ?_⟩, B'.set 0 _, ?_⟩
    · rw [show (addL L i).length = L.length from List.length_set]; exact T.len
    · exact (o.mono (fun k _ h => by rcases h with h | h; exact .inl h; exact .inr (.inl h))).trans (Only.setCell _ _ _ (.inr (.inr rfl))))
  clear hx n1 n2 n3 nxc nxl B1 B2
  generalize L[i] = v at *
  clear T hs hil
  generalize v % 65536 = u at *
  go_enter Try.func47, Try.ntmps47
  go_wp2_with (fail)
  refine hA.mono ?_
  rintro e w3 ⟨rfl, h1, o1⟩
  obtain ⟨B', T', B'', o''⟩ := hfin.out w3 h1 o1
  have c2 : w3.cell? ⟨b2, 0, none⟩ = some y := B'.cell 0
  have f2 := B'.frozen 0
  clear hfin h1 o1 hA
  go_wp2_with (fail)
  go_end0
  exact ⟨rfl, T', B'', o''⟩
theorem draw_at (T : TAt w x c lb L N) (hs : Sm L N) (k : Nat) (hk : k < 6) :
    Calls Try.prog 33 #[.pointer (some ⟨x, 0, none⟩), .int .i64 (k : Int)] w fun e w' => e = .returned (.int .u16 (((L.getD (4 + 2 * k) 0) % 65536 : Nat) : Int)) ∧ TAt w' x c lb (addL L (4 + 2 * k)) (N + 1) ∧ Only (fun k => k = c ∨ k = lb) w w' := by
  obtain ⟨W2, hW2⟩ : ∃ W2, W2 = (w.alloc (.cells #[.pointer (some ⟨x, 0, none⟩)] 25)).alloc (.cells #[.int .u16 0] 56) := ⟨_, rfl⟩
  have T2 : TAt W2 x c lb L N := by rw [hW2]; exact (T.alloc _).alloc _
  have B1 : Blk W2 w.heap.size 25 [.pointer (some ⟨x, 0, none⟩)] := by rw [hW2]; exact (Blk.new w _ _).alloc _
  have B2 : Blk W2 (w.heap.size + 1) 56 [.int .u16 0] := by
    have := Blk.new (w.alloc (.cells #[.pointer (some ⟨x, 0, none⟩)] 25)) 56 [.int .u16 0]
    rw [World.size_alloc] at this
    rw [hW2]; exact this
  have o2 : Only (fun k => k = c ∨ k = lb) w W2 := by rw [hW2]; exact (Only.alloc _ _ _).trans (Only.alloc _ _ _)
  have hO := of_draw (w := W2) (T2.obj.cell 1) (T2.obj.cell 2) k hk (.pointer (some ⟨w.heap.size, 0, none⟩)) (.pointer (some ⟨w.heap.size + 1, 0, none⟩)) (fun W' => TAt W' x c lb (addL L (4 + 2 * k)) (N + 1) ∧ Blk W' (w.heap.size + 1) 56 [.int .u16 (((L.getD (4 + 2 * k) 0) % 65536 : Nat) : Int)] ∧ Only (fun k => k = c ∨ k = lb ∨ k = w.heap.size + 1) W2 W')
    (fun n => (draw1_at (T2.drewN n) hs (4 + 2 * k) (5 + 2 * k) (by omega) w.heap.size (w.heap.size + 1) (.int .u16 0) B1 B2).mono (fun e W' ⟨h0, h1, h2, h3⟩ => ⟨h0, h1, h2, (Only.drewN _ W2 n).trans h3⟩))
  have c1 : W2.cell? ⟨w.heap.size, 0, none⟩ = some (.pointer (some ⟨x, 0, none⟩)) := B1.cell 0
  have c1' : ((w.alloc (.cells #[.pointer (some ⟨x, 0, none⟩)] 25)).alloc (.cells #[.int .u16 0] 56)).cell? ⟨w.heap.size, 0, none⟩ = some (.pointer (some ⟨x, 0, none⟩)) := by rw [← hW2]; exact c1
  have hup := hid (show ∀ W, Only (fun k => k = c ∨ k = lb ∨ k = w.heap.size + 1) W2 W → Only (fun k => k = c ∨ k = lb) w W from fun W o => o2.trans' o (fun k hk hh => by rcases hh with hh | hh | hh; exact .inl hh; exact .inr hh; omega))
  have hne := hid (show c ≠ w.heap.size + 1 ∧ lb ≠ w.heap.size + 1 ∧ x ≠ w.heap.size + 1 from ⟨Nat.ne_of_lt (Nat.lt_succ_of_lt T.cells.obj.lt), Nat.ne_of_lt (Nat.lt_succ_of_lt T.cells.row.lt), Nat.ne_of_lt (Nat.lt_succ_of_lt T.obj.lt)⟩)
  clear T2 B1 B2 o2 c1 T hs
  go_enter Try.func33, Try.ntmps33
  go_wp2_with (fail)
  rw [← hW2]
  refine hO.mono ?_
  rintro e w3 ⟨rfl, T3, B3, o3⟩
  have o4 := hup.out _ o3
  have c3 : w3.cell? ⟨w.heap.size + 1, 0, none⟩ = some (.int .u16 (((L.getD (4 + 2 * k) 0) % 65536 : Nat) : Int)) := B3.cell 0
  have f3 := B3.frozen 0
  clear hO o3 hup c1'
  generalize hu : L.getD (4 + 2 * k) 0 % 65536 = u at *
  have huH := hid hu
  clear hu
  go_wp2_with (fail)
  have B5 := B3.set 0 (.int .u16 (u : Int))
  have c5 : (w3.setCell ⟨w.heap.size + 1, 0, none⟩ (.int .u16 (u : Int))).cell? ⟨w.heap.size + 1, 0, none⟩ = some (.int .u16 (u : Int)) := B5.cell 0
  obtain ⟨n1, n2, n3⟩ := hne.out
  refine bodyPost_ret (v := .int .u16 (u : Int)) (by simp [results, Try.f33, go_sem, c5]) rfl ?_
  refine ⟨by rw [huH.out], ⟨⟨T3.cells.obj.set_other _ _ n1, T3.cells.row.set_other _ _ n2⟩, T3.obj.set_other _ _ n3, T3.len⟩, ?_⟩
  exact o4.trans' (Only.setCell (S := fun k => k = w.heap.size + 1) w3 ⟨w.heap.size + 1, 0, none⟩ _ rfl) (fun k hk hh => by omega)
theorem TAt.setNew {b : Nat} {v : Value} (T : TAt w x c lb L N) (h1 : c ≠ b) (h2 : lb ≠ b) (h3 : x ≠ b) : TAt (w.setCell ⟨b, 0, none⟩ v) x c lb L N := ⟨⟨T.cells.obj.set_other _ _ h1, T.cells.row.set_other _ _ h2⟩, T.obj.set_other _ _ h3, T.len⟩
theorem on3_drew {S : Nat → Prop} {w w' : World} (h : Only S w w') : Only S w w'.drew := h.trans (Only.drew _ _)
theorem on3_drewN {S : Nat → Prop} {w w' : World} {n : Nat} (h : Only S w w') : Only S w (w'.drewN n) := h.trans (Only.drewN _ _ _)
theorem on3_set {b : Nat} {v : Value} {w w' : World} (h : Only (fun k => k = c ∨ k = lb ∨ k = b) w w') : Only (fun k => k = c ∨ k = lb ∨ k = b) w (w'.setCell ⟨b, 0, none⟩ v) := h.trans (Only.setCell _ _ _ (.inr (.inr rfl)))
set_option maxHeartbeats 1000000 in
theorem mine1_at {W : World} (T : TAt W x c lb L N) (hs : Sm L N) (i j : Nat) (hj : j < 20) (t b1 b2 b3 : Nat) (y : Value) (B1 : Blk W b1 25 [.pointer (some ⟨x, 0, none⟩)]) (B2 : Blk W b2 56 [.int .u16 (t : Int)]) (B3 : Blk W b3 4 [y]) :
    Calls Try.prog 48 #[.int .i64 (i : Int), .int .i64 (j : Int), .pointer (some ⟨b1, 0, none⟩), .pointer (some ⟨b2, 0, none⟩), .pointer (some ⟨b3, 0, none⟩)] W fun e W' => e = .returned (.tuple #[]) ∧ TAt W' x c lb L (N + 1) ∧ Blk W' b3 4 [.bool (decide (L.getD j 0 % 65536 = t))] ∧ Only (fun k => k = c ∨ k = lb ∨ k = b3) W W' := by
  have hjl : j < L.length := by rw [T.len]; exact hj
  have hR := fun (W' : World) (T' : TAt W' x c lb L N) => read_at T'.cells j hjl (by have := hs.1; omega)
  have hx : L.getD j 0 = L[j] := by rw [List.getD_eq_getElem?_getD, List.getElem?_eq_getElem hjl]; rfl
  rw [hx]
  have n1 : b3 ≠ c := CellCode.blk_ne B3 T.cells.obj (by decide)
  have n2 : b3 ≠ lb := CellCode.blk_ne B3 T.cells.row (by decide)
  have n3 : b3 ≠ x := CellCode.blk_ne B3 T.obj (by decide)
  have n4 : b1 ≠ c := CellCode.blk_ne B1 T.cells.obj (by decide)
  have n5 : b1 ≠ lb := CellCode.blk_ne B1 T.cells.row (by decide)
  have n6 : b1 ≠ b3 := CellCode.blk_ne B1 B3 (by decide)
  have n7 : b2 ≠ c := CellCode.blk_ne B2 T.cells.obj (by decide)
  have n8 : b2 ≠ lb := CellCode.blk_ne B2 T.cells.row (by decide)
  have n9 : b2 ≠ b3 := CellCode.blk_ne B2 B3 (by decide)
  have nxc := T.nc
  have nxl := T.nl
  have hq : IntKind.u16.wrap (L[j] : Int) = ((L[j] % 65536 : Nat) : Int) := by
    have e : IntKind.u16.wrap (L[j] : Int) = (L[j] : Int) % 65536 := by simp [IntKind.wrap, IntKind.bits, IntKind.signed]
    rw [e]; simp
  have hall := hid (show ∀ W', Only (fun k => k = c ∨ k = lb ∨ k = b3) W W' → W'.cell? ⟨b1, 0, none⟩ = some (.pointer (some ⟨x, 0, none⟩)) ∧ W'.cell? ⟨x, 0, none⟩ = some (.pointer (some ⟨c, 0, none⟩)) ∧ W'.cell? ⟨b2, 0, none⟩ = some (.int .u16 (t : Int)) from fun W' o =>
    ⟨(B1.only o (by omega)).cell 0, (T.obj.only o (by omega)).cell 0, (B2.only o (by omega)).cell 0⟩)
  have hO0 := Only.refl (fun k => k = c ∨ k = lb ∨ k = b3) W
  have hfin := hid (show ∀ W', CAt W' c lb L (N + 1) → Only (fun k => k = c ∨ k = lb) W W' → Only (fun k => k = c ∨ k = lb ∨ k = b3) W W' ∧ Blk W' b3 4 [y] ∧ TAt W' x c lb L (N + 1) from fun W' h o =>
    ⟨o.mono (fun k _ h => by rcases h with h | h; exact .inl h; exact .inr (.inl h)), B3.only o (by omega), ⟨h, T.obj.only o (by omega), T.len⟩⟩)
  have hne := hid (And.intro n1 (And.intro n2 n3))
  have hbb : ∀ v : Nat, ((v : Int) % 65536 == (t : Int)) = decide (v % 65536 = t) := fun v => by rw [Bool.eq_iff_iff, beq_iff_eq, decide_eq_true_eq]; omega
  have hbbH := hid hbb
  obtain ⟨z0, z1, z2⟩ := hall.out W hO0
  have hR0 := fun n => hR (W.drewN n) (T.drewN n)
  clear hx B1 B2 B3 n1 n2 n3 n4 n5 n6 n7 n8 n9 nxc nxl hbb hR
  generalize L[j] = v at *
  clear T hs hjl
  go_enter Try.func48, Try.ntmps48
  go_wp2_with (fail)
  go_region_held3 (fun W' : World => W'.cell? ⟨b1, 0, none⟩ = some (.pointer (some ⟨x, 0, none⟩)) ∧ W'.cell? ⟨x, 0, none⟩ = some (.pointer (some ⟨c, 0, none⟩)) ∧ W'.cell? ⟨b2, 0, none⟩ = some (.int .u16 (t : Int))) (first | (refine ⟨?_, ?_, ?_⟩ <;> assumption) | (refine hall.out _ ?_; repeat (first | assumption | apply on3_drew | apply on3_drewN | apply on3_set))) (first
    | (go_at_call 49; refine (hR0 1).mono ?_; rintro e w2 ⟨rfl, h2, o2⟩; obtain ⟨o3, B3', T3⟩ := hfin.out w2 h2 ((Only.drewN _ W 1).trans o2); have c3 : w2.cell? ⟨b3, 0, none⟩ = some y := B3'.cell 0; have f3 := B3'.frozen 0))
  all_goals go_end0
  all_goals rw [hbbH.out]
  all_goals obtain ⟨n1, n2, n3⟩ := hne.out
  all_goals exact ⟨rfl, T3.setNew (Ne.symm n1) (Ne.symm n2) (Ne.symm n3), B3'.set 0 _, on3_set o3⟩
theorem mine_at (T : TAt w x c lb L N) (hs : Sm L N) (k : Nat) (hk : k < 6) (t : Nat) :
    Calls Try.prog 34 #[.pointer (some ⟨x, 0, none⟩), .int .i64 (k : Int), .int .u16 (t : Int)] w fun e w' => e = .returned (.bool (decide (L.getD (5 + 2 * k) 0 % 65536 = t))) ∧ TAt w' x c lb L (N + 1) ∧ Only (fun k => k = c ∨ k = lb) w w' := by
  obtain ⟨W2, hW2⟩ : ∃ W2, W2 = ((w.alloc (.cells #[.pointer (some ⟨x, 0, none⟩)] 25)).alloc (.cells #[.int .u16 (t : Int)] 56)).alloc (.cells #[.bool false] 4) := ⟨_, rfl⟩
  have T2 : TAt W2 x c lb L N := by rw [hW2]; exact ((T.alloc _).alloc _).alloc _
  have B1 : Blk W2 w.heap.size 25 [.pointer (some ⟨x, 0, none⟩)] := by rw [hW2]; exact ((Blk.new w _ _).alloc _).alloc _
  have B2 : Blk W2 (w.heap.size + 1) 56 [.int .u16 (t : Int)] := by
    have := Blk.new (w.alloc (.cells #[.pointer (some ⟨x, 0, none⟩)] 25)) 56 [.int .u16 (t : Int)]
    rw [World.size_alloc] at this
    rw [hW2]; exact this.alloc _
  have B3 : Blk W2 (w.heap.size + 1 + 1) 4 [.bool false] := by
    have := Blk.new ((w.alloc (.cells #[.pointer (some ⟨x, 0, none⟩)] 25)).alloc (.cells #[.int .u16 (t : Int)] 56)) 4 [.bool false]
    rw [World.size_alloc, World.size_alloc] at this
    rw [hW2]; exact this
  have o2 : Only (fun k => k = c ∨ k = lb) w W2 := by rw [hW2]; exact ((Only.alloc _ _ _).trans (Only.alloc _ _ _)).trans (Only.alloc _ _ _)
  have hO := of_mine (w := W2) (T2.obj.cell 1) (T2.obj.cell 2) k hk (.pointer (some ⟨w.heap.size, 0, none⟩)) (.pointer (some ⟨w.heap.size + 1, 0, none⟩)) (.pointer (some ⟨w.heap.size + 1 + 1, 0, none⟩)) (fun W' => TAt W' x c lb L (N + 1) ∧ Blk W' (w.heap.size + 1 + 1) 4 [.bool (decide (L.getD (5 + 2 * k) 0 % 65536 = t))] ∧ Only (fun k => k = c ∨ k = lb ∨ k = w.heap.size + 1 + 1) W2 W')
    (fun n => (mine1_at (T2.drewN n) hs (4 + 2 * k) (5 + 2 * k) (by omega) t w.heap.size (w.heap.size + 1) (w.heap.size + 1 + 1) (.bool false) B1 B2 B3).mono (fun e W' ⟨h0, h1, h2, h3⟩ => ⟨h0, h1, h2, (Only.drewN _ W2 n).trans h3⟩))
  have c1' : (((w.alloc (.cells #[.pointer (some ⟨x, 0, none⟩)] 25)).alloc (.cells #[.int .u16 (t : Int)] 56)).alloc (.cells #[.bool false] 4)).cell? ⟨w.heap.size, 0, none⟩ = some (.pointer (some ⟨x, 0, none⟩)) := by rw [← hW2]; exact B1.cell 0
  have hup := hid (show ∀ W, Only (fun k => k = c ∨ k = lb ∨ k = w.heap.size + 1 + 1) W2 W → Only (fun k => k = c ∨ k = lb) w W from fun W o => o2.trans' o (fun k hk hh => by rcases hh with hh | hh | hh; exact .inl hh; exact .inr hh; omega))
  have hne := hid (show c ≠ w.heap.size + 1 + 1 ∧ lb ≠ w.heap.size + 1 + 1 ∧ x ≠ w.heap.size + 1 + 1 from by have a1 := T.cells.obj.lt; have a2 := T.cells.row.lt; have a3 := T.obj.lt; omega)
  clear T2 B1 B2 B3 o2 T hs
  go_enter Try.func34, Try.ntmps34
  go_wp2_with (fail)
  rw [← hW2]
  refine hO.mono ?_
  rintro e w3 ⟨rfl, T3, B3, o3⟩
  have o4 := hup.out _ o3
  have c3 : w3.cell? ⟨w.heap.size + 1 + 1, 0, none⟩ = some (.bool (decide (L.getD (5 + 2 * k) 0 % 65536 = t))) := B3.cell 0
  have f3 := B3.frozen 0
  clear hO o3 hup c1'
  generalize hu : decide (L.getD (5 + 2 * k) 0 % 65536 = t) = u at *
  have huH := hid hu
  clear hu
  go_wp2_with (fail)
  have B5 := B3.set 0 (.bool u)
  have c5 : (w3.setCell ⟨w.heap.size + 1 + 1, 0, none⟩ (.bool u)).cell? ⟨w.heap.size + 1 + 1, 0, none⟩ = some (.bool u) := B5.cell 0
  obtain ⟨n1, n2, n3⟩ := hne.out
  refine bodyPost_ret (v := .bool u) (by simp [results, Try.f34, go_sem, c5]) rfl ?_
  refine ⟨by rw [huH.out], T3.setNew n1 n2 n3, ?_⟩
  exact o4.trans' (Only.setCell (S := fun k => k = w.heap.size + 1 + 1) w3 ⟨w.heap.size + 1 + 1, 0, none⟩ _ rfl) (fun k hk hh => by omega)
theorem give1_at {W : World} (T : TAt W x c lb L N) (hs : Sm L N) (i j : Nat) (hj : j < 20) (b1 : Nat) (B1 : Blk W b1 25 [.pointer (some ⟨x, 0, none⟩)]) :
    Calls Try.prog 45 #[.int .i64 (i : Int), .int .i64 (j : Int), .pointer (some ⟨b1, 0, none⟩)] W fun e W' => e = .returned (.tuple #[]) ∧ TAt W' x c lb (addL L j) (N + 1) ∧ Only (fun k => k = c ∨ k = lb) W W' := by
  have hjl : j < L.length := by rw [T.len]; exact hj
  have hA := add_at T.cells j hjl (by have := hs.1; omega) (by have := hs.2 L[j] (List.getElem_mem hjl); have := hs.1; omega)
  have x0 : W.cell? ⟨x, 0, none⟩ = some (.pointer (some ⟨c, 0, none⟩)) := T.obj.cell 0
  have c1 : W.cell? ⟨b1, 0, none⟩ = some (.pointer (some ⟨x, 0, none⟩)) := B1.cell 0
  have nxc := T.nc
  have nxl := T.nl
  have hfin := hid (show ∀ W', CAt W' c lb (addL L j) (N + 1) → Only (fun k => k = c ∨ k = lb) W W' → TAt W' x c lb (addL L j) (N + 1) from fun W' h o =>
    ⟨h, T.obj.only o (by omega), by rw [show (addL L j).length = L.length from List.length_set]; exact T.len⟩)
  clear B1 nxc nxl
  generalize L[j] = v at *
  clear T hs hjl
  go_enter Try.func45, Try.ntmps45
  go_wp2_with (fail)
  refine hA.mono ?_
  rintro e w3 ⟨rfl, h1, o1⟩
  have T' := hfin.out w3 h1 o1
  go_wp2_with (fail)
  go_end0
  exact ⟨rfl, T', o1⟩
theorem give_at (T : TAt w x c lb L N) (hs : Sm L N) (k : Nat) (hk : k < 6) :
    Calls Try.prog 31 #[.pointer (some ⟨x, 0, none⟩), .int .i64 (k : Int)] w fun e w' => e = .returned (.tuple #[]) ∧ TAt w' x c lb (addL L (5 + 2 * k)) (N + 1) ∧ Only (fun k => k = c ∨ k = lb) w w' := by
  obtain ⟨W2, hW2⟩ : ∃ W2, W2 = w.alloc (.cells #[.pointer (some ⟨x, 0, none⟩)] 25) := ⟨_, rfl⟩
  have T2 : TAt W2 x c lb L N := by rw [hW2]; exact T.alloc _
  have B1 : Blk W2 w.heap.size 25 [.pointer (some ⟨x, 0, none⟩)] := by rw [hW2]; exact Blk.new w _ _
  have o2 : Only (fun k => k = c ∨ k = lb) w W2 := by rw [hW2]; exact Only.alloc _ _ _
  have hO := of_give (w := W2) (T2.obj.cell 1) (T2.obj.cell 2) k hk (.pointer (some ⟨w.heap.size, 0, none⟩)) (fun W' => TAt W' x c lb (addL L (5 + 2 * k)) (N + 1) ∧ Only (fun k => k = c ∨ k = lb) W2 W')
    (fun n => (give1_at (T2.drewN n) hs (4 + 2 * k) (5 + 2 * k) (by omega) w.heap.size B1).mono (fun e W' ⟨h0, h1, h3⟩ => ⟨h0, h1, (Only.drewN _ W2 n).trans h3⟩))
  have c1' : (w.alloc (.cells #[.pointer (some ⟨x, 0, none⟩)] 25)).cell? ⟨w.heap.size, 0, none⟩ = some (.pointer (some ⟨x, 0, none⟩)) := by rw [← hW2]; exact B1.cell 0
  clear T2 B1 T hs
  go_enter Try.func31, Try.ntmps31
  go_wp2_with (fail)
  rw [← hW2]
  refine hO.mono ?_
  rintro e w3 ⟨rfl, T3, o3⟩
  have o4 := o2.trans o3
  go_wp2_with (fail)
  go_end0
  exact ⟨rfl, T3, o4⟩
end
end Go.Proofs.Ytabcodjalacdjab.TicketCode
