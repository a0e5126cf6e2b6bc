
/- guard: Step, Give. -/
import Derived.Test.YtabcodjalacdjabGuard
namespace Go.Proofs.Ytabcodjalacdjab.GuardCode
open Go Go.RowKit Go.Proofs.Ytabcodjalacdjab.Obj Go.Proofs.Ytabcodjalacdjab.Row Go.Proofs.Ytabcodjalacdjab.CellCode Go.Proofs.Ytabcodjalacdjab.TicketCode Go.Proofs.YtabcodjalacdjabW.PrintWords Go.Proofs.YtabcodjalacdjabW.PrintMore
set_option linter.unusedVariables false
set_option maxRecDepth 100000
section
variable {w w' : World} {g x c lb : Nat} {s : Gs} {L : List Nat} {N : Nat}
theorem Both.drewN (h : Both w g x c lb s L N) (n : Nat) : Both (w.drewN n) g x c lb s L N := ⟨h.g.drewN n, h.t.drewN n⟩
/-- What a guard's step may write. -/
def GS (g c lb : Nat) : Nat → Prop := fun k => k = g ∨ k = c ∨ k = lb
theorem lock_cell {A : Option Addr} {r : List Int} (h : RowM w A r) {n : Nat} (hn : n < r.length) : ∃ b o, A = some ⟨b, o, none⟩ ∧ b < w.heap.size ∧ w.cell? ⟨b, o + n, none⟩ = some (.int .i64 (r.getD n 0)) := h.nums.at n hn
set_option maxHeartbeats 4000000 in
theorem step_draw (h : Both w g x c lb s L N) (hs : Sm L N) (hn : s.n < s.row.length) (hd : s.drawn = false) (hk : ∀ y ∈ s.row, 0 ≤ y ∧ y < 6) :
    Calls Try.prog 13 #[.pointer (some ⟨g, 0, none⟩)] w fun e w' => e = .returned (.tuple #[.bool false, .int .i64 0]) ∧ Both w' g x c lb { s with mine := L.getD (4 + 2 * s.lock) 0 % 65536, drawn := true } (addL L (4 + 2 * s.lock)) (N + 1) ∧ Only (GS g c lb) w w' := by
  obtain ⟨ngx, ngc, ngl⟩ := h.ne
  have hb := (Below.refl _ w).alloc (Nat.le_refl _) (.cells #[.pointer (some ⟨g, 0, none⟩)] 29)
  have hG := h.g.below hb
  have hT := h.t.below hb
  have hB := Blk.new w 29 [.pointer (some ⟨g, 0, none⟩)]
  have hM := may_step hG hB
  rw [decide_eq_false (by omega), show mayV false = 0 from rfl] at hM
  have hgl := h.g.lt
  have o1 : Only (GS g c lb) w (w.alloc (.cells #[.pointer (some ⟨g, 0, none⟩)] 29)) := Only.alloc _ _ _
  have nbg : w.heap.size ≠ g := by omega
  have nbc : w.heap.size ≠ c := by have := h.t.cells.obj.lt; omega
  have nbl : w.heap.size ≠ lb := by have := h.t.cells.row.lt; omega
  obtain ⟨A, cap, hO, hcap, hR⟩ := hG.obj
  have hle := hG.le
  have hfew := hG.few
  obtain ⟨rb, ro, rfl, hrl, hrc⟩ := lock_cell hR hn
  have hlk := hk (s.row.getD s.n 0) (by rw [List.getD_eq_getElem?_getD, List.getElem?_eq_getElem hn]; exact List.getElem_mem hn)
  obtain ⟨k, hkk⟩ : ∃ k : Nat, k = s.lock := ⟨_, rfl⟩
  have hk6 : k < 6 := by rw [hkk]; unfold Gs.lock; omega
  have hke : s.row.getD s.n 0 = (k : Int) := by rw [hkk]; unfold Gs.lock; omega
  rw [hke] at hrc
  rw [← hkk]
  have hD := fun m => draw_at (hT.drewN m) hs k hk6
  obtain ⟨u, hu⟩ : ∃ u, u = L.getD (4 + 2 * k) 0 % 65536 := ⟨_, rfl⟩
  rw [← hu] at hD ⊢
  clear hu
  have hd4 : s.drawn = false := hd
  rw [hd] at hO
  have hn1 : (s.n : Int) < (s.row.length : Int) := by omega
  obtain ⟨w1, hw1⟩ : ∃ w1, w1 = w.alloc (.cells #[.pointer (some ⟨g, 0, none⟩)] 29) := ⟨_, rfl⟩
  rw [← hw1] at hO hrc hB hR hD hM o1 hT
  have g0 : w1.cell? ⟨g, 0, none⟩ = some (.pointer (some ⟨x, 0, none⟩)) := hO.cell 0
  have g1 : w1.cell? ⟨g, 1, none⟩ = some (.slice (some ⟨rb, ro, none⟩) s.row.length cap) := hO.cell 1
  have g2 : w1.cell? ⟨g, 2, none⟩ = some (.int .i64 (s.n : Int)) := hO.cell 2
  have g4 : w1.cell? ⟨g, 4, none⟩ = some (.bool false) := hO.cell 4
  have b0 : w1.cell? ⟨w.heap.size, 0, none⟩ = some (.pointer (some ⟨g, 0, none⟩)) := hB.cell 0
  have hfin := hid (show ∀ m w3, Only (fun k => k = c ∨ k = lb) (w1.drewN m) w3 → TAt w3 x c lb (addL L (4 + 2 * k)) (N + 1) → Blk w3 w.heap.size 29 [.pointer (some ⟨g, 0, none⟩)] ∧ Blk w3 g 76 [.pointer (some ⟨x, 0, none⟩), .slice (some ⟨rb, ro, none⟩) s.row.length cap, .int .i64 (s.n : Int), .int .u16 (s.mine : Int), .bool false] ∧
      (GAt ((w3.setCell ⟨g, 3, none⟩ (.int .u16 (u : Int))).setCell ⟨g, 4, none⟩ (.bool true)) g x { s with mine := u, drawn := true } ∧ Both ((w3.setCell ⟨g, 3, none⟩ (.int .u16 (u : Int))).setCell ⟨g, 4, none⟩ (.bool true)) g x c lb { s with mine := u, drawn := true } (addL L (4 + 2 * k)) (N + 1) ∧ Only (GS g c lb) w ((w3.setCell ⟨g, 3, none⟩ (.int .u16 (u : Int))).setCell ⟨g, 4, none⟩ (.bool true))) from fun m w3 o T3 => by
    have Bb : Blk w3 w.heap.size 29 [.pointer (some ⟨g, 0, none⟩)] := hB.only ((Only.drewN _ w1 m).trans o) (by omega)
    have Bg : Blk w3 g 76 [.pointer (some ⟨x, 0, none⟩), .slice (some ⟨rb, ro, none⟩) s.row.length cap, .int .i64 (s.n : Int), .int .u16 (s.mine : Int), .bool false] := hO.only ((Only.drewN _ w1 m).trans o) (by omega)
    have R3 := hR.only ((Only.drewN _ w1 m).trans o) (fun j hj vs => by rcases hj with rfl | rfl; exact not_int hT.cells.obj (by decide) vs; exact not_int hT.cells.row (by decide) vs)
    have og : Only (fun k => k = g) w3 ((w3.setCell ⟨g, 3, none⟩ (.int .u16 (u : Int))).setCell ⟨g, 4, none⟩ (.bool true)) := (Only.setCell (S := fun k => k = g) w3 ⟨g, 3, none⟩ _ rfl).trans (Only.setCell _ ⟨g, 4, none⟩ _ rfl)
    have Bg' := (Bg.set 3 (.int .u16 (u : Int))).set 4 (.bool true)
    have R4 := R3.only og (fun j hj vs => by subst hj; exact not_int Bg (by decide) vs)
    have G4 : GAt ((w3.setCell ⟨g, 3, none⟩ (.int .u16 (u : Int))).setCell ⟨g, 4, none⟩ (.bool true)) g x { s with mine := u, drawn := true } := ⟨⟨_, cap, Bg', hcap, R4⟩, hle, hfew⟩
    refine ⟨Bb, Bg, G4, ⟨G4, T3.only og (Ne.symm ngc) (Ne.symm ngl) (Ne.symm ngx)⟩, ?_⟩
    have o1' := o1
    exact ((o1.trans ((Only.drewN _ w1 m).trans (o.mono (fun j _ hj => .inr hj)))).trans (og.mono (fun j _ hj => .inl hj))))
  clear h hG hT hB hO hR o1 hs hk hlk hke hkk
  clear hd4 hd hle hfew
  go_enter Try.func13, Try.ntmps13
  go_wp2_with (fail)
  rw [← hw1]
  refine hM.mono ?_
  rintro e w2 ⟨rfl, n1, rfl⟩
  clear hM hw1
  go_wp2_with (go_quiet (fail))
  go_region_held3 (fun W' : World => W'.cell? ⟨w.heap.size, 0, none⟩ = some (.pointer (some ⟨g, 0, none⟩)) ∧ W'.cell? ⟨g, 0, none⟩ = some (.pointer (some ⟨x, 0, none⟩))) (first | (refine ⟨?_, ?_⟩ <;> assumption) | go_keep) (first
    | (go_at_call 33; refine (hD _).mono ?_; rintro e w3 ⟨rfl, T3, o3⟩; obtain ⟨Bb, Bg, hG4, hB4, hO4⟩ := hfin.out _ w3 o3 T3; have e1 : w3.cell? ⟨w.heap.size, 0, none⟩ = some (.pointer (some ⟨g, 0, none⟩)) := Bb.cell 0; have e2 : w3.cell? ⟨g, 0, none⟩ = some (.pointer (some ⟨x, 0, none⟩)) := Bg.cell 0; have e3 : w3.cell? ⟨g, 3, none⟩ = some (.int .u16 (s.mine : Int)) := Bg.cell 3; have e4 := Bg.frozen 3; have e5 := Bg.frozen 4; have e6 : (w3.setCell ⟨g, 3, none⟩ (.int .u16 (u : Int))).cell? ⟨g, 4, none⟩ = some (.bool false) := (Bg.set 3 (.int .u16 (u : Int))).cell 4; have e7 : (w3.setCell ⟨g, 3, none⟩ (.int .u16 (u : Int))).cell? ⟨w.heap.size, 0, none⟩ = some (.pointer (some ⟨g, 0, none⟩)) := (Bb.set_other ⟨g, 3, none⟩ _ nbg).cell 0; have e8 : (w3.setCell ⟨g, 3, none⟩ (.int .u16 (u : Int))).cell? ⟨g, 0, none⟩ = some (.pointer (some ⟨x, 0, none⟩)) := (Bg.set 3 (.int .u16 (u : Int))).cell 0; have e9 : ((w3.setCell ⟨g, 3, none⟩ (.int .u16 (u : Int))).setCell ⟨g, 4, none⟩ (.bool true)).cell? ⟨w.heap.size, 0, none⟩ = some (.pointer (some ⟨g, 0, none⟩)) := ((Bb.set_other ⟨g, 3, none⟩ _ nbg).set_other ⟨g, 4, none⟩ _ nbg).cell 0; have e10 : ((w3.setCell ⟨g, 3, none⟩ (.int .u16 (u : Int))).setCell ⟨g, 4, none⟩ (.bool true)).cell? ⟨g, 0, none⟩ = some (.pointer (some ⟨x, 0, none⟩)) := ((Bg.set 3 (.int .u16 (u : Int))).set 4 (.bool true)).cell 0))
  have hA := all_at hG4
  rw [decide_eq_false (show ¬ ({ s with mine := u, drawn := true } : Gs).n = ({ s with mine := u, drawn := true } : Gs).row.length by show ¬ s.n = s.row.length; omega)] at hA
  go_wp2_with (fail)
  refine hA.mono ?_
  rintro e w5 ⟨rfl, n5, rfl⟩
  go_wp2_with (fail)
  go_ret2
  exact ⟨rfl, hB4.drewN n5, hO4.trans (Only.drewN _ _ _)⟩
set_option maxHeartbeats 4000000 in
theorem step_no (h : Both w g x c lb s L N) (hs : Sm L N) (hn : s.n < s.row.length) (hd : s.drawn = true) (hk : ∀ y ∈ s.row, 0 ≤ y ∧ y < 6) (hy : decide (L.getD (5 + 2 * s.lock) 0 % 65536 = s.mine) = false) :
    Calls Try.prog 13 #[.pointer (some ⟨g, 0, none⟩)] w fun e w' => e = .returned (.tuple #[.bool false, .int .i64 0]) ∧ Both w' g x c lb s L (N + 1) ∧ Only (GS g c lb) w w' := by
  obtain ⟨ngx, ngc, ngl⟩ := h.ne
  have hb := (Below.refl _ w).alloc (Nat.le_refl _) (.cells #[.pointer (some ⟨g, 0, none⟩)] 29)
  have hG := h.g.below hb
  have hT := h.t.below hb
  have hB := Blk.new w 29 [.pointer (some ⟨g, 0, none⟩)]
  have hM := may_step hG hB
  rw [decide_eq_false (by omega), show mayV false = 0 from rfl] at hM
  have hgl := h.g.lt
  have o1 : Only (GS g c lb) w (w.alloc (.cells #[.pointer (some ⟨g, 0, none⟩)] 29)) := Only.alloc _ _ _
  have nbg : w.heap.size ≠ g := by omega
  have nbc : w.heap.size ≠ c := by have := h.t.cells.obj.lt; omega
  have nbl : w.heap.size ≠ lb := by have := h.t.cells.row.lt; omega
  obtain ⟨A, cap, hO, hcap, hR⟩ := hG.obj
  have hle := hG.le
  have hfew := hG.few
  obtain ⟨rb, ro, rfl, hrl, hrc⟩ := lock_cell hR hn
  have hlk := hk (s.row.getD s.n 0) (by rw [List.getD_eq_getElem?_getD, List.getElem?_eq_getElem hn]; exact List.getElem_mem hn)
  obtain ⟨k, hkk⟩ : ∃ k : Nat, k = s.lock := ⟨_, rfl⟩
  have hk6 : k < 6 := by rw [hkk]; unfold Gs.lock; omega
  have hke : s.row.getD s.n 0 = (k : Int) := by rw [hkk]; unfold Gs.lock; omega
  rw [hke] at hrc
  rw [← hkk] at hy
  have hD := fun m => mine_at (hT.drewN m) hs k hk6 s.mine
  rw [hy] at hD
  have hd4 : s.drawn = true := hd
  rw [hd] at hO
  have hn1 : (s.n : Int) < (s.row.length : Int) := by omega
  obtain ⟨w1, hw1⟩ : ∃ w1, w1 = w.alloc (.cells #[.pointer (some ⟨g, 0, none⟩)] 29) := ⟨_, rfl⟩
  rw [← hw1] at hO hrc hB hR hD hM o1 hT
  have g0 : w1.cell? ⟨g, 0, none⟩ = some (.pointer (some ⟨x, 0, none⟩)) := hO.cell 0
  have g1 : w1.cell? ⟨g, 1, none⟩ = some (.slice (some ⟨rb, ro, none⟩) s.row.length cap) := hO.cell 1
  have g2 : w1.cell? ⟨g, 2, none⟩ = some (.int .i64 (s.n : Int)) := hO.cell 2
  have g3 : w1.cell? ⟨g, 3, none⟩ = some (.int .u16 (s.mine : Int)) := hO.cell 3
  have g4 : w1.cell? ⟨g, 4, none⟩ = some (.bool true) := hO.cell 4
  have b0 : w1.cell? ⟨w.heap.size, 0, none⟩ = some (.pointer (some ⟨g, 0, none⟩)) := hB.cell 0
  have hfin := hid (show ∀ m w3, Only (fun k => k = c ∨ k = lb) (w1.drewN m) w3 → TAt w3 x c lb L (N + 1) → Blk w3 w.heap.size 29 [.pointer (some ⟨g, 0, none⟩)] ∧ Blk w3 g 76 [.pointer (some ⟨x, 0, none⟩), .slice (some ⟨rb, ro, none⟩) s.row.length cap, .int .i64 (s.n : Int), .int .u16 (s.mine : Int), .bool true] ∧ Only (GS g c lb) w w3 ∧ RowM w3 (some ⟨rb, ro, none⟩) s.row from fun m w3 o T3 => by
    have Bb : Blk w3 w.heap.size 29 [.pointer (some ⟨g, 0, none⟩)] := hB.only ((Only.drewN _ w1 m).trans o) (by omega)
    have Bg : Blk w3 g 76 [.pointer (some ⟨x, 0, none⟩), .slice (some ⟨rb, ro, none⟩) s.row.length cap, .int .i64 (s.n : Int), .int .u16 (s.mine : Int), .bool true] := hO.only ((Only.drewN _ w1 m).trans o) (by omega)
    have R3 := hR.only ((Only.drewN _ w1 m).trans o) (fun j hj vs => by rcases hj with rfl | rfl; exact not_int hT.cells.obj (by decide) vs; exact not_int hT.cells.row (by decide) vs)
    exact ⟨Bb, Bg, o1.trans ((Only.drewN _ w1 m).trans (o.mono (fun j _ hj => .inr hj))), R3⟩)
  have hend := hid (show ∀ w3, TAt w3 x c lb L (N + 1) → Blk w3 g 76 [.pointer (some ⟨x, 0, none⟩), .slice (some ⟨rb, ro, none⟩) s.row.length cap, .int .i64 (s.n : Int), .int .u16 (s.mine : Int), .bool true] → RowM w3 (some ⟨rb, ro, none⟩) s.row → GAt w3 g x s from fun w3 T3 Bg R3 => ⟨⟨_, cap, by rw [hd4]; exact Bg, hcap, R3⟩, hle, hfew⟩)
  clear h hG hT hB hO hR o1 hs hk hlk hke hkk
  clear hd4 hd hle hfew hy
  go_enter Try.func13, Try.ntmps13
  go_wp2_with (fail)
  rw [← hw1]
  refine hM.mono ?_
  rintro e w2 ⟨rfl, n1, rfl⟩
  clear hM hw1
  go_wp2_with (go_quiet (fail))
  go_region_held3 (fun W' : World => W'.cell? ⟨w.heap.size, 0, none⟩ = some (.pointer (some ⟨g, 0, none⟩)) ∧ W'.cell? ⟨g, 0, none⟩ = some (.pointer (some ⟨x, 0, none⟩)) ∧ W'.cell? ⟨g, 3, none⟩ = some (.int .u16 (s.mine : Int))) (first | (refine ⟨?_, ?_, ?_⟩ <;> assumption) | go_keep) (first
    | (go_at_call 34; refine (hD _).mono ?_; rintro e w3 ⟨rfl, T3, o3⟩; obtain ⟨Bb, Bg, O3, R3⟩ := hfin.out _ w3 o3 T3; have e1 : w3.cell? ⟨w.heap.size, 0, none⟩ = some (.pointer (some ⟨g, 0, none⟩)) := Bb.cell 0; have e2 : w3.cell? ⟨g, 0, none⟩ = some (.pointer (some ⟨x, 0, none⟩)) := Bg.cell 0; have e3 : w3.cell? ⟨g, 3, none⟩ = some (.int .u16 (s.mine : Int)) := Bg.cell 3))
  have G3 := hend.out w3 T3 Bg R3
  have hA := all_at G3
  rw [decide_eq_false (show ¬ s.n = s.row.length by omega)] at hA
  go_wp2_with (fail)
  refine hA.mono ?_
  rintro e w5 ⟨rfl, n5, rfl⟩
  go_wp2_with (fail)
  go_ret2
  exact ⟨rfl, Both.drewN ⟨G3, T3⟩ n5, O3.trans (Only.drewN _ _ _)⟩
set_option maxHeartbeats 4000000 in
theorem step_yes (h : Both w g x c lb s L N) (hs : Sm L N) (hn : s.n < s.row.length) (hd : s.drawn = true) (hk : ∀ y ∈ s.row, 0 ≤ y ∧ y < 6) (hy : decide (L.getD (5 + 2 * s.lock) 0 % 65536 = s.mine) = true) :
    Calls Try.prog 13 #[.pointer (some ⟨g, 0, none⟩)] w fun e w' => e = .returned (.tuple #[.bool (decide (s.n + 1 = s.row.length)), .int .i64 0]) ∧ Both w' g x c lb { s with n := s.n + 1, mine := 0, drawn := false } L (N + 1) ∧ Only (GS g c lb) w w' := by
  obtain ⟨ngx, ngc, ngl⟩ := h.ne
  have hb := (Below.refl _ w).alloc (Nat.le_refl _) (.cells #[.pointer (some ⟨g, 0, none⟩)] 29)
  have hG := h.g.below hb
  have hT := h.t.below hb
  have hB := Blk.new w 29 [.pointer (some ⟨g, 0, none⟩)]
  have hM := may_step hG hB
  rw [decide_eq_false (by omega), show mayV false = 0 from rfl] at hM
  have hgl := h.g.lt
  have o1 : Only (GS g c lb) w (w.alloc (.cells #[.pointer (some ⟨g, 0, none⟩)] 29)) := Only.alloc _ _ _
  have nbg : w.heap.size ≠ g := by omega
  have nbc : w.heap.size ≠ c := by have := h.t.cells.obj.lt; omega
  have nbl : w.heap.size ≠ lb := by have := h.t.cells.row.lt; omega
  obtain ⟨A, cap, hO, hcap, hR⟩ := hG.obj
  have hle := hG.le
  have hfew := hG.few
  obtain ⟨rb, ro, rfl, hrl, hrc⟩ := lock_cell hR hn
  have hlk := hk (s.row.getD s.n 0) (by rw [List.getD_eq_getElem?_getD, List.getElem?_eq_getElem hn]; exact List.getElem_mem hn)
  obtain ⟨k, hkk⟩ : ∃ k : Nat, k = s.lock := ⟨_, rfl⟩
  have hk6 : k < 6 := by rw [hkk]; unfold Gs.lock; omega
  have hke : s.row.getD s.n 0 = (k : Int) := by rw [hkk]; unfold Gs.lock; omega
  rw [hke] at hrc
  rw [← hkk] at hy
  have hD := fun m => mine_at (hT.drewN m) hs k hk6 s.mine
  rw [hy] at hD
  have hd4 : s.drawn = true := hd
  rw [hd] at hO
  have hn1 : (s.n : Int) < (s.row.length : Int) := by omega
  obtain ⟨w1, hw1⟩ : ∃ w1, w1 = w.alloc (.cells #[.pointer (some ⟨g, 0, none⟩)] 29) := ⟨_, rfl⟩
  rw [← hw1] at hO hrc hB hR hD hM o1 hT
  have g0 : w1.cell? ⟨g, 0, none⟩ = some (.pointer (some ⟨x, 0, none⟩)) := hO.cell 0
  have g1 : w1.cell? ⟨g, 1, none⟩ = some (.slice (some ⟨rb, ro, none⟩) s.row.length cap) := hO.cell 1
  have g2 : w1.cell? ⟨g, 2, none⟩ = some (.int .i64 (s.n : Int)) := hO.cell 2
  have g3 : w1.cell? ⟨g, 3, none⟩ = some (.int .u16 (s.mine : Int)) := hO.cell 3
  have g4 : w1.cell? ⟨g, 4, none⟩ = some (.bool true) := hO.cell 4
  have b0 : w1.cell? ⟨w.heap.size, 0, none⟩ = some (.pointer (some ⟨g, 0, none⟩)) := hB.cell 0
  have hfin := hid (show ∀ m w3, Only (fun k => k = c ∨ k = lb) (w1.drewN m) w3 → TAt w3 x c lb L (N + 1) → Blk w3 w.heap.size 29 [.pointer (some ⟨g, 0, none⟩)] ∧ Blk w3 g 76 [.pointer (some ⟨x, 0, none⟩), .slice (some ⟨rb, ro, none⟩) s.row.length cap, .int .i64 (s.n : Int), .int .u16 (s.mine : Int), .bool true] ∧ Only (GS g c lb) w w3 ∧ RowM w3 (some ⟨rb, ro, none⟩) s.row from fun m w3 o T3 => by
    have Bb : Blk w3 w.heap.size 29 [.pointer (some ⟨g, 0, none⟩)] := hB.only ((Only.drewN _ w1 m).trans o) (by omega)
    have Bg : Blk w3 g 76 [.pointer (some ⟨x, 0, none⟩), .slice (some ⟨rb, ro, none⟩) s.row.length cap, .int .i64 (s.n : Int), .int .u16 (s.mine : Int), .bool true] := hO.only ((Only.drewN _ w1 m).trans o) (by omega)
    have R3 := hR.only ((Only.drewN _ w1 m).trans o) (fun j hj vs => by rcases hj with rfl | rfl; exact not_int hT.cells.obj (by decide) vs; exact not_int hT.cells.row (by decide) vs)
    exact ⟨Bb, Bg, o1.trans ((Only.drewN _ w1 m).trans (o.mono (fun j _ hj => .inr hj))), R3⟩)
  have hend := hid (show ∀ w3, TAt w3 x c lb L (N + 1) → Only (GS g c lb) w w3 → Blk w3 g 76 [.pointer (some ⟨x, 0, none⟩), .slice (some ⟨rb, ro, none⟩) s.row.length cap, .int .i64 (s.n : Int), .int .u16 (s.mine : Int), .bool true] → RowM w3 (some ⟨rb, ro, none⟩) s.row → Both (((w3.setCell ⟨g, 2, none⟩ (.int .i64 ((s.n : Int) + 1))).setCell ⟨g, 3, none⟩ (.int .u16 0)).setCell ⟨g, 4, none⟩ (.bool false)) g x c lb { s with n := s.n + 1, mine := 0, drawn := false } L (N + 1) ∧ Only (GS g c lb) w (((w3.setCell ⟨g, 2, none⟩ (.int .i64 ((s.n : Int) + 1))).setCell ⟨g, 3, none⟩ (.int .u16 0)).setCell ⟨g, 4, none⟩ (.bool false)) from fun w3 T3 O3 Bg R3 => by
    have og : Only (fun k => k = g) w3 (((w3.setCell ⟨g, 2, none⟩ (.int .i64 ((s.n : Int) + 1))).setCell ⟨g, 3, none⟩ (.int .u16 0)).setCell ⟨g, 4, none⟩ (.bool false)) := ((Only.setCell (S := fun k => k = g) w3 ⟨g, 2, none⟩ _ rfl).trans (Only.setCell _ ⟨g, 3, none⟩ _ rfl)).trans (Only.setCell _ ⟨g, 4, none⟩ _ rfl)
    have Bg' := ((Bg.set 2 (.int .i64 ((s.n : Int) + 1))).set 3 (.int .u16 0)).set 4 (.bool false)
    have R4 := R3.only og (fun j hj vs => by subst hj; exact not_int Bg (by decide) vs)
    exact ⟨⟨⟨⟨_, cap, Bg', hcap, R4⟩, by show s.n + 1 ≤ s.row.length; omega, hfew⟩, T3.only og (Ne.symm ngc) (Ne.symm ngl) (Ne.symm ngx)⟩, O3.trans (og.mono (fun j _ hj => .inl hj))⟩)
  clear h hG hT hB hO hR o1 hs hk hlk hke hkk
  clear hd4 hd hle hy
  go_enter Try.func13, Try.ntmps13
  go_wp2_with (fail)
  rw [← hw1]
  refine hM.mono ?_
  rintro e w2 ⟨rfl, n1, rfl⟩
  clear hM hw1
  go_wp2_with (go_quiet (fail))
  go_region_held3 (fun W' : World => W'.cell? ⟨w.heap.size, 0, none⟩ = some (.pointer (some ⟨g, 0, none⟩)) ∧ W'.cell? ⟨g, 0, none⟩ = some (.pointer (some ⟨x, 0, none⟩)) ∧ W'.cell? ⟨g, 3, none⟩ = some (.int .u16 (s.mine : Int))) (first | (refine ⟨?_, ?_, ?_⟩ <;> assumption) | go_keep) (first
    | (go_at_call 34; refine (hD _).mono ?_; rintro e w3 ⟨rfl, T3, o3⟩; obtain ⟨Bb, Bg, O3, R3⟩ := hfin.out _ w3 o3 T3; have e1 : w3.cell? ⟨w.heap.size, 0, none⟩ = some (.pointer (some ⟨g, 0, none⟩)) := Bb.cell 0; have e2 : w3.cell? ⟨g, 0, none⟩ = some (.pointer (some ⟨x, 0, none⟩)) := Bg.cell 0; have e3 : w3.cell? ⟨g, 3, none⟩ = some (.int .u16 (s.mine : Int)) := Bg.cell 3))
  obtain ⟨hBf, hOf⟩ := hend.out w3 T3 O3 Bg R3
  have c2 : w3.cell? ⟨g, 2, none⟩ = some (.int .i64 (s.n : Int)) := Bg.cell 2
  have f2 := Bg.frozen 2
  have hq : IntKind.i64.wrap ((s.n : Int) + 1) = (s.n : Int) + 1 := IntWalk.i64_in _ (by omega)
  have B4 := Bg.set 2 (.int .i64 ((s.n : Int) + 1))
  have Bb4 := Bb.set_other ⟨g, 2, none⟩ (.int .i64 ((s.n : Int) + 1)) nbg
  go_wp2_with (fail)
  clear T3 Bg R3 O3 e1 e2 e3 c2 f2 hend hfin
  generalize w3.setCell ⟨g, 2, none⟩ (.int .i64 ((s.n : Int) + 1)) = w4 at *
  have e1 : w4.cell? ⟨w.heap.size, 0, none⟩ = some (.pointer (some ⟨g, 0, none⟩)) := Bb4.cell 0
  have e2 : w4.cell? ⟨g, 3, none⟩ = some (.int .u16 (s.mine : Int)) := B4.cell 3
  have e3 := B4.frozen 3
  have e4 := B4.frozen 4
  have e5 : (w4.setCell ⟨g, 3, none⟩ (.int .u16 0)).cell? ⟨g, 4, none⟩ = some (.bool true) := (B4.set 3 (.int .u16 0)).cell 4
  have e6 : (w4.setCell ⟨g, 3, none⟩ (.int .u16 0)).cell? ⟨w.heap.size, 0, none⟩ = some (.pointer (some ⟨g, 0, none⟩)) := (Bb4.set_other ⟨g, 3, none⟩ _ nbg).cell 0
  have e7 : ((w4.setCell ⟨g, 3, none⟩ (.int .u16 0)).setCell ⟨g, 4, none⟩ (.bool false)).cell? ⟨w.heap.size, 0, none⟩ = some (.pointer (some ⟨g, 0, none⟩)) := ((Bb4.set_other ⟨g, 3, none⟩ _ nbg).set_other ⟨g, 4, none⟩ _ nbg).cell 0
  go_region_held3 (fun W' : World => W'.cell? ⟨w.heap.size, 0, none⟩ = some (.pointer (some ⟨g, 0, none⟩))) (first | assumption | go_keep) (fail)
  have hA := all_at (hBf.g.drewN 1)
  generalize hdd : decide (({ s with n := s.n + 1, mine := 0, drawn := false } : Gs).n = ({ s with n := s.n + 1, mine := 0, drawn := false } : Gs).row.length) = dd at hA
  have hde := hid (show dd = decide (s.n + 1 = s.row.length) from hdd.symm)
  clear hdd
  go_wp2_with (fail)
  refine hA.mono ?_
  rintro e w5 ⟨rfl, n5, rfl⟩
  go_wp2_with (fail)
  go_ret2
  exact ⟨by rw [← hde.out]; rfl, hBf.drewN (1 + n5), hOf.trans (Only.drewN _ _ (1 + n5))⟩
end
end Go.Proofs.Ytabcodjalacdjab.GuardCode
