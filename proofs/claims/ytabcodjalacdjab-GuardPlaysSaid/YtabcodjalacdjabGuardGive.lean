
/- guard: Give. -/
import Derived.Test.YtabcodjalacdjabGuardStep
namespace Go.Proofs.Ytabcodjalacdjab.GuardCode
open Go Go.RowKit Go.Proofs.Ytabcodjalacdjab.Obj Go.Proofs.Ytabcodjalacdjab.Row Go.Proofs.Ytabcodjalacdjab.CellCode Go.Proofs.Ytabcodjalacdjab.TicketCode Go.Proofs.YtabcodjalacdjabW.PrintWords Go.Proofs.YtabcodjalacdjabW.PrintMore
set_option linter.unusedVariables false
set_option maxRecDepth 100000
section
variable {w w' : World} {g x c lb : Nat} {s : Gs} {L : List Nat} {N : Nat}
theorem give_none (h : GAt w g x s) (hn : s.n = 0) : Calls Try.prog 12 #[.pointer (some ⟨g, 0, none⟩)] w fun e w' => e = .returned (.tuple #[.int .i64 0, .int .i64 3]) ∧ Below w.heap.size w w' := by
  have hb : Below w.heap.size w (w.alloc (.cells #[.pointer (some ⟨g, 0, none⟩)] 29)) := (Below.refl _ w).alloc (Nat.le_refl _) _
  have hM := may_give (h.below hb) (Blk.new w 29 [.pointer (some ⟨g, 0, none⟩)])
  rw [decide_eq_true hn, show mayV true = 3 from rfl] at hM
  clear h hn
  go_enter Try.func12, Try.ntmps12
  go_wp2_with (fail)
  refine hM.mono ?_
  rintro e w1 ⟨rfl, rfl⟩
  go_wp2_with (fail)
  go_ret2
  exact ⟨rfl, hb⟩
theorem give_have (h : GAt w g x s) (hn : s.n ≠ 0) (hd : s.drawn = true) : Calls Try.prog 12 #[.pointer (some ⟨g, 0, none⟩)] w fun e w' => e = .returned (.tuple #[.int .i64 0, .int .i64 9]) ∧ Below w.heap.size w w' := by
  have hb : Below w.heap.size w (w.alloc (.cells #[.pointer (some ⟨g, 0, none⟩)] 29)) := (Below.refl _ w).alloc (Nat.le_refl _) _
  have hM := may_give (h.below hb) (Blk.new w 29 [.pointer (some ⟨g, 0, none⟩)])
  rw [decide_eq_false hn, show mayV false = 0 from rfl] at hM
  obtain ⟨A, cap, hO, hcap, hR⟩ := (h.below hb).obj
  rw [hd] at hO
  have g4 : (w.alloc (.cells #[.pointer (some ⟨g, 0, none⟩)] 29)).cell? ⟨g, 4, none⟩ = some (.bool true) := hO.cell 4
  have hB := Blk.new w 29 [.pointer (some ⟨g, 0, none⟩)]
  have b0 : (w.alloc (.cells #[.pointer (some ⟨g, 0, none⟩)] 29)).cell? ⟨w.heap.size, 0, none⟩ = some (.pointer (some ⟨g, 0, none⟩)) := hB.cell 0
  clear h hn hO hR hB hd
  go_enter Try.func12, Try.ntmps12
  go_wp2_with (fail)
  refine hM.mono ?_
  rintro e w1 ⟨rfl, rfl⟩
  go_wp2_with (fail)
  go_ret2
  exact ⟨rfl, hb⟩
theorem RowM.takeN {A : Option Addr} {r : List Int} (h : RowM w A r) (m : Nat) : RowM w A (r.take m) := by
  refine ⟨?_, h.typ⟩
  have := h.nums
  rw [← List.take_append_drop m r] at this
  exact this.take
/-- The last one that it has. -/
def Gs.last (s : Gs) : Nat := (s.row.getD (s.n - 1) 0).toNat
set_option maxHeartbeats 4000000 in
theorem give_yes (h : Both w g x c lb s L N) (hs : Sm L N) (hn : s.n ≠ 0) (hd : s.drawn = false) (hk : ∀ y ∈ s.row, 0 ≤ y ∧ y < 6) :
    Calls Try.prog 12 #[.pointer (some ⟨g, 0, none⟩)] w fun e w' => e = .returned (.tuple #[.int .i64 ((s.n - 1 : Nat) : Int), .int .i64 0]) ∧ Both w' g x c lb { s with row := s.row.take (s.n - 1), n := s.n - 1 } (addL L (5 + 2 * s.last)) (N + 1) ∧ Only (GS g c lb) w w' := by
  obtain ⟨ngx, ngc, ngl⟩ := h.ne
  have hb := (Below.refl _ w).alloc (Nat.le_refl _) (.cells #[.pointer (some ⟨g, 0, none⟩)] 29)
  have hG := h.g.below hb
  have hT := h.t.below hb
  have hB := Blk.new w 29 [.pointer (some ⟨g, 0, none⟩)]
  have hM := may_give hG hB
  rw [decide_eq_false hn, show mayV false = 0 from rfl] at hM
  have hgl := h.g.lt
  have o1 : Only (GS g c lb) w (w.alloc (.cells #[.pointer (some ⟨g, 0, none⟩)] 29)) := Only.alloc _ _ _
  have nbg : w.heap.size ≠ g := by omega
  have nbc : w.heap.size ≠ c := by have := h.t.cells.obj.lt; omega
  have nbl : w.heap.size ≠ lb := by have := h.t.cells.row.lt; omega
  obtain ⟨A, cap, hO, hcap, hR⟩ := hG.obj
  have hle := hG.le
  have hfew := hG.few
  obtain ⟨m, hm⟩ : ∃ m, s.n = m + 1 := ⟨s.n - 1, by omega⟩
  have hmr : m < s.row.length := by omega
  obtain ⟨rb, ro, rfl, hrl, hrc⟩ := lock_cell hR hmr
  have hlk := hk (s.row.getD m 0) (by rw [List.getD_eq_getElem?_getD, List.getElem?_eq_getElem hmr]; exact List.getElem_mem hmr)
  obtain ⟨k, hkk⟩ : ∃ k : Nat, k = s.last := ⟨_, rfl⟩
  have hm1 : s.n - 1 = m := by omega
  have hk6 : k < 6 := by rw [hkk]; unfold Gs.last; rw [hm1]; omega
  have hke : s.row.getD m 0 = (k : Int) := by rw [hkk]; unfold Gs.last; rw [hm1]; omega
  rw [hke] at hrc
  rw [← hkk, hm1]
  have hd4 : s.drawn = false := hd
  rw [hd, hm] at hO
  have q1 : IntKind.i64.wrap (((m + 1 : Nat) : Int) - 1) = (m : Int) := by rw [IntWalk.i64_in _ (by omega)]; omega
  have q6 : IntKind.i64.wrap (m : Int) = (m : Int) := IntWalk.i64_in _ (by omega)
  have q2 : (m : Int) < (s.row.length : Int) := by omega
  have q3 : (0 : Int) ≤ (m : Int) := by omega
  have q4 : (m : Int) ≤ (cap : Int) := by omega
  have q5 : (m : Int) ≤ (s.row.length : Int) := by omega
  obtain ⟨w1, hw1⟩ : ∃ w1, w1 = w.alloc (.cells #[.pointer (some ⟨g, 0, none⟩)] 29) := ⟨_, rfl⟩
  rw [← hw1] at hO hrc hB hR hM o1 hT
  have og1 : Only (fun k => k = g) w1 (w1.setCell ⟨g, 2, none⟩ (.int .i64 (m : Int))) := Only.setCell _ _ _ rfl
  have O2 := hO.set 2 (.int .i64 (m : Int))
  have B2 := hB.set_other ⟨g, 2, none⟩ (.int .i64 (m : Int)) nbg
  have T2 := hT.only og1 (Ne.symm ngc) (Ne.symm ngl) (Ne.symm ngx)
  have R2 := hR.only og1 (fun j hj vs => by subst hj; exact not_int hO (by decide) vs)
  have g2 : w1.cell? ⟨g, 2, none⟩ = some (.int .i64 ((m + 1 : Nat) : Int)) := hO.cell 2
  have g4 : w1.cell? ⟨g, 4, none⟩ = some (.bool false) := hO.cell 4
  have f2 := hO.frozen 2
  have b0 : w1.cell? ⟨w.heap.size, 0, none⟩ = some (.pointer (some ⟨g, 0, none⟩)) := hB.cell 0
  have hrc2 : (w1.setCell ⟨g, 2, none⟩ (.int .i64 (m : Int))).cell? ⟨rb, ro + m, none⟩ = some (.int .i64 (k : Int)) := by
    obtain ⟨b', o', e', _, hc'⟩ := lock_cell R2 hmr
    cases e'
    rw [hke] at hc'
    exact hc'
  obtain ⟨w2, hw2⟩ : ∃ w2, w2 = w1.setCell ⟨g, 2, none⟩ (.int .i64 (m : Int)) := ⟨_, rfl⟩
  rw [← hw2] at O2 B2 T2 R2 hrc2 og1
  have hV := fun n => give_at (T2.drewN n) hs k hk6
  have c0 : w2.cell? ⟨w.heap.size, 0, none⟩ = some (.pointer (some ⟨g, 0, none⟩)) := B2.cell 0
  have c1 : w2.cell? ⟨g, 0, none⟩ = some (.pointer (some ⟨x, 0, none⟩)) := O2.cell 0
  have c2 : w2.cell? ⟨g, 1, none⟩ = some (.slice (some ⟨rb, ro, none⟩) s.row.length cap) := O2.cell 1
  have c3 : w2.cell? ⟨g, 2, none⟩ = some (.int .i64 (m : Int)) := O2.cell 2
  have hfin := hid (show ∀ n w3, Only (fun k => k = c ∨ k = lb) (w2.drewN n) w3 → TAt w3 x c lb (addL L (5 + 2 * k)) (N + 1) → Blk w3 w.heap.size 29 [.pointer (some ⟨g, 0, none⟩)] ∧ Blk w3 g 76 [.pointer (some ⟨x, 0, none⟩), .slice (some ⟨rb, ro, none⟩) s.row.length cap, .int .i64 (m : Int), .int .u16 (s.mine : Int), .bool false] ∧ w3.cell? ⟨rb, ro + m, none⟩ = some (.int .i64 (k : Int)) ∧
      Both (w3.setCell ⟨g, 1, none⟩ (.slice (some ⟨rb, ro, none⟩) m cap)) g x c lb { s with row := s.row.take m, n := m } (addL L (5 + 2 * k)) (N + 1) ∧ Only (GS g c lb) w (w3.setCell ⟨g, 1, none⟩ (.slice (some ⟨rb, ro, none⟩) m cap)) from fun n w3 o T3 => by
    have o' := (Only.drewN (fun k => k = c ∨ k = lb) w2 n).trans o
    have Bb := B2.only o' (by omega)
    have Bg := O2.only o' (by omega)
    have R3 := R2.only o' (fun j hj vs => by rcases hj with rfl | rfl; exact not_int T2.cells.obj (by decide) vs; exact not_int T2.cells.row (by decide) vs)
    have og : Only (fun k => k = g) w3 (w3.setCell ⟨g, 1, none⟩ (.slice (some ⟨rb, ro, none⟩) m cap)) := Only.setCell _ _ _ rfl
    have Bg' := Bg.set 1 (.slice (some ⟨rb, ro, none⟩) m cap)
    have R4 := (R3.only og (fun j hj vs => by subst hj; exact not_int Bg (by decide) vs)).takeN m
    have hl : (s.row.take m).length = m := by rw [List.length_take]; omega
    refine ⟨Bb, Bg, ?_, ⟨⟨⟨_, cap, ?_, by rw [hl]; omega, R4⟩, by rw [hl]; exact Nat.le_refl _, by rw [hl]; omega⟩, T3.only og (Ne.symm ngc) (Ne.symm ngl) (Ne.symm ngx)⟩, ?_⟩
    · obtain ⟨b', o', e', _, hc'⟩ := lock_cell R3 hmr
      cases e'
      rw [hke] at hc'
      exact hc'
    · show Blk _ g _ [_, .slice _ (s.row.take m).length cap, _, _, .bool s.drawn]
      rw [hl, hd4]; exact Bg'
    · exact ((o1.trans (og1.mono (fun j _ hj => .inl hj))).trans (o'.mono (fun j _ hj => .inr hj))).trans (og.mono (fun j _ hj => .inl hj)))
  clear h hG hT hB hO hR o1 hs hk hlk hke hkk O2 B2 T2 R2 og1 hm hm1 hle hfew hd hd4 hn
  go_enter Try.func12, Try.ntmps12
  go_wp2_with (fail)
  rw [← hw1]
  refine hM.mono ?_
  rintro e w5 ⟨rfl, hw⟩
  obtain rfl : w1 = w5 := hw.symm
  clear hM hw1
  have hw2H := hid hw2
  clear hw2
  go_wp2_with (fail)
  rw [← hw2H.out]
  clear hw2H g2 f2 g4 b0
  go_region_held3 (fun W' : World => W'.cell? ⟨w.heap.size, 0, none⟩ = some (.pointer (some ⟨g, 0, none⟩)) ∧ W'.cell? ⟨g, 0, none⟩ = some (.pointer (some ⟨x, 0, none⟩)) ∧ W'.cell? ⟨g, 1, none⟩ = some (.slice (some ⟨rb, ro, none⟩) s.row.length cap) ∧ W'.cell? ⟨g, 2, none⟩ = some (.int .i64 (m : Int)) ∧ W'.cell? ⟨rb, ro + m, none⟩ = some (.int .i64 (k : Int))) (first | (refine ⟨?_, ?_, ?_, ?_, ?_⟩ <;> assumption) | go_keep) (first
    | (go_at_call 31; refine (hV _).mono ?_; rintro e w3 ⟨rfl, T3, o3⟩; obtain ⟨Bb, Bg, c4', hB4, hO4⟩ := hfin.out _ w3 o3 T3; have e1 : w3.cell? ⟨w.heap.size, 0, none⟩ = some (.pointer (some ⟨g, 0, none⟩)) := Bb.cell 0; have e2 : w3.cell? ⟨g, 0, none⟩ = some (.pointer (some ⟨x, 0, none⟩)) := Bg.cell 0; have e3 : w3.cell? ⟨g, 1, none⟩ = some (.slice (some ⟨rb, ro, none⟩) s.row.length cap) := Bg.cell 1; have e4 : w3.cell? ⟨g, 2, none⟩ = some (.int .i64 (m : Int)) := Bg.cell 2; have e5 := Bg.frozen 1))
  go_wp2_with (fail)
  have e6 : (w3.setCell ⟨g, 1, none⟩ (.slice (some ⟨rb, ro, none⟩) m cap)).cell? ⟨g, 2, none⟩ = some (.int .i64 (m : Int)) := (Bg.set 1 (.slice (some ⟨rb, ro, none⟩) m cap)).cell 2
  have e7 : (w3.setCell ⟨g, 1, none⟩ (.slice (some ⟨rb, ro, none⟩) m cap)).cell? ⟨w.heap.size, 0, none⟩ = some (.pointer (some ⟨g, 0, none⟩)) := (Bb.set_other ⟨g, 1, none⟩ _ nbg).cell 0
  go_still_tail 12, (by kernel_rfl)
  go_wp2_with (fail)
  go_ret2
  exact ⟨rfl, hB4.drewN 1, hO4.trans (Only.drew _ _)⟩
end
end Go.Proofs.Ytabcodjalacdjab.GuardCode
