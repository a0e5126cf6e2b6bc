
/- bound: Of, Hold, Lock. -/
import Derived.Test.YtabcodjalacdjacBound
namespace Go.Proofs.Ytabcodjalacdjac.BoundCode
open Go Go.RowKit Go.Proofs.Ytabcodjalacdjac.Obj Go.Proofs.Ytabcodjalacdjac.Row Go.Proofs.Ytabcodjalacdjac.BoundPure Go.Proofs.YtabcodjalacdjacW.PrintWords Go.Proofs.YtabcodjalacdjacW.PrintMore
set_option linter.unusedVariables false
set_option maxRecDepth 100000
section
variable (z : Sz) (w : World)
abbrev boxW (z : Sz) (w : World) : World := w.alloc (.cells (szs z).toArray 23)
theorem box_blk : Blk (boxW z w) w.heap.size 23 (szs z) := Blk.new w _ _
theorem box_below : Below w.heap.size w (boxW z w) := (Below.refl _ _).alloc (Nat.le_refl _) _
theorem hold_no (hz : ¬ May z) : Calls Try.prog 8 #[sv z] w fun e w' => e = .returned (.tuple #[.int .u64 0, .int .i64 2]) ∧ Below w.heap.size w w' := by
  have hC := check_at z (boxW z w)
  rw [if_neg hz] at hC
  have hb0 := box_below z w
  go_enter Try.func8, Try.ntmps8
  go_wp2_with (fail)
  refine hC.mono ?_
  rintro e w1 ⟨rfl, hb1⟩
  have hb2 := hb0.trans (hb1.mono hb0.size)
  go_wp2_with (fail)
  go_ret2
  exact ⟨rfl, hb2⟩
theorem hold_yes (hz : May z) : Calls Try.prog 8 #[sv z] w fun e w' => e = .returned (.tuple #[.int .u64 (holdV z : Int), .int .i64 0]) ∧ Below w.heap.size w w' := by
  have hC := check_at z (boxW z w)
  rw [if_pos hz] at hC
  have hb0 := box_below z w
  have hB0 := box_blk z w
  have hH := hold_at z hz
  go_enter Try.func8, Try.ntmps8
  go_wp2_with (fail)
  refine hC.mono ?_
  rintro e w1 ⟨rfl, hb1⟩
  have hb2 := hb0.trans (hb1.mono hb0.size)
  have hB1 := hB0.same (hb1.block _ hB0.lt)
  have z0 : w1.cell? ⟨w.heap.size, 0, none⟩ = some (.int .i64 z.W) := hB1.cell 0
  have z1 : w1.cell? ⟨w.heap.size, 1, none⟩ = some (.int .i64 z.P) := hB1.cell 1
  have z2 : w1.cell? ⟨w.heap.size, 2, none⟩ = some (.int .i64 z.T) := hB1.cell 2
  have z3 : w1.cell? ⟨w.heap.size, 3, none⟩ = some (.int .i64 z.C) := hB1.cell 3
  have z4 : w1.cell? ⟨w.heap.size, 4, none⟩ = some (.int .i64 z.N) := hB1.cell 4
  have z5 : w1.cell? ⟨w.heap.size, 5, none⟩ = some (.int .i64 z.Q) := hB1.cell 5
  go_wp2_with (fail)
  refine (hH w1).mono ?_
  rintro e w3 ⟨rfl, rfl⟩
  have hb3 := hb2.alloc hb2.size (.cells (szs z).toArray 23)
  go_wp2_with (fail)
  go_ret2
  exact ⟨rfl, hb3⟩
theorem lock_no (k : Int) (h : ¬ (May z ∧ 0 ≤ k ∧ k < z.C)) : Calls Try.prog 9 #[sv z, .int .i64 k] w fun e w' => e = .returned (.tuple #[.int .u64 0, .int .i64 2]) ∧ Below w.heap.size w w' := by
  have hC := check_at z (boxW z w)
  have hb0 := box_below z w
  have hB0 := box_blk z w
  by_cases hz : May z
  · rw [if_pos hz] at hC
    have hk : k < 0 ∨ (¬ k < 0 ∧ z.C ≤ k) := by
      rcases Int.lt_or_le k 0 with h1 | h1
      · exact .inl h1
      · refine .inr ⟨by omega, ?_⟩
        rcases Int.lt_or_le k z.C with h2 | h2
        · exact absurd ⟨hz, h1, h2⟩ h
        · exact h2
    rcases hk with hk | ⟨hk, hk2⟩
    all_goals
      go_enter Try.func9, Try.ntmps9
      go_wp2_with (fail)
      refine hC.mono ?_
      rintro e w1 ⟨rfl, hb1⟩
      have hb2 := hb0.trans (hb1.mono hb0.size)
      have hB1 := hB0.same (hb1.block _ hB0.lt)
      have z3 : w1.cell? ⟨w.heap.size, 3, none⟩ = some (.int .i64 z.C) := hB1.cell 3
      go_wp2_with (fail)
      go_ret2
      exact ⟨rfl, hb2⟩
  · rw [if_neg hz] at hC
    go_enter Try.func9, Try.ntmps9
    go_wp2_with (fail)
    refine hC.mono ?_
    rintro e w1 ⟨rfl, hb1⟩
    have hb2 := hb0.trans (hb1.mono hb0.size)
    go_wp2_with (fail)
    go_ret2
    exact ⟨rfl, hb2⟩
set_option maxHeartbeats 2000000 in
theorem lock_yes (hz : May z) (k : Nat) (hk : (k : Int) < z.C) : Calls Try.prog 9 #[sv z, .int .i64 (k : Int)] w fun e w' => e = .returned (.tuple #[.int .u64 (lockV (holdV z) z.P.toNat (z.C.toNat - 1 - k) : Int), .int .i64 0]) ∧ Below w.heap.size w w' := by
  have hC := check_at z (boxW z w)
  rw [if_pos hz] at hC
  have hb0 := box_below z w
  have hB0 := box_blk z w
  have hH := locks_at z hz
  have hC6 : 0 ≤ z.C ∧ z.C ≤ 6 := hz.2.2.2.1
  have hk6 : k < 6 := by omega
  have hk0 : ¬ ((k : Int) < 0) := by omega
  have hk1 : ¬ (z.C ≤ (k : Int)) := by omega
  have hget := arr_get (holdV z) z.P.toNat z.C.toNat z.C.toNat k hk6
  rw [if_pos (by omega)] at hget
  obtain ⟨a0, a1, a2, a3, a4, a5, ha⟩ := six (arr_len (holdV z) z.P.toNat z.C.toNat z.C.toNat)
  rw [ha] at hget hH
  simp only [u64s, List.map_cons, List.map_nil] at hH
  generalize lockV (holdV z) z.P.toNat (z.C.toNat - 1 - k) = lv at *
  generalize sumV (holdV z) z.P.toNat z.C.toNat = sm at *
  clear ha
  go_enter Try.func9, Try.ntmps9
  go_wp2_with (fail)
  refine hC.mono ?_
  rintro e w1 ⟨rfl, hb1⟩
  have hb2 := hb0.trans (hb1.mono hb0.size)
  have hB1 := hB0.same (hb1.block _ hB0.lt)
  have z0 : w1.cell? ⟨w.heap.size, 0, none⟩ = some (.int .i64 z.W) := hB1.cell 0
  have z1 : w1.cell? ⟨w.heap.size, 1, none⟩ = some (.int .i64 z.P) := hB1.cell 1
  have z2 : w1.cell? ⟨w.heap.size, 2, none⟩ = some (.int .i64 z.T) := hB1.cell 2
  have z3 : w1.cell? ⟨w.heap.size, 3, none⟩ = some (.int .i64 z.C) := hB1.cell 3
  have z4 : w1.cell? ⟨w.heap.size, 4, none⟩ = some (.int .i64 z.N) := hB1.cell 4
  have z5 : w1.cell? ⟨w.heap.size, 5, none⟩ = some (.int .i64 z.Q) := hB1.cell 5
  clear hB0 hB1 hC
  go_wp2_with (fail)
  refine (hH w1).mono ?_
  rintro e w3 ⟨rfl, hb3⟩
  have hb4 := hb2.trans (hb3.mono hb2.size)
  clear hb2 hb3 hb1 z0 z1 z2 z3 z4 z5
  have hb5 := hb4.alloc hb4.size (.cells #[.int .u64 (a0 : Int), .int .u64 (a1 : Int), .int .u64 (a2 : Int), .int .u64 (a3 : Int), .int .u64 (a4 : Int), .int .u64 (a5 : Int)] 41)
  have hgv : (u64s [a0, a1, a2, a3, a4, a5])[k]? = some (.int .u64 (lv : Int)) := by unfold u64s; rw [List.getElem?_map, hget]; rfl
  clear hget hb4
  go_wp2_with (fail)
  go_ret2
  refine ⟨?_, hb5⟩
  have hl : k < (u64s [a0, a1, a2, a3, a4, a5]).length := hk6
  rw [List.getElem?_eq_getElem hl] at hgv
  have e := Option.some.inj hgv
  exact congrArg (fun v => Ending.returned (.tuple #[v, .int .i64 0])) e
theorem of_no (hz : ¬ May z) : Calls Try.prog 7 #[sv z] w fun e w' => e = .returned (.tuple #[.int .u64 0, .int .i64 2]) ∧ Below w.heap.size w w' := by
  have hC := check_at z (boxW z w)
  rw [if_neg hz] at hC
  have hb0 := box_below z w
  go_enter Try.func7, Try.ntmps7
  go_wp2_with (fail)
  refine hC.mono ?_
  rintro e w1 ⟨rfl, hb1⟩
  have hb2 := hb0.trans (hb1.mono hb0.size)
  go_wp2_with (fail)
  go_ret2
  exact ⟨rfl, hb2⟩
end
theorem on_refl (w : World) : Only (fun _ => False) w w := ⟨rfl, rfl, rfl, Nat.le_refl _, fun _ _ _ => rfl⟩
theorem on_alloc {w w' : World} (h : Only (fun _ => False) w w') (o : Obj) : Only (fun _ => False) w (w'.alloc o) := h.trans (Only.alloc _ _ _)
theorem on_drew {w w' : World} (h : Only (fun _ => False) w w') : Only (fun _ => False) w w'.drew := h.trans ⟨rfl, rfl, rfl, Nat.le_refl _, fun _ _ _ => rfl⟩
theorem on_drewN {w w' : World} {n : Nat} (h : Only (fun _ => False) w w') : Only (fun _ => False) w (w'.drewN n) := h.trans ⟨rfl, rfl, rfl, Nat.le_refl _, fun _ _ _ => rfl⟩
abbrev ZC (w : World) (b : Nat) (z : Sz) : Prop := w.cell? ⟨b, 0, none⟩ = some (.int .i64 z.W) ∧ w.cell? ⟨b, 1, none⟩ = some (.int .i64 z.P) ∧ w.cell? ⟨b, 2, none⟩ = some (.int .i64 z.T) ∧ w.cell? ⟨b, 3, none⟩ = some (.int .i64 z.C) ∧ w.cell? ⟨b, 4, none⟩ = some (.int .i64 z.N) ∧ w.cell? ⟨b, 5, none⟩ = some (.int .i64 z.Q)
theorem zc_of {w : World} {b : Nat} {z : Sz} (h : Blk w b 23 (szs z)) : ZC w b z := ⟨h.cell 0, h.cell 1, h.cell 2, h.cell 3, h.cell 4, h.cell 5⟩
set_option maxHeartbeats 4000000 in
theorem of_yes (z : Sz) (w : World) (hz : May z) : Calls Try.prog 7 #[sv z] w fun e w' => e = .returned (.tuple #[.int .u64 (ofV z : Int), .int .i64 0]) ∧ Below w.heap.size w w' := by
  have hC := check_at z (boxW z w)
  rw [if_pos hz] at hC
  have hb0 := box_below z w
  have hB0 := box_blk z w
  have hL := locks_at z hz
  have hH := hold_at z hz
  have hHl : holdV z ≤ 1624 := by have := hold_lt hz; unfold holdV; omega
  obtain ⟨a0, a1, a2, a3, a4, a5, ha⟩ := six (arr_len (holdV z) z.P.toNat z.C.toNat z.C.toNat)
  rw [ha] at hL
  simp only [u64s, List.map_cons, List.map_nil] at hL
  have hof : ofV z = timesL [z.W.toNat, (z.T + 1).toNat, plusL [timesL [(z.Q + 2).toNat, plusL [sumV (holdV z) z.P.toNat z.C.toNat, holdV z, timesL [(z.T + 2).toNat, (4 * z.P + 4).toNat]]], 4 * (4 * z.P + 4).toNat]] := rfl
  have hsm := sumV_le (holdV z) z.P.toNat z.C.toNat
  obtain ⟨⟨m1, m2⟩, ⟨m3, m4⟩, ⟨m5, m6⟩, _, _, ⟨m7, m8⟩⟩ := hz
  have m9 : z.P ≤ 255 := by omega
  clear m4
  generalize sumV (holdV z) z.P.toNat z.C.toNat = sm at *
  generalize holdV z = H at *
  generalize ofV z = V at *
  obtain ⟨zW, zP, zT, zC, zN, zQ⟩ := z
  simp only at m1 m2 m3 m5 m6 m7 m8 m9 hof
  obtain ⟨xW, rfl⟩ : ∃ n : Nat, zW = (n : Int) := ⟨zW.toNat, by omega⟩
  obtain ⟨xP, rfl⟩ : ∃ n : Nat, zP = (n : Int) := ⟨zP.toNat, by omega⟩
  obtain ⟨xT, rfl⟩ : ∃ n : Nat, zT = (n : Int) := ⟨zT.toNat, by omega⟩
  obtain ⟨xQ, rfl⟩ : ∃ n : Nat, zQ = (n : Int) := ⟨zQ.toNat, by omega⟩
  rw [show ((xW : Int)).toNat = xW by omega, show ((xT : Int) + 1).toNat = xT + 1 by omega, show ((xQ : Int) + 2).toNat = xQ + 2 by omega, show ((xT : Int) + 2).toNat = xT + 2 by omega, show (4 * (xP : Int) + 4).toNat = 4 * xP + 4 by omega] at hof
  have hofH := hid hof
  clear hof ha
  have q1 : IntKind.i64.wrap (4 * (xP : Int)) = 4 * (xP : Int) := IntWalk.i64_in _ (by omega)
  have q2 : IntKind.i64.wrap (4 * (xP : Int) + 4) = 4 * (xP : Int) + 4 := IntWalk.i64_in _ (by omega)
  have q3 : IntKind.u64.wrap (4 * (xP : Int) + 4) = ((4 * xP + 4 : Nat) : Int) := by rw [u64_nat (by omega) (by omega)]; omega
  have q4 : IntKind.i64.wrap ((xT : Int) + 2) = (xT : Int) + 2 := IntWalk.i64_in _ (by omega)
  have q5 : IntKind.u64.wrap ((xT : Int) + 2) = ((xT + 2 : Nat) : Int) := by rw [u64_nat (by omega) (by omega)]; omega
  have q6 : IntKind.i64.wrap ((xT : Int) + 1) = (xT : Int) + 1 := IntWalk.i64_in _ (by omega)
  have q7 : IntKind.u64.wrap ((xT : Int) + 1) = ((xT + 1 : Nat) : Int) := by rw [u64_nat (by omega) (by omega)]; omega
  have q8 : IntKind.u64.wrap (xW : Int) = (xW : Int) := by rw [u64_nat (by omega) (by omega)]
  have q9 : IntKind.i64.wrap ((xQ : Int) + 2) = (xQ : Int) + 2 := IntWalk.i64_in _ (by omega)
  have q10 : IntKind.u64.wrap ((xQ : Int) + 2) = ((xQ + 2 : Nat) : Int) := by rw [u64_nat (by omega) (by omega)]; omega
  have q11 : IntKind.u64.wrap (4 * ((4 * xP + 4 : Nat) : Int)) = ((4 * (4 * xP + 4) : Nat) : Int) := by rw [u64_nat (by omega) (by omega)]; omega
  have b1 := hid (show 4 * xP + 4 ≤ MB by unfold MB; omega)
  have b2 := hid (show xT + 2 ≤ MB by unfold MB; omega)
  have b3 := hid (show xT + 1 ≤ MB by unfold MB; omega)
  have b4 := hid (show xW ≤ MB by unfold MB; omega)
  have b5 := hid (show xQ + 2 ≤ MB by unfold MB; omega)
  have b6 := hid (show 4 * (4 * xP + 4) ≤ MB by unfold MB; omega)
  have b7 := hid (show H ≤ MB by unfold MB; omega)
  have b8 := hid hsm
  clear m1 m2 m3 m5 m6 m7 m8 m9 hHl hsm
  generalize 4 * (4 * xP + 4) = y4 at *
  generalize 4 * xP + 4 = y1 at *
  generalize xT + 2 = y2 at *
  generalize xT + 1 = y3 at *
  generalize xQ + 2 = y5 at *
  go_enter Try.func7, Try.ntmps7
  go_wp2_with (fail)
  refine hC.mono ?_
  rintro e w1 ⟨rfl, hb1⟩
  have hb2 := hb0.trans (hb1.mono hb0.size)
  have hB1 := hB0.same (hb1.block _ hB0.lt)
  obtain ⟨z0, z1, z2, z3, z4, z5⟩ := zc_of hB1
  clear hB0 hC hb1 hb0
  go_wp2_with (fail)
  refine (hL w1).mono ?_
  rintro e w3 ⟨rfl, hb3⟩
  have hb4 := hb2.trans (hb3.mono hb2.size)
  have hB3 := hB1.same (hb3.block _ hB1.lt)
  clear hb2 hb3 z0 z1 z2 z3 z4 z5 hL hB1
  obtain ⟨W4, hW4⟩ : ∃ W4, W4 = w3.alloc (.cells #[.int .u64 (a0 : Int), .int .u64 (a1 : Int), .int .u64 (a2 : Int), .int .u64 (a3 : Int), .int .u64 (a4 : Int), .int .u64 (a5 : Int)] 41) := ⟨_, rfl⟩
  have hb5 : Below w.heap.size w W4 := by rw [hW4]; exact hb4.alloc hb4.size _
  have hB4 : Blk W4 w.heap.size 23 (szs ⟨(xW : Int), (xP : Int), (xT : Int), zC, zN, (xQ : Int)⟩) := by rw [hW4]; exact hB3.alloc _
  clear hB3 hb4
  have x1 : Hid (∀ x ∈ [y2, y1], x ≤ MB) := hid (by simp only [List.mem_cons, List.not_mem_nil, or_false]; rintro x (rfl | rfl); exact b2.out; exact b1.out)
  have x2 : Hid (∀ x ∈ [sm, H, timesL [y2, y1]], x ≤ MB) := hid (by simp only [List.mem_cons, List.not_mem_nil, or_false]; rintro x (rfl | rfl | rfl); exact b8.out; exact b7.out; exact timesL_le _)
  have hall := hid (show ∀ W, Fr w.heap.size W4 W → ZC W w.heap.size ⟨(xW : Int), (xP : Int), (xT : Int), zC, zN, (xQ : Int)⟩ from fun W hF => zc_of (hB4.same hF.eq))
  have hFr := Fr.refl hB4.lt
  obtain ⟨z0, z1, z2, z3, z4, z5⟩ := zc_of hB4
  go_upto_region 6 with (fail)
  rw [← hW4]
  clear hW4
  go_cut [8] (fun v8 wx => v8 = .int .u64 (plusL [sm, H, timesL [y2, y1]] : Int) ∧ Below w.heap.size w wx ∧ Blk wx w.heap.size 23 (szs ⟨(xW : Int), (xP : Int), (xT : Int), zC, zN, (xQ : Int)⟩))
  case first =>
    have hfin := hid (show ∀ W, Only (fun _ => False) W4 W → Below w.heap.size w W ∧ Blk W w.heap.size 23 (szs ⟨(xW : Int), (xP : Int), (xT : Int), zC, zN, (xQ : Int)⟩) from fun W hO => ⟨hO.below hb5 hb5.size (fun _ _ h => h.elim), hB4.only hO id⟩)
    go_region_held3 (fun W : World => ZC W w.heap.size ⟨(xW : Int), (xP : Int), (xT : Int), zC, zN, (xQ : Int)⟩) (first | (refine ⟨?_, ?_, ?_, ?_, ?_, ?_⟩ <;> assumption) | (refine hall.out _ ?_; repeat (first | exact hFr | apply Fr.drew | apply Fr.drewN | apply Fr.alloc)) | go_keep) (first
      | (go_at_call 24; refine (times_at _ 2 [y2, y1] (by simp) x1 _ ?_).mono ?_; (repeat (first | apply n64_drew | exact n64_new [y2, y1] (by simp) | apply n64_alloc)); rintro e w3 ⟨rfl, rfl⟩)
      | (go_at_call 22; refine (plus_at _ 3 [sm, H, timesL [y2, y1]] (by simp) x2 _ ?_).mono ?_; (repeat (first | apply n64_drew | exact n64_new [sm, H, timesL [y2, y1]] (by simp) | apply n64_alloc)); rintro e w3 ⟨rfl, rfl⟩)
      | (go_at_call 23; refine (hH _).mono ?_; rintro e w2 ⟨rfl, rfl⟩))
    all_goals go_wp2_with (fail)
    all_goals go_meet
    all_goals (refine ⟨rfl, hfin.out _ ?_⟩; repeat (first | exact on_refl _ | apply on_drew | apply on_drewN | apply on_alloc))
  case rest =>
    clear hB4 hb5 hall hFr z0 z1 z2 z3 z4 z5 x1 x2
    obtain ⟨rfl, hb5, hB4⟩ := hcut
    have x1 : Hid (∀ x ∈ [y5, plusL [sm, H, timesL [y2, y1]]], x ≤ MB) := hid (by simp only [List.mem_cons, List.not_mem_nil, or_false]; rintro x (rfl | rfl); exact b5.out; exact plusL_le _)
    have x2 : Hid (∀ x ∈ [timesL [y5, plusL [sm, H, timesL [y2, y1]]], y4], x ≤ MB) := hid (by simp only [List.mem_cons, List.not_mem_nil, or_false]; rintro x (rfl | rfl); exact timesL_le _; exact b6.out)
    have x3 : Hid (∀ x ∈ [xW, y3, plusL [timesL [y5, plusL [sm, H, timesL [y2, y1]]], y4]], x ≤ MB) := hid (by simp only [List.mem_cons, List.not_mem_nil, or_false]; rintro x (rfl | rfl | rfl); exact b4.out; exact b3.out; exact plusL_le _)
    have hall := hid (show ∀ W, Fr w.heap.size wc W → ZC W w.heap.size ⟨(xW : Int), (xP : Int), (xT : Int), zC, zN, (xQ : Int)⟩ from fun W hF => zc_of (hB4.same hF.eq))
    have hFr := Fr.refl hB4.lt
    have hfin := hid (show ∀ W, Only (fun _ => False) wc W → Below w.heap.size w W from fun W hO => hO.below hb5 hb5.size (fun _ _ h => h.elim))
    obtain ⟨z0, z1, z2, z3, z4, z5⟩ := zc_of hB4
    clear hb5 hB4 hH
    generalize plusL [sm, H, timesL [y2, y1]] = all at *
    go_wp2_with (fail)
    go_region_held3 (fun W : World => ZC W w.heap.size ⟨(xW : Int), (xP : Int), (xT : Int), zC, zN, (xQ : Int)⟩) (first | (refine ⟨?_, ?_, ?_, ?_, ?_, ?_⟩ <;> assumption) | (refine hall.out _ ?_; repeat (first | exact hFr | apply Fr.drew | apply Fr.drewN | apply Fr.alloc)) | go_keep) (first
      | (go_at_call_of 24 (Value.slice (some ⟨wc.heap.size, 0, none⟩) 2 2); refine (times_at _ 2 [y5, all] (by simp) x1 _ ?_).mono ?_; (repeat (first | apply n64_drew | exact n64_new [y5, all] (by simp) | apply n64_alloc)); rintro e w2 ⟨rfl, rfl⟩)
      | (go_at_call 22; refine (plus_at _ 2 [timesL [y5, all], y4] (by simp) x2 _ ?_).mono ?_; (repeat (first | apply n64_drew | exact n64_new [timesL [y5, all], y4] (by simp) | apply n64_alloc)); rintro e w2 ⟨rfl, rfl⟩)
      | (go_at_call 24; refine (times_at _ 3 [xW, y3, plusL [timesL [y5, all], y4]] (by simp) x3 _ ?_).mono ?_; (repeat (first | apply n64_drew | exact n64_new [xW, y3, plusL [timesL [y5, all], y4]] (by simp) | apply n64_alloc)); rintro e w2 ⟨rfl, rfl⟩))
    all_goals go_wp2_with (fail)
    all_goals go_ret2
    all_goals (refine ⟨by rw [hofH.out]; rfl, hfin.out _ ?_⟩; repeat (first | exact on_refl _ | apply on_drew | apply on_drewN | apply on_alloc))
end Go.Proofs.Ytabcodjalacdjac.BoundCode
