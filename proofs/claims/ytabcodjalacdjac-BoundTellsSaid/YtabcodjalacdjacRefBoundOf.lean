
/- The document's bound: Locks, Of. -/
import Derived.Test.YtabcodjalacdjacRefBound
namespace Go.Proofs.Ytabcodjalacdjac.RefBound
open Go Go.RowKit Go.Proofs.Ytabcodjalacdjac.Obj Go.Proofs.Ytabcodjalacdjac.Row Go.Proofs.Ytabcodjalacdjac.BoundPure Go.Proofs.Ytabcodjalacdjac.BoundCode Go.Proofs.YtabcodjalacdjacW.PrintWords Go.Proofs.YtabcodjalacdjacW.PrintMore
set_option linter.unusedVariables false
set_option maxRecDepth 100000
theorem u64_info : (Try.prog.info? 25).map (fun i => (i.zero, i.size, i.bytes)) = some (some (.int .u64 0), 1, 8) := by kernel_rfl
theorem made_u64 (m : Nat) (hm : m ≤ 10000) (W : World) : (Instr.makeSlice 36 (.int .i64 (m : Int)) (.int .i64 (m : Int))).run Try.prog W = .ok (.slice (some ⟨W.heap.size, 0, none⟩) m m) (W.alloc (.cells (u64s (List.replicate m 0)).toArray 25)) := by
  obtain ⟨i0, hi, hz⟩ := Option.map_eq_some_iff.1 u64_info
  simp only [Prod.mk.injEq] at hz
  obtain ⟨h1, h2, h3⟩ := hz
  have := run_make (P := Try.prog) W 36 25 i0 (.int .u64 0) Try.underlying36 hi h1 .i64 .i64 m m (by omega) (by omega) (by rw [h3]; omega) (by omega)
  have e : madeCells #[Value.int .u64 0] m = (u64s (List.replicate m 0)).toArray := by
    apply Array.ext'
    apply List.ext_getElem?
    intro i
    unfold madeCells
    by_cases h : i < m
    · simp [h, u64s, Nat.mod_one]
    · simp [h, u64s]
  rw [← e]
  simpa [h2, Value.cells] using this
/-- The channels' numbers; those of the first j rounds. -/
def locksJ (H P C j : Nat) : List Nat := (List.range C).map fun k => if C - j ≤ k then lockV H P (C - 1 - k) else 0
def locksL (H P C : Nat) : List Nat := (List.range C).map fun k => lockV H P (C - 1 - k)
theorem locksJ_len (H P C j : Nat) : (locksJ H P C j).length = C := by simp [locksJ]
theorem locksL_len (H P C : Nat) : (locksL H P C).length = C := by simp [locksL]
theorem locksJ_zero (H P C : Nat) : locksJ H P C 0 = List.replicate C 0 := by
  apply List.ext_getElem?
  intro k
  unfold locksJ
  rw [List.getElem?_map]
  by_cases hk : k < C
  · rw [List.getElem?_range hk, List.getElem?_replicate, if_pos hk, Option.map_some, if_neg (by omega)]
  · rw [List.getElem?_eq_none (by simp; omega), List.getElem?_replicate, if_neg hk]; rfl
theorem locksJ_all (H P C : Nat) : locksJ H P C C = locksL H P C := by
  unfold locksJ locksL
  apply List.map_congr_left
  intro k hk
  rw [if_pos (by omega)]
theorem locksJ_get (H P C j k : Nat) (hk : k < C) : (locksJ H P C j)[k]? = some (if C - j ≤ k then lockV H P (C - 1 - k) else 0) := by
  unfold locksJ
  rw [List.getElem?_map, List.getElem?_range hk]; rfl
theorem locksL_get (H P C k : Nat) (hk : k < C) : (locksL H P C)[k]? = some (lockV H P (C - 1 - k)) := by
  unfold locksL
  rw [List.getElem?_map, List.getElem?_range hk]; rfl
theorem locksJ_step (H P C j : Nat) (hj : j < C) : locksJ H P C (j + 1) = (locksJ H P C j).set (C - 1 - j) (lockV H P j) := by
  apply List.ext_getElem?
  intro k
  rw [List.getElem?_set, locksJ_len]
  by_cases hk : k < C
  · rw [locksJ_get _ _ _ _ _ hk, locksJ_get _ _ _ _ _ hk]
    by_cases e : C - 1 - j = k
    · subst e
      rw [if_pos rfl, if_pos hk, if_pos (by omega), show C - 1 - (C - 1 - j) = j by omega]
    · rw [if_neg e]
      congr 1
      by_cases h : C - j ≤ k
      · rw [if_pos h, if_pos (by omega)]
      · rw [if_neg h, if_neg (by omega)]
  · rw [List.getElem?_eq_none (by rw [locksJ_len]; omega), List.getElem?_eq_none (by rw [locksJ_len]; omega)]
    split
    · rw [if_neg (by omega)]
    · rfl
theorem lockV_eq (H P i : Nat) (hP : P ≤ MB) (hH : H ≤ MB) : lockV H P i = satt P (satp H (sumV H P i)) := by
  show satt (satt 1 P) (satp (satp 0 H) (sumV H P i)) = _
  rw [satt_one hP, satp_zero hH]
theorem sumV_eq (H P i : Nat) : sumV H P (i + 1) = satp (sumV H P i) (satp (lockV H P i) 2) := by
  rw [sumV_succ]
  show satp (satp (satp 0 (sumV H P i)) (lockV H P i)) 2 = _
  rw [satp_zero (sumV_le H P i), satp_assoc]
set_option maxHeartbeats 4000000 in
theorem rlocks_at (z : Sz) (hz : May z) (w : World) : Calls Try.prog 20 #[sv z] w fun e w' => ∃ A c, e = .returned (.slice A z.C.toNat c) ∧ N64 w' A (locksL (holdV z) z.P.toNat z.C.toNat) ∧ Below w.heap.size w w' := by
  have hHz := rhold_at z hz
  have hHl : holdV z ≤ 1624 := by have := hold_lt hz; unfold holdV; omega
  have hC6 : 0 ≤ z.C ∧ z.C ≤ 6 := hz.2.2.2.1
  have hP6 : 1 ≤ z.P ∧ z.P ≤ min 255 z.W := hz.2.1
  clear hz
  obtain ⟨zW, zP, zT, zC, zN, zQ⟩ := z
  simp only at hC6 hP6
  obtain ⟨C, rfl⟩ : ∃ C : Nat, zC = (C : Int) := ⟨zC.toNat, by omega⟩
  obtain ⟨P, rfl⟩ : ∃ P : Nat, zP = (P : Int) := ⟨zP.toNat, by omega⟩
  have hP255 : P ≤ 255 := by omega
  have hC7 : C ≤ 6 := by omega
  simp only [Int.toNat_natCast]
  generalize holdV ⟨zW, P, zT, C, zN, zQ⟩ = H at *
  have hmk := made_u64 C (by omega)
  have q0 : IntKind.i64.wrap ((C : Int) - 1) = (C : Int) - 1 := IntWalk.i64_in _ (by omega)
  clear hC6 hP6
  have B0 := Blk.new w 23 (szs ⟨zW, P, zT, C, zN, zQ⟩)
  obtain ⟨z0, z1, z2, z3, z4, z5⟩ := zc_of (B0.alloc (.cells (u64s (List.replicate C 0)).toArray 25))
  have R0 : Blk ((w.alloc (.cells (szs ⟨zW, P, zT, C, zN, zQ⟩).toArray 23)).alloc (.cells (u64s (List.replicate C 0)).toArray 25)) (w.heap.size + 1) 25 (u64s (locksJ H P C 0)) := by
    rw [locksJ_zero]
    have := Blk.new (w.alloc (.cells (szs ⟨zW, P, zT, C, zN, zQ⟩).toArray 23)) 25 (u64s (List.replicate C 0))
    rwa [World.size_alloc] at this
  have k0 : Below w.heap.size w ((w.alloc (.cells (szs ⟨zW, P, zT, C, zN, zQ⟩).toArray 23)).alloc (.cells (u64s (List.replicate C 0)).toArray 25)) := ((Below.refl _ _).alloc (Nat.le_refl _) _).alloc (by simp) _
  go_enter Try.func20, Try.ntmps20
  go_wp2_with (fail)
  clear z0 z1 z2 z3 z4 z5
  go_loopg [4, 5] C (fun kq v4 v5 w' => ∃ j : Nat, kq + j = C ∧ v5 = .int .i64 ((C : Int) - 1 - (j : Int)) ∧ v4 = .int .u64 (sumV H P j : Int) ∧ Below w.heap.size w w' ∧ Blk w' w.heap.size 23 (szs ⟨zW, P, zT, C, zN, zQ⟩) ∧ Blk w' (w.heap.size + 1) 25 (u64s (locksJ H P C j)))
  case atStart => exact ⟨0, by omega, by congr 1; omega, rfl, k0, B0.alloc _, R0⟩
  case round =>
    clear k0 B0 R0
    obtain ⟨j, hj, rfl, rfl, hb, hB, hR⟩ := hrel
    cases gk with
    | zero =>
      obtain rfl : j = C := by omega
      have hin : ¬ ((0 : Int) ≤ (j : Int) - 1 - (j : Int)) := by omega
      rw [locksJ_all] at hR
      have hN : N64 wr (some ⟨w.heap.size + 1, 0, none⟩) (locksL H P j) := ⟨fun i hi => ⟨_, rfl, by
        rw [addr_add0, hR.cell i]
        rw [List.length_map] at hi
        simp [u64s, List.getD_eq_getElem?_getD, hi]⟩⟩
      clear hHz hB hR
      go_wp2
      go_ret
      exact ⟨_, ⟨_, rfl⟩, hN, hb⟩
    | succ m =>
      obtain ⟨i, hi⟩ : ∃ i, i = C - 1 - j := ⟨_, rfl⟩
      have hiC : i < C := by omega
      have e5 : (C : Int) - 1 - (j : Int) = (i : Int) := by omega
      rw [e5]
      have hi0 : (0 : Int) ≤ (i : Int) := by omega
      have hi1 : (i : Int) < (C : Int) := by omega
      obtain ⟨z0, z1, z2, z3, z4, z5⟩ := zc_of hB
      obtain ⟨y, hy⟩ : ∃ y, wr.cell? ⟨w.heap.size + 1, i, none⟩ = some y := ⟨_, (hR.cell i).trans (List.getElem?_eq_getElem (by rw [u64s, List.length_map, locksJ_len]; exact hiC))⟩
      have q3 : IntKind.u64.wrap (P : Int) = (P : Int) := by rw [u64_nat (by omega) (by omega)]
      have hall := hid (show ∀ W, Fr w.heap.size wr W → ZC W w.heap.size ⟨zW, P, zT, C, zN, zQ⟩ from fun W hF => zc_of (hB.same hF.eq))
      have hFr := Fr.refl hB.lt
      have hy3 : (wr.alloc (.cells (szs ⟨zW, P, zT, C, zN, zQ⟩).toArray 23)).cell? ⟨w.heap.size + 1, i, none⟩ = some y := by rw [← hy, (hR.alloc _).cell, hR.cell]
      have hf3 : (wr.alloc (.cells (szs ⟨zW, P, zT, C, zN, zQ⟩).toArray 23)).frozen? ⟨w.heap.size + 1, i, none⟩ = false := (hR.alloc _).frozen i
      have hA := fun w => add_at H (sumV H P j) (by unfold MB; omega) (sumV_le H P j) w
      have hM := fun w => mul_at P (satp H (sumV H P j)) (by unfold MB; omega) (satp_le _ _) w
      rw [← lockV_eq H P j (by unfold MB; omega) (by unfold MB; omega)] at hM
      have hiH := hid hi
      clear hi e5
      go_wp2_with (fail)
      go_region_held3 (fun W : World => ZC W w.heap.size ⟨zW, P, zT, C, zN, zQ⟩) (first | (refine ⟨?_, ?_, ?_, ?_, ?_, ?_⟩ <;> assumption) | (refine hall.out _ ?_; repeat (first | exact hFr | apply Fr.drew | apply Fr.drewN | apply Fr.alloc | apply Fr.set1)) | go_keep) (first
        | (go_at_call 19; refine (hHz _).mono ?_; rintro e w2 ⟨rfl, rfl⟩)
        | (go_at_call 28; refine (hA _).mono ?_; rintro e w2 ⟨rfl, rfl⟩)
        | (go_at_call 29; refine (hM _).mono ?_; rintro e w2 ⟨rfl, rfl⟩))
      obtain ⟨W5, hW5⟩ : ∃ W5, W5 = ((wr.alloc (.cells (szs ⟨zW, P, zT, C, zN, zQ⟩).toArray 23)).setCell ⟨w.heap.size + 1, i, none⟩ (.int .u64 (lockV H P j : Int))).drew := ⟨_, rfl⟩
      have hB5 : Blk W5 w.heap.size 23 (szs ⟨zW, P, zT, C, zN, zQ⟩) := by rw [hW5]; exact (hB.alloc _).set_other _ _ (by show w.heap.size ≠ w.heap.size + 1; omega)
      have hR5 : Blk W5 (w.heap.size + 1) 25 (u64s (locksJ H P C (j + 1))) := by
        have := (hR.alloc (.cells (szs ⟨zW, P, zT, C, zN, zQ⟩).toArray 23)).set i (.int .u64 (lockV H P j : Int))
        rw [locksJ_step H P C j (by omega), ← hiH.out, hW5]
        unfold u64s at *
        rw [List.map_set]
        exact this
      have hb5 : Below w.heap.size w W5 := by
        rw [hW5]
        have := (hb.alloc hb.size (.cells (szs ⟨zW, P, zT, C, zN, zQ⟩).toArray 23)).setCell (p := ⟨w.heap.size + 1, i, none⟩) (Nat.le_succ _) (.int .u64 (lockV H P j : Int))
        exact ⟨this.os, this.tape, this.output, this.size, this.block⟩
      rw [← hW5]
      clear hW5 hy3 hf3 hall hFr hB hR hb z0 z1 z2 z3 z4 z5 hy hA hM
      have hcj : W5.cell? ⟨w.heap.size + 1, i, none⟩ = some (.int .u64 (lockV H P j : Int)) := by
        rw [hR5.cell, u64s, List.getElem?_map, locksJ_get _ _ _ _ _ hiC, if_pos (by have := hiH.out; omega)]
        have : C - 1 - i = j := by have := hiH.out; omega
        rw [this]; rfl
      have hA1 := fun w => add_at (lockV H P j) 2 (lockV_le H P j) (by decide) w
      have hA2 := fun w => add_at (sumV H P j) (satp (lockV H P j) 2) (sumV_le H P j) (satp_le _ _) w
      rw [← sumV_eq] at hA2
      have qi : IntKind.i64.wrap ((i : Int) - 1) = (i : Int) - 1 := IntWalk.i64_in _ (by omega)
      go_wp2_with (fail)
      refine (hA1 W5).mono ?_
      rintro e w6 ⟨rfl, hw⟩
      obtain rfl : W5 = w6 := hw.symm
      go_wp2_with (fail)
      refine (hA2 W5).mono ?_
      rintro e w6 ⟨rfl, hw⟩
      obtain rfl : W5 = w6 := hw.symm
      have hie := hiH.out
      go_wp2_with (fail)
      go_roundg m
      case measure => omega
      case rel => exact ⟨j + 1, by omega, by congr 1; omega, rfl, hb5, hB5, hR5⟩
/-- The sum the other way round. -/
def upV (H P C : Nat) : Nat → Nat
  | 0 => 0
  | i + 1 => satp (upV H P C i) (satp (lockV H P (C - 1 - i)) 2)
def tot (H P : Nat) : Nat → Nat
  | 0 => 0
  | i + 1 => tot H P i + lockV H P i + 2
def totU (H P C : Nat) : Nat → Nat
  | 0 => 0
  | i + 1 => totU H P C i + lockV H P (C - 1 - i) + 2
theorem tot_succ (H P i : Nat) : tot H P (i + 1) = tot H P i + lockV H P i + 2 := rfl
theorem totU_succ (H P C i : Nat) : totU H P C (i + 1) = totU H P C i + lockV H P (C - 1 - i) + 2 := rfl
theorem upV_succ (H P C i : Nat) : upV H P C (i + 1) = satp (upV H P C i) (satp (lockV H P (C - 1 - i)) 2) := rfl
theorem sat_sat (a b : Nat) : satp (min a MB) (satp b 2) = min (a + b + 2) MB := by unfold satp; omega
theorem sum_tot (H P : Nat) : ∀ i, sumV H P i = min (tot H P i) MB
  | 0 => by simp [sumV, tot]
  | i + 1 => by rw [sumV_eq, sum_tot H P i, tot_succ, sat_sat]
theorem up_tot (H P C : Nat) : ∀ i, upV H P C i = min (totU H P C i) MB
  | 0 => by simp [upV, totU]
  | i + 1 => by rw [upV_succ, up_tot H P C i, totU_succ, sat_sat]
theorem tot_rev (H P C : Nat) : ∀ i, i ≤ C → totU H P C i + tot H P (C - i) = tot H P C
  | 0, _ => by simp [totU]
  | i + 1, h => by
    have ih := tot_rev H P C i (by omega)
    rw [show C - i = (C - 1 - i) + 1 by omega, tot_succ] at ih
    rw [totU_succ, show C - (i + 1) = C - 1 - i by omega]
    omega
theorem up_sum (H P C : Nat) : upV H P C C = sumV H P C := by
  rw [up_tot, sum_tot]
  have := tot_rev H P C C (Nat.le_refl _)
  rw [Nat.sub_self, show tot H P 0 = 0 from rfl] at this
  rw [show totU H P C C = tot H P C by omega]
theorem upV_le (H P C : Nat) : ∀ i, upV H P C i ≤ MB
  | 0 => Nat.zero_le _
  | i + 1 => satp_le _ _
theorem ofV_eq (z : Sz) (H P C : Nat) (h4 : 4 * (4 * z.P + 4).toNat ≤ MB) (h5 : (4 * z.P + 4).toNat ≤ MB) (hW : z.W.toNat ≤ MB) (hT : (z.T + 2).toNat ≤ MB) (hQ : (z.Q + 2).toNat ≤ MB) (hH : holdV z = H) (hP : z.P.toNat = P) (hC : z.C.toNat = C) :
    ofV z = satt (satt z.W.toNat (z.T + 1).toNat) (satp (satt (z.Q + 2).toNat (satp (satp (sumV H P C) H) (satt (z.T + 2).toNat (4 * z.P + 4).toNat))) (4 * (4 * z.P + 4).toNat)) := by
  unfold ofV
  rw [hH, hP, hC]
  show satt (satt (satt 1 _) _) (satp (satp 0 (satt (satt 1 _) (satp (satp (satp 0 _) _) (satt (satt 1 _) _)))) _) = _
  rw [satt_one hW, satt_one hT, satt_one hQ, satp_zero (sumV_le _ _ _), satp_zero (satt_le _ _)]
set_option maxHeartbeats 4000000 in
theorem rof_at (z : Sz) (hz : May z) (w : World) : Calls Try.prog 18 #[sv z] w fun e w' => e = .returned (.int .u64 (ofV z : Int)) ∧ Below w.heap.size w w' := by
  have hL := fun w => rlocks_at z hz w
  have hHz := rhold_at z hz
  have hHl : holdV z ≤ 1624 := by have := hold_lt hz; unfold holdV; omega
  obtain ⟨⟨m1, m2⟩, ⟨m3, m4⟩, ⟨m5, m6⟩, ⟨m10, m11⟩, _, ⟨m7, m8⟩⟩ := hz
  have m9 : z.P ≤ 255 := by omega
  clear m4
  have hof := ofV_eq z _ _ _ (by unfold MB; omega) (by unfold MB; omega) (by unfold MB; omega) (by unfold MB; omega) (by unfold MB; omega) rfl rfl rfl
  obtain ⟨zW, zP, zT, zC, zN, zQ⟩ := z
  simp only at m1 m2 m3 m5 m6 m7 m8 m9 m10 m11 hof
  obtain ⟨xW, rfl⟩ : ∃ n : Nat, zW = (n : Int) := ⟨zW.toNat, by omega⟩
  obtain ⟨xP, rfl⟩ : ∃ n : Nat, zP = (n : Int) := ⟨zP.toNat, by omega⟩
  obtain ⟨xT, rfl⟩ : ∃ n : Nat, zT = (n : Int) := ⟨zT.toNat, by omega⟩
  obtain ⟨C, rfl⟩ : ∃ n : Nat, zC = (n : Int) := ⟨zC.toNat, by omega⟩
  obtain ⟨xQ, rfl⟩ : ∃ n : Nat, zQ = (n : Int) := ⟨zQ.toNat, by omega⟩
  have hC6 : C ≤ 6 := by omega
  simp only [Int.toNat_natCast] at hof hL
  rw [show ((xT : Int) + 1).toNat = xT + 1 by omega, show ((xQ : Int) + 2).toNat = xQ + 2 by omega, show ((xT : Int) + 2).toNat = xT + 2 by omega, show (4 * (xP : Int) + 4).toNat = 4 * xP + 4 by omega] at hof
  generalize holdV _ = H at *
  have hofH := hid hof
  clear hof
  have q1 : IntKind.i64.wrap (4 * (xP : Int)) = 4 * (xP : Int) := IntWalk.i64_in _ (by omega)
  have q2 : IntKind.i64.wrap (4 * (xP : Int) + 4) = 4 * (xP : Int) + 4 := IntWalk.i64_in _ (by omega)
  have q3 : IntKind.u64.wrap (4 * (xP : Int) + 4) = ((4 * xP + 4 : Nat) : Int) := by rw [u64_nat (by omega) (by omega)]; omega
  have q4 : IntKind.i64.wrap ((xT : Int) + 2) = (xT : Int) + 2 := IntWalk.i64_in _ (by omega)
  have q5 : IntKind.u64.wrap ((xT : Int) + 2) = ((xT + 2 : Nat) : Int) := by rw [u64_nat (by omega) (by omega)]; omega
  have q6 : IntKind.i64.wrap ((xT : Int) + 1) = (xT : Int) + 1 := IntWalk.i64_in _ (by omega)
  have q7 : IntKind.u64.wrap ((xT : Int) + 1) = ((xT + 1 : Nat) : Int) := by rw [u64_nat (by omega) (by omega)]; omega
  have q8 : IntKind.u64.wrap (xW : Int) = (xW : Int) := by rw [u64_nat (by omega) (by omega)]
  have q9 : IntKind.i64.wrap ((xQ : Int) + 2) = (xQ : Int) + 2 := IntWalk.i64_in _ (by omega)
  have q10 : IntKind.u64.wrap ((xQ : Int) + 2) = ((xQ + 2 : Nat) : Int) := by rw [u64_nat (by omega) (by omega)]; omega
  have q11 : IntKind.u64.wrap (4 * ((4 * xP + 4 : Nat) : Int)) = ((4 * (4 * xP + 4) : Nat) : Int) := by rw [u64_nat (by omega) (by omega)]; omega
  have b1 := hid (show 4 * xP + 4 ≤ MB by unfold MB; omega)
  have b2 := hid (show xT + 2 ≤ MB by unfold MB; omega)
  have b3 := hid (show xT + 1 ≤ MB by unfold MB; omega)
  have b4 := hid (show xW ≤ MB by unfold MB; omega)
  have b5 := hid (show xQ + 2 ≤ MB by unfold MB; omega)
  have b6 := hid (show 4 * (4 * xP + 4) ≤ MB by unfold MB; omega)
  have b7 := hid (show H ≤ MB by unfold MB; omega)
  clear m1 m2 m3 m5 m6 m7 m8 m9 m10 m11 hHl
  generalize 4 * (4 * xP + 4) = y4 at *
  generalize 4 * xP + 4 = y1 at *
  generalize xT + 2 = y2 at *
  generalize xT + 1 = y3 at *
  generalize xQ + 2 = y5 at *
  have B0 := Blk.new w 23 (szs ⟨(xW : Int), (xP : Int), (xT : Int), (C : Int), zN, (xQ : Int)⟩)
  have k0 : Below w.heap.size w (w.alloc (.cells (szs ⟨(xW : Int), (xP : Int), (xT : Int), (C : Int), zN, (xQ : Int)⟩).toArray 23)) := (Below.refl _ _).alloc (Nat.le_refl _) _
  generalize ofV _ = V at *
  go_enter Try.func18, Try.ntmps18
  go_wp2_with (fail)
  refine (hL _).mono ?_
  rintro e w1 ⟨A, c, rfl, hN, hb1⟩
  have k1 := k0.trans (hb1.mono k0.size)
  have B1 := B0.same (hb1.block _ B0.lt)
  clear hL k0 B0 hb1
  go_wp2_with (fail)
  go_loopg [4, 6] C (fun kq v4 v6 w' => ∃ i : Nat, kq + i = C ∧ v6 = .int .i64 (i : Int) ∧ v4 = .int .u64 (upV H xP C i : Int) ∧ w' = w1)
  case atStart => exact ⟨0, by omega, rfl, rfl, rfl⟩
  case round =>
    obtain ⟨i, hi, rfl, rfl, rfl⟩ := hrel
    cases gk with
    | succ m =>
      have hin : ((i : Int) < (C : Int)) := by omega
      obtain ⟨b, o, rfl, _, hc⟩ := hN.at i (by rw [locksL_len]; omega)
      have hg := locksL_get H xP C i (by omega)
      rw [List.getElem?_eq_getElem (by rw [locksL_len]; omega)] at hg
      rw [Option.some.inj hg] at hc
      have hA1 := fun w => add_at (lockV H xP (C - 1 - i)) 2 (lockV_le _ _ _) (by decide) w
      have hA2 := fun w => add_at (upV H xP C i) (satp (lockV H xP (C - 1 - i)) 2) (upV_le _ _ _ _) (satp_le _ _) w
      rw [← upV_succ] at hA2
      clear hg
      go_wp2_with (fail)
      refine (hA1 _).mono ?_
      rintro e w6 ⟨rfl, hw⟩
      obtain rfl := hw.symm
      go_wp2_with (fail)
      refine (hA2 _).mono ?_
      rintro e w6 ⟨rfl, hw⟩
      obtain rfl := hw.symm
      go_wp2_with (fail)
      go_roundg m
      case measure => omega
      case rel => exact ⟨i + 1, by omega, by go_num, rfl, rfl⟩
    | zero =>
      have hin : ¬ ((i : Int) < (C : Int)) := by omega
      obtain rfl : i = C := by omega
      rw [up_sum]
      clear hN
      have b8 := hid (sumV_le H xP i)
      generalize sumV H xP i = sm at *
      have hall := hid (show ∀ W, Fr w.heap.size wr W → ZC W w.heap.size ⟨(xW : Int), (xP : Int), (xT : Int), (i : Int), zN, (xQ : Int)⟩ from fun W hF => zc_of (B1.same hF.eq))
      have hFr := Fr.refl B1.lt
      obtain ⟨z0, z1, z2, z3, z4, z5⟩ := zc_of B1
      have hA1 := fun w => add_at sm H b8.out b7.out w
      have hM1 := fun w => mul_at y2 y1 b2.out b1.out w
      have hA2 := fun w => add_at (satp sm H) (satt y2 y1) (satp_le _ _) (satt_le _ _) w
      go_upto_region 8 with (fail)
      go_cut [4] (fun v4 wx => v4 = .int .u64 (satp (satp sm H) (satt y2 y1) : Int) ∧ Below w.heap.size w wx ∧ Blk wx w.heap.size 23 (szs ⟨(xW : Int), (xP : Int), (xT : Int), (i : Int), zN, (xQ : Int)⟩))
      case first =>
        have hfin := hid (show ∀ W, Only (fun _ => False) wr W → Below w.heap.size w W ∧ Blk W w.heap.size 23 (szs ⟨(xW : Int), (xP : Int), (xT : Int), (i : Int), zN, (xQ : Int)⟩) from fun W hO => ⟨hO.below k1 k1.size (fun _ _ h => h.elim), B1.only hO id⟩)
        go_region_held3 (fun W : World => ZC W w.heap.size ⟨(xW : Int), (xP : Int), (xT : Int), (i : Int), zN, (xQ : Int)⟩) (first | (refine ⟨?_, ?_, ?_, ?_, ?_, ?_⟩ <;> assumption) | (refine hall.out _ ?_; repeat (first | exact hFr | apply Fr.drew | apply Fr.drewN | apply Fr.alloc)) | go_keep) (first
          | (go_at_call 19; refine (hHz _).mono ?_; rintro e w2 ⟨rfl, rfl⟩)
          | (go_at_call 29; refine (hM1 _).mono ?_; rintro e w2 ⟨rfl, rfl⟩)
          | (go_at_call_of 28 (Value.int IntKind.u64 (sm : Int)); refine (hA1 _).mono ?_; rintro e w2 ⟨rfl, rfl⟩)
          | (go_at_call 28; refine (hA2 _).mono ?_; rintro e w2 ⟨rfl, rfl⟩))
        all_goals go_wp2_with (fail)
        all_goals go_meet
        all_goals (refine ⟨rfl, hfin.out _ ?_⟩; repeat (first | exact on_refl _ | apply on_drew | apply on_drewN | apply on_alloc))
      case rest =>
        clear B1 k1 hall hFr z0 z1 z2 z3 z4 z5 hA1 hM1 hA2 hHz
        obtain ⟨rfl, k2, B2⟩ := hcut
        have hall := hid (show ∀ W, Fr w.heap.size wc W → ZC W w.heap.size ⟨(xW : Int), (xP : Int), (xT : Int), (i : Int), zN, (xQ : Int)⟩ from fun W hF => zc_of (B2.same hF.eq))
        have hFr := Fr.refl B2.lt
        obtain ⟨z0, z1, z2, z3, z4, z5⟩ := zc_of B2
        have hfin := hid (show ∀ W, Only (fun _ => False) wc W → Below w.heap.size w W from fun W hO => hO.below k2 k2.size (fun _ _ h => h.elim))
        have b9 := hid (satp_le (satp sm H) (satt y2 y1))
        generalize satp (satp sm H) (satt y2 y1) = all at *
        have hM1 := fun w => mul_at xW y3 b4.out b3.out w
        have hM2 := fun w => mul_at y5 all b5.out b9.out w
        have hA1 := fun w => add_at (satt y5 all) y4 (satt_le _ _) b6.out w
        have hM3 := fun w => mul_at (satt xW y3) (satp (satt y5 all) y4) (satt_le _ _) (satp_le _ _) w
        clear B2 k2
        go_wp2_with (fail)
        go_region_held3 (fun W : World => ZC W w.heap.size ⟨(xW : Int), (xP : Int), (xT : Int), (i : Int), zN, (xQ : Int)⟩) (first | (refine ⟨?_, ?_, ?_, ?_, ?_, ?_⟩ <;> assumption) | (refine hall.out _ ?_; repeat (first | exact hFr | apply Fr.drew | apply Fr.drewN | apply Fr.alloc)) | go_keep) (first
          | (go_at_call_of 29 (Value.int IntKind.u64 (xW : Int)); refine (hM1 _).mono ?_; rintro e w2 ⟨rfl, rfl⟩)
          | (go_at_call_of 29 (Value.int IntKind.u64 (y5 : Int)); refine (hM2 _).mono ?_; rintro e w2 ⟨rfl, rfl⟩)
          | (go_at_call 29; refine (hM3 _).mono ?_; rintro e w2 ⟨rfl, rfl⟩)
          | (go_at_call 28; refine (hA1 _).mono ?_; rintro e w2 ⟨rfl, rfl⟩))
        all_goals go_wp2_with (fail)
        all_goals go_ret
        all_goals (refine ⟨by rw [hofH.out]; rfl, hfin.out _ ?_⟩; repeat (first | exact on_refl _ | apply on_drew | apply on_drewN | apply on_alloc))
end Go.Proofs.Ytabcodjalacdjac.RefBound
