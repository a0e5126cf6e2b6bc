
/- The law GuardRight. -/
import Derived.Test.YtabcodjalacdjabGuardAlive
import Derived.Test.YtabcodjalacdjabSame08
namespace Go.Proofs.Ytabcodjalacdjab.GuardCode
open Go Go.RowKit Go.Proofs.Ytabcodjalacdjab.Obj Go.Proofs.Ytabcodjalacdjab.Row Go.Proofs.Ytabcodjalacdjab.CellCode Go.Proofs.Ytabcodjalacdjab.TicketCode Go.Proofs.Ytabcodjalacdjab.GuardLocks Go.Proofs.YtabcodjalacdjabW.PrintWords Go.Proofs.YtabcodjalacdjabW.PrintMore
set_option linter.unusedVariables false
set_option maxRecDepth 100000
section
variable {w w' : World} {g x c lb : Nat} {s : Gs} {L : List Nat} {N : Nat} {A : Option Addr} {r r' D G : List Int}
def riseB (r : List Int) : Bool := (List.range r.length).all fun i => decide (lastOf r i < r.getD i 0) && decide (r.getD i 0 < 6)
theorem riseB_of (h : riseB r = true) : Rise r := by
  intro i hi
  have := List.all_eq_true.mp h i (List.mem_range.mpr hi)
  simp only [Bool.and_eq_true, decide_eq_true_eq] at this
  exact this
theorem rise_all : ((List.range 256).all fun b => riseB (locksL b 6)) = true := by kernel_rfl
theorem rise_locks (b : Nat) (hb : b < 256) : Rise (locksL b 6) := riseB_of (List.all_eq_true.mp rise_all b (List.mem_range.mpr hb))
theorem Both.row {cap : Nat} (h : Both w g x c lb s L N) (hS : SlM w A cap r') (o : Only (GS g c lb) w w') : SlM w' A cap r' := by
  obtain ⟨A0, c0, hO, _⟩ := h.g.obj
  exact ⟨hS.row.only o (fun k hk vs => by
    rcases hk with rfl | rfl | rfl
    · exact not_int hO (by decide) vs
    · exact not_int h.t.cells.obj (by decide) vs
    · exact not_int h.t.cells.row (by decide) vs), hS.nil, hS.le, hS.few⟩
theorem Al.row {i cap : Nat} (h : Al w g x c lb r i) (hS : SlM w A cap r') (o : Only (GS g c lb) w w') : SlM w' A cap r' := by
  obtain ⟨L, h1, _⟩ := h; exact h1.row hS o
theorem Bl.row {j cap : Nat} (h : Bl w g x c lb r j N) (hS : SlM w A cap r') (o : Only (GS g c lb) w w') : SlM w' A cap r' := by
  obtain ⟨L, h1, _⟩ := h; exact h1.row hS o
theorem Al.count {i : Nat} (h : Al w g x c lb r i) : Calls Try.prog 20 #[.pointer (some ⟨c, 0, none⟩)] w fun e w' => e = .returned (.int .u64 (i : Int)) ∧ w' = w := by
  obtain ⟨L, h1, _⟩ := h; exact count_at h1.t.cells
theorem bl_below3 {B : Nat} {w1 w2 : World} (hb : Below B w w1) (o : Only (GS (B + 3) (B + 1) B) w1 w2) (hB : B = w.heap.size) : Below B w w2 :=
  o.below hb (by have := hb.size; omega) (fun k _ hk => by rcases hk with h | h | h <;> omega)
set_option maxHeartbeats 8000000 in
theorem right_walk (m : Int) (w : World) (hm : (Lit.int .u8 m).wf = true) : Calls Try.prog 5 #[.int .u8 m] w fun e w' => e = .returned (.bool true) ∧ Below w.heap.size w w' := by
  obtain ⟨b, hb8, rfl⟩ : ∃ b : Nat, b < 256 ∧ m = (b : Int) := by
    obtain ⟨h0, h1⟩ := u8_of hm
    exact ⟨m.toNat, by omega, by omega⟩
  clear hm
  have hr := rise_locks b hb8
  have hMade := made_at w
  obtain ⟨B, hBw⟩ : ∃ B, B = w.heap.size := ⟨_, rfl⟩
  rw [← hBw] at hMade ⊢
  have hBH := hid hBw
  clear hBw
  go_enter Try.func5, Try.ntmps5
  go_wp2_with (fail)
  refine hMade.mono ?_
  rintro e w1 ⟨rfl, hT, hb1, hz1⟩
  have hNew := GuardCode.new_at (B + 2) w1
  rw [hz1] at hNew
  clear hMade
  go_wp2_with (fail)
  refine hNew.mono ?_
  rintro e w2 ⟨rfl, hG, hb2, hz2⟩
  have hT2 := hT.below (by rw [hz1]; exact hb2)
  have hb := hb1.trans (hb2.mono (by omega))
  have hLk := GuardLocks.locks_at b hb8 w2
  have hlen := locks_len b 6
  obtain ⟨r, hrr⟩ : ∃ r, r = locksL b 6 := ⟨_, rfl⟩
  rw [← hrr] at hLk hr hlen
  have hrrH := hid hrr
  have hz2H := hid hz2
  clear hNew hT hb1 hb2 hrr hz2 hz1
  go_wp2_with (fail)
  refine hLk.mono ?_
  rintro e w3 ⟨v, rfl, ho, hb3⟩
  obtain ⟨A, cap, rfl⟩ := own_form ho
  have hS := (slM_of_own ho (by omega)).1
  have hG3 := hG.below hb3
  have hT3 := hT2.below hb3
  have hb4 := hb.trans (hb3.mono (by rw [hz2H.out]; omega))
  have hWant := want_alone hG3 hT3 hS hr
  clear hLk ho hG hT2 hb hb3
  go_wp2_with (fail)
  refine hWant.mono ?_
  rintro e w4 ⟨rfl, hA, o4⟩
  have o4' : Only (GS (B + 3) (B + 1) B) w3 w4 := o4.mono (fun k _ hk => .inl hk)
  have hS4 := (Both.mk hG3 hT3).row hS o4'
  have hb5 := bl_below3 hb4 o4' hBH.out
  clear hWant hb4 o4 o4' hS hG3 hT3
  go_wp2_with (fail)
  go_loopg [8] (2 * r.length) (fun kq v8 w' => ∃ i : Nat, kq + i = 2 * r.length ∧ v8 = .int .i64 (i : Int) ∧ Al w' (B + 3) (B + 2) (B + 1) B r i ∧ SlM w' A cap r ∧ Below B w w')
  case atStart => exact ⟨0, by omega, rfl, hA, hS4, hb5⟩
  case round =>
    clear hA hS4 hb5
    obtain ⟨i, hi, rfl, hA, hS, hb⟩ := hrel
    cases gk with
    | zero =>
      have hin : ¬ ((i : Int) < 2 * (r.length : Int)) := by omega
      have hBl := hA.done (by omega)
      have hSt := step_none (c := B) (lb := B) (L := []) (N := 0) hBl.all (by show r.length = (r.take r.length).length; rw [List.take_length])
      have q1 : IntKind.i64.wrap (2 * (r.length : Int)) = 2 * (r.length : Int) := IntWalk.i64_in _ (by omega)
      clear hA
      go_wp2_with (fail)
      refine hSt.mono ?_
      rintro e w5 ⟨rfl, hb5⟩
      have hBl5 := hBl.below hb5
      have hS5 : SlM w5 A cap r := hS.below hb5
      have hb6 := hb.trans (hb5.mono (by have := hBH.out; have := hb.size; omega))
      have hHd := held_at hBl5.all (by show (r.take r.length).length ≤ 1000; rw [List.take_length]; omega)
      have e3 : ∀ (q : List Int) (n : Nat), (Gs.mk q n 0 false).n = n := fun _ _ => rfl
      have e4 : ((r.take r.length).take r.length) = r := by rw [List.take_length, List.take_length]
      have hHd' : Calls Try.prog 23 #[.pointer (some ⟨B + 3, 0, none⟩)] w5 fun e w' => ∃ A' cap', e = .returned (.slice A' r.length cap') ∧ RowM w' A' r ∧ Below w5.heap.size w5 w' := hHd.mono (fun e w' ⟨A', c', h1, h2, h3, h4⟩ => ⟨A', c', h1, by rw [← e4]; exact h3, h4⟩)
      clear hHd e3 e4 hSt hBl hS hb hb5 q1
      go_wp2_with (fail)
      refine hHd'.mono ?_
      rintro e w6 ⟨A', cap', rfl, hR', hb5⟩
      have hBl6 := hBl5.below hb5
      have hS6 : SlM w6 A cap r := hS5.below hb5
      have hb7 := hb6.trans (hb5.mono (by have := hBH.out; have := hb6.size; omega))
      have hSm := Same08.same_eq A' A cap' cap r w6 hR'.nums hS6.row.nums (by omega)
      clear hHd' hBl5 hS5 hb6 hb5 hR'
      go_wp2_with (fail)
      refine hSm.mono ?_
      rintro e w7 ⟨rfl, n7, rfl⟩
      have hb5 : Below w6.heap.size w6 (w6.drewN n7) := bl_drewN (Below.refl _ _)
      have hBl7 := hBl6.below hb5
      have hS7 : SlM (w6.drewN n7) A cap r := hS6.below hb5
      have hb8 := hb7.trans (hb5.mono (by have := hBH.out; have := hb7.size; omega))
      have q2 : IntKind.i64.wrap ((r.length : Int) - 1) = (r.length : Int) - 1 := IntWalk.i64_in _ (by omega)
      clear hSm hBl6 hS6 hb7 hb5
      go_wp2_with (fail)
      go_loopg [14] r.length (fun kq v14 w' => ∃ z : Int, v14 = .int .i64 z ∧ z + 1 = (kq : Int) ∧ kq ≤ r.length ∧ Bl w' (B + 3) (B + 2) (B + 1) B r kq (2 * r.length + (r.length - kq)) ∧ SlM w' A cap r ∧ Below B w w')
      case atStart =>
        refine ⟨_, rfl, by omega, Nat.le_refl _, ?_, hS7, hb8⟩
        have e : i = 2 * r.length + (r.length - r.length) := by omega
        rw [e] at hBl7
        exact hBl7
      case round =>
        clear hBl7 hS7 hb8
        obtain ⟨z, rfl, hz, hkl, hBl, hS, hb⟩ := hrel
        cases gk with
        | zero =>
          obtain rfl : z = -1 := by omega
          have hAll := all_at hBl.all
          have et : ∀ a b : List Int, decide ((Gs.mk (List.take 0 a) 0 0 false).n = (Gs.mk (List.take 0 a) 0 0 false).row.length) = true := fun a b => rfl
          rw [et _ []] at hAll
          clear et
          go_wp2_with (fail)
          refine hAll.mono ?_
          rintro e w9 ⟨rfl, n9, rfl⟩
          have hAl := alive_at (wr.drewN n9)
          clear hAll
          go_wp2_with (fail)
          refine hAl.mono ?_
          rintro e w10 ⟨rfl, hb10⟩
          have hb11 := hb.trans (((bl_drewN (n := n9) (Below.refl _ wr)).trans hb10).mono (by have := hBH.out; have := hb.size; omega))
          clear hAl
          go_wp2_with (fail)
          go_ret
          exact ⟨rfl, hb11⟩
        | succ j =>
          obtain rfl : z = (j : Int) := by omega
          have hj : j < r.length := by omega
          obtain ⟨rb, ro, rfl, hrl, hrc⟩ := lock_cell hS.row hj
          have hF := bl_free hBl hr hj
          rw [decide_eq_false (by omega)] at hF
          have hjl : (j : Int) < (r.length : Int) := by omega
          obtain ⟨y, hy⟩ : ∃ y, y = r.getD j 0 := ⟨_, rfl⟩
          rw [← hy] at hF hrc
          have hyH := hid hy
          clear hy
          go_wp2_with (fail)
          refine hF.mono ?_
          rintro e w9 ⟨rfl, hb9⟩
          have hBl9 := hBl.below hb9
          have hS9 : SlM w9 (some ⟨rb, ro, none⟩) cap r := hS.below hb9
          have hb10 := hb.trans (hb9.mono (by have := hBH.out; have := hb.size; omega))
          have hGv := alone_give hBl9 hr hj (by omega)
          clear hF hBl hS hb hb9 hrc hrl
          go_wp2_with (fail)
          refine hGv.mono ?_
          rintro e w10 ⟨rfl, hBl10, o10⟩
          have hS10 := hBl9.row hS9 o10
          have hb11 := bl_below3 hb10 o10 hBH.out
          obtain ⟨rb', ro', hrr', hrl, hrc⟩ := lock_cell hS10.row hj
          cases hrr'
          have hF := bl_free hBl10 hr hj
          rw [decide_eq_true (Nat.le_refl _)] at hF
          rw [← hyH.out] at hF hrc
          clear hGv hBl9 hS9 hb10 o10
          go_wp2_with (fail)
          refine hF.mono ?_
          rintro e w11 ⟨rfl, hb9⟩
          have hBl11 := hBl10.below hb9
          have hS11 : SlM w11 (some ⟨rb, ro, none⟩) cap r := hS10.below hb9
          have hb12 := hb11.trans (hb9.mono (by have := hBH.out; have := hb11.size; omega))
          clear hF hBl10 hS10 hb11 hb9 hrc hrl
          go_wp2_with (fail)
          go_roundg j
          case measure => omega
          case rel =>
            have e : 2 * r.length + (r.length - (j + 1)) + 1 = 2 * r.length + (r.length - j) := by omega
            rw [e] at hBl11
            exact ⟨_, rfl, by omega, by omega, hBl11, hS11, hb12⟩
    | succ k1 =>
      have hin : ((i : Int) < 2 * (r.length : Int)) := by omega
      have hC := hA.count
      have hSt := alone_step hA hr (by omega) (by omega)
      have q1 : IntKind.i64.wrap (2 * (r.length : Int)) = 2 * (r.length : Int) := IntWalk.i64_in _ (by omega)
      have q2 : IntKind.i64.wrap (2 * (r.length : Int) - 1) = 2 * (r.length : Int) - 1 := IntWalk.i64_in _ (by omega)
      have q3 : ((i : Int) == 2 * (r.length : Int) - 1) = decide (i + 1 = 2 * r.length) := by rw [Bool.eq_iff_iff, beq_iff_eq, decide_eq_true_eq]; omega
      have q4 : IntKind.u64.wrap ((i : Int) + 1) = ((i + 1 : Nat) : Int) := by
        have : IntKind.u64.wrap ((i : Int) + 1) = ((i : Int) + 1) % 18446744073709551616 := by simp [IntKind.wrap, IntKind.bits, IntKind.signed]
        rw [this]; omega
      go_wp2_with (fail)
      refine hC.mono ?_
      rintro e w5 ⟨rfl, hw5⟩
      obtain rfl : wr = w5 := hw5.symm
      clear hC hw5
      go_wp2_with (fail)
      refine hSt.mono ?_
      rintro e w6 ⟨rfl, hA6, o6⟩
      have hS6 := hA.row hS o6
      have hb6 := bl_below3 hb o6 hBH.out
      have hC := hA6.count
      clear hSt o6 hA hS hb
      generalize hd : decide (i + 1 = 2 * r.length) = d at *
      clear hd
      cases d
      all_goals
        go_wp2_with (fail)
        refine hC.mono ?_
        rintro e w7 ⟨rfl, hw7⟩
        obtain rfl : w6 = w7 := hw7.symm
        clear hC hw7
        go_wp2_with (fail)
        go_roundg k1
        case measure => omega
        case rel => exact ⟨i + 1, by omega, by first | rfl | (congr 1; omega), hA6, hS6, hb6⟩
end
end Go.Proofs.Ytabcodjalacdjab.GuardCode
