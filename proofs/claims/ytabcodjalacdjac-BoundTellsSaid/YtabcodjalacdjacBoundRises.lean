
/- The walk of BoundRises. -/
import Derived.Test.YtabcodjalacdjacBoundAlive
namespace Go.Proofs.Ytabcodjalacdjac.BoundCode
open Go Go.RowKit Go.Proofs.Ytabcodjalacdjac.Obj Go.Proofs.Ytabcodjalacdjac.Row Go.Proofs.Ytabcodjalacdjac.BoundPure Go.Proofs.Ytabcodjalacdjac.BoundGap Go.Proofs.YtabcodjalacdjacW.PrintWords Go.Proofs.YtabcodjalacdjacW.PrintMore
set_option linter.unusedVariables false
set_option maxRecDepth 100000
def SzWf (z : Sz) : Prop := (Lit.int .i64 z.W).wf = true ∧ (Lit.int .i64 z.P).wf = true ∧ (Lit.int .i64 z.T).wf = true ∧ (Lit.int .i64 z.C).wf = true ∧ (Lit.int .i64 z.N).wf = true ∧ (Lit.int .i64 z.Q).wf = true
theorem wrap_up {a b : Int} (h0 : 0 ≤ a) (h1 : a ≤ 1024) (h2 : 0 ≤ b) (h3 : b ≤ 9223372036854775807) (h : 0 ≤ IntKind.i64.wrap (a + b)) : a ≤ IntKind.i64.wrap (a + b) := by
  have e : IntKind.i64.wrap (a + b) = (if (a + b) % 18446744073709551616 ≥ 9223372036854775808 then (a + b) % 18446744073709551616 - 18446744073709551616 else (a + b) % 18446744073709551616) := by
    simp [IntKind.wrap, IntKind.bits, IntKind.signed]
  rw [e] at h ⊢
  split at h
  · omega
  · rename_i h4
    rw [if_neg h4]; omega
def addS (z y : Sz) : Sz := ⟨IntKind.i64.wrap (z.W + y.W), IntKind.i64.wrap (z.P + y.P), IntKind.i64.wrap (z.T + y.T), IntKind.i64.wrap (z.C + y.C), IntKind.i64.wrap (z.N + y.N), IntKind.i64.wrap (z.Q + y.Q)⟩
def Pos (y : Sz) : Prop := 0 ≤ y.W ∧ 0 ≤ y.P ∧ 0 ≤ y.T ∧ 0 ≤ y.C ∧ 0 ≤ y.N ∧ 0 ≤ y.Q
theorem add_more {z y : Sz} (hz : May z) (hy : SzWf y) (hp : Pos y) (hm : May (addS z y)) : ofV z ≤ ofV (addS z y) := by
  obtain ⟨⟨m1, m2⟩, ⟨m3, m4⟩, ⟨m5, m6⟩, ⟨m7, m8⟩, ⟨m9, m10⟩, ⟨m11, m12⟩⟩ := hz
  obtain ⟨y1, y2, y3, y4, y5, y6⟩ := hy
  obtain ⟨p1, p2, p3, p4, p5, p6⟩ := hp
  have n1 := (i64_of y1).2
  have n2 := (i64_of y2).2
  have n3 := (i64_of y3).2
  have n4 := (i64_of y4).2
  have n5 := (i64_of y5).2
  have n6 := (i64_of y6).2
  have hm' := hm
  obtain ⟨⟨a1, _⟩, ⟨a2, _⟩, ⟨a3, _⟩, ⟨a4, _⟩, ⟨a5, _⟩, ⟨a6, _⟩⟩ := hm
  exact ofV_mono ⟨⟨m1, m2⟩, ⟨m3, m4⟩, ⟨m5, m6⟩, ⟨m7, m8⟩, ⟨m9, m10⟩, ⟨m11, m12⟩⟩ (wrap_up (by omega) (by omega) p1 n1 (Int.le_trans (by decide) a1)) (wrap_up (by omega) (by omega) p2 n2 (Int.le_trans (by decide) a2)) (wrap_up (by omega) (by omega) p3 n3 (Int.le_trans (by decide) a3)) (wrap_up (by omega) (by omega) p4 n4 a4) (wrap_up (by omega) (by omega) p5 n5 (Int.le_trans (by decide) a5)) (wrap_up (by omega) (by omega) p6 n6 (Int.le_trans (by decide) a6))
set_option maxHeartbeats 8000000 in
theorem rises_z (z y : Sz) (w : World) (hz : SzWf z) (hy : SzWf y) :
    Calls Try.prog 4 #[sv z, sv y] w fun e w' => e = .returned (.bool true) ∧ Below w.heap.size w w' := by
  have hk0 : Below w.heap.size w ((w.alloc (.cells (szs z).toArray 23)).alloc (.cells (szs y).toArray 23)) := ((Below.refl _ _).alloc (Nat.le_refl _) _).alloc (by simp) _
  have hB0 : Blk ((w.alloc (.cells (szs z).toArray 23)).alloc (.cells (szs y).toArray 23)) w.heap.size 23 (szs z) := (Blk.new w _ _).alloc _
  have hY0 : Blk ((w.alloc (.cells (szs z).toArray 23)).alloc (.cells (szs y).toArray 23)) (w.heap.size + 1) 23 (szs y) := by
    have := Blk.new (w.alloc (.cells (szs z).toArray 23)) 23 (szs y)
    rwa [World.size_alloc] at this
  have hC := check_at z ((w.alloc (.cells (szs z).toArray 23)).alloc (.cells (szs y).toArray 23))
  by_cases hm : May z
  · rw [if_pos hm] at hC
    go_enter Try.func4, Try.ntmps4
    go_wp2_with (fail)
    refine hC.mono ?_
    rintro e w1 ⟨rfl, hb1⟩
    have k1 := hk0.trans (hb1.mono hk0.size)
    have hB1 := hB0.same (hb1.block _ hB0.lt)
    have hY1 := hY0.same (hb1.block _ hY0.lt)
    clear hC hk0 hB0 hY0 hb1
    obtain ⟨c0, c1, c2, c3, c4, c5⟩ := zc_of hB1
    obtain ⟨d0, d1, d2, d3, d4, d5⟩ := zc_of hY1
    obtain ⟨x, hx⟩ : ∃ x, x = addS z y := ⟨_, rfl⟩
    have q0 : IntKind.i64.wrap (z.W + y.W) = x.W := by rw [hx]; rfl
    have q1 : IntKind.i64.wrap (z.P + y.P) = x.P := by rw [hx]; rfl
    have q2 : IntKind.i64.wrap (z.T + y.T) = x.T := by rw [hx]; rfl
    have q3 : IntKind.i64.wrap (z.C + y.C) = x.C := by rw [hx]; rfl
    have q4 : IntKind.i64.wrap (z.N + y.N) = x.N := by rw [hx]; rfl
    have q5 : IntKind.i64.wrap (z.Q + y.Q) = x.Q := by rw [hx]; rfl
    have hmore := hid (fun hp hM => hx ▸ add_more (z := z) (y := y) hm hy hp (hx ▸ hM) : Pos y → May x → ofV z ≤ ofV x)
    clear hx
    obtain ⟨W2, hW2⟩ : ∃ W2, W2 = w1.alloc (.cells (szs x).toArray 23) := ⟨_, rfl⟩
    have k2 : Below w.heap.size w W2 := by rw [hW2]; exact k1.alloc k1.size _
    have hB2 : Blk W2 w.heap.size 23 (szs z) := by rw [hW2]; exact hB1.alloc _
    have hY2 : Blk W2 (w.heap.size + 1) 23 (szs y) := by rw [hW2]; exact hY1.alloc _
    have hX2 : Blk W2 w1.heap.size 23 (szs x) := by rw [hW2]; exact Blk.new w1 _ _
    clear hB1 hY1 k1
    go_upto_region 4 with (fail)
    rw [← hW2]
    obtain ⟨b, hb⟩ : ∃ b, b = w1.heap.size := ⟨_, rfl⟩
    rw [← hb] at hX2 ⊢
    clear hb hW2 q0 q1 q2 q3 q4 q5 c0 c1 c2 c3 c4 c5 d0 d1 d2 d3 d4 d5
    obtain ⟨c0, c1, c2, c3, c4, c5⟩ := zc_of hB2
    have hO := of_yes z W2 hm
    have hov : ofV z ≤ MB := ofV_le z
    have hop := ofV_pos hm
    have ho1 : ¬ ((ofV z : Int) < 1) := by omega
    have ho2 : ¬ ((4611686018427387904 : Int) < (ofV z : Int)) := by unfold MB at hov; omega
    have ho2H := hid ho2
    clear hov hop ho2
    go_wp2_with (fail)
    refine hO.mono ?_
    rintro e w3 ⟨rfl, hb3⟩
    have k3 := k2.trans (hb3.mono k2.size)
    have hB3 := hB2.same (hb3.block _ hB2.lt)
    have hY3 := hY2.same (hb3.block _ hY2.lt)
    have hX3 := hX2.same (hb3.block _ hX2.lt)
    clear hO k2 hB2 hY2 hX2 hb3 c0 c1 c2 c3 c4 c5
    have ho2 := ho2H.out
    generalize ofV z = ov at *
    go_wp2_with (fail)
    clear ho1 ho2 ho2H
    obtain ⟨m, hmC⟩ : ∃ m : Nat, m = z.C.toNat - 1 := ⟨_, rfl⟩
    have hC6 : 0 ≤ z.C ∧ z.C ≤ 6 := hm.2.2.2.1
    go_loopg [8] m (fun kq v8 w' => ∃ i : Nat, kq + i = m + 1 ∧ 1 ≤ i ∧ v8 = .int .i64 (i : Int) ∧ Below w.heap.size w w' ∧ Blk w' w.heap.size 23 (szs z) ∧ Blk w' (w.heap.size + 1) 23 (szs y) ∧ Blk w' b 23 (szs x))
    case atStart => exact ⟨1, rfl, Nat.le_refl _, rfl, k3, hB3, hY3, hX3⟩
    case round =>
      clear k3 hB3 hY3 hX3
      obtain ⟨i, hi, hi1, rfl, hb, hB, hY, hX⟩ := hrel
      obtain ⟨c0, c1, c2, c3, c4, c5⟩ := zc_of hB
      cases gk with
      | succ k1 =>
        have hin : (i : Int) < z.C := by omega
        obtain ⟨j, rfl⟩ : ∃ j : Nat, i = j + 1 := ⟨i - 1, by omega⟩
        have hL1 := fun w => lock_yes z w hm (j + 1) hin
        have hL2 := fun w => lock_yes z w hm j (by omega)
        have hle : lockV (holdV z) z.P.toNat (z.C.toNat - 1 - (j + 1)) ≤ lockV (holdV z) z.P.toNat (z.C.toNat - 1 - j) := lockV_more _ _ (by omega)
        generalize lockV (holdV z) z.P.toNat (z.C.toNat - 1 - (j + 1)) = l1 at *
        generalize lockV (holdV z) z.P.toNat (z.C.toNat - 1 - j) = l2 at *
        have hle' : ¬ (l2 < l1) := by omega
        go_wp2_with (fail)
        refine (hL1 wr).mono ?_
        rintro e w4 ⟨rfl, hb4⟩
        have k4 := hb.trans (hb4.mono hb.size)
        have hB4 := hB.same (hb4.block _ hB.lt)
        have hY4 := hY.same (hb4.block _ hY.lt)
        have hX4 := hX.same (hb4.block _ hX.lt)
        clear hL1 hb hB hY hX hb4 c0 c1 c2 c3 c4 c5
        obtain ⟨c0, c1, c2, c3, c4, c5⟩ := zc_of hB4
        have hq : IntKind.i64.wrap (((j + 1 : Nat) : Int) - 1) = (j : Int) := by rw [IntWalk.i64_in _ (by omega)]; omega
        go_wp2_with (fail)
        refine (hL2 w4).mono ?_
        rintro e w5 ⟨rfl, hb5⟩
        have k5 := k4.trans (hb5.mono k4.size)
        have hB5 := hB4.same (hb5.block _ hB4.lt)
        have hY5 := hY4.same (hb5.block _ hY4.lt)
        have hX5 := hX4.same (hb5.block _ hX4.lt)
        clear hL2 k4 hB4 hY4 hX4 hb5 c0 c1 c2 c3 c4 c5 hq
        go_wp2_with (fail)
        go_roundg k1
        case measure => omega
        case rel => exact ⟨j + 1 + 1, by omega, by omega, by go_num, k5, hB5, hY5, hX5⟩
      | zero =>
        have hin : ¬ ((i : Int) < z.C) := by omega
        obtain ⟨d0, d1, d2, d3, d4, d5⟩ := zc_of hY
        obtain ⟨e0, e1, e2, e3, e4, e5⟩ := zc_of hX
        have hcase : y.W < 0 ∨ (¬ y.W < 0 ∧ y.P < 0) ∨ (¬ y.W < 0 ∧ ¬ y.P < 0 ∧ y.T < 0) ∨ (¬ y.W < 0 ∧ ¬ y.P < 0 ∧ ¬ y.T < 0 ∧ y.C < 0) ∨ (¬ y.W < 0 ∧ ¬ y.P < 0 ∧ ¬ y.T < 0 ∧ ¬ y.C < 0 ∧ y.N < 0) ∨ (¬ y.W < 0 ∧ ¬ y.P < 0 ∧ ¬ y.T < 0 ∧ ¬ y.C < 0 ∧ ¬ y.N < 0 ∧ y.Q < 0) ∨ (¬ y.W < 0 ∧ ¬ y.P < 0 ∧ ¬ y.T < 0 ∧ ¬ y.C < 0 ∧ ¬ y.N < 0 ∧ ¬ y.Q < 0) := by omega
        rcases hcase with p0 | ⟨p0, p1⟩ | ⟨p0, p1, p2⟩ | ⟨p0, p1, p2, p3⟩ | ⟨p0, p1, p2, p3, p4⟩ | ⟨p0, p1, p2, p3, p4, p5⟩ | ⟨p0, p1, p2, p3, p4, p5⟩
        rotate_right
        · have hC := check_at x wr
          by_cases hmx : May x
          · rw [if_pos hmx] at hC
            have hge := hid (hmore.out ⟨by omega, by omega, by omega, by omega, by omega, by omega⟩ hmx)
            have hO := fun w => of_yes x w hmx
            generalize ofV x = xv at *
            have hge' : ov ≤ xv := hge.out
            go_wp2_with (fail)
            refine hC.mono ?_
            rintro e w4 ⟨rfl, hb4⟩
            have k4 := hb.trans (hb4.mono hb.size)
            have hX4 := hX.same (hb4.block _ hX.lt)
            clear hC hb hB hY hX hb4 c0 c1 c2 c3 c4 c5 d0 d1 d2 d3 d4 d5 e0 e1 e2 e3 e4 e5
            obtain ⟨e0, e1, e2, e3, e4, e5⟩ := zc_of hX4
            go_wp2_with (fail)
            refine (hO w4).mono ?_
            rintro e w5 ⟨rfl, hb5⟩
            have k5 := k4.trans (hb5.mono k4.size)
            clear hO hX4 k4 hb5 e0 e1 e2 e3 e4 e5
            go_wp2_with (fail)
            refine (alive_at _).mono ?_
            rintro e w6 ⟨rfl, hb6⟩
            have k6 := k5.trans (hb6.mono k5.size)
            go_wp2_with (fail)
            go_ret
            exact ⟨rfl, k6⟩
          · rw [if_neg hmx] at hC
            go_wp2_with (fail)
            refine hC.mono ?_
            rintro e w4 ⟨rfl, hb4⟩
            have k4 := hb.trans (hb4.mono hb.size)
            clear hC hb hB hY hX hb4 c0 c1 c2 c3 c4 c5 d0 d1 d2 d3 d4 d5 e0 e1 e2 e3 e4 e5
            go_wp2_with (fail)
            refine (alive_at _).mono ?_
            rintro e w6 ⟨rfl, hb6⟩
            have k6 := k4.trans (hb6.mono k4.size)
            go_wp2_with (fail)
            go_ret
            exact ⟨rfl, k6⟩
        all_goals
          clear hB hY hX hmore
          go_wp2_with (fail)
          refine (alive_at _).mono ?_
          rintro e w6 ⟨rfl, hb6⟩
          have k6 := hb.trans (hb6.mono hb.size)
          go_wp2_with (fail)
          go_ret
          exact ⟨rfl, k6⟩
  · rw [if_neg hm] at hC
    go_enter Try.func4, Try.ntmps4
    go_wp2_with (fail)
    refine hC.mono ?_
    rintro e w1 ⟨rfl, hb1⟩
    have k1 := hk0.trans (hb1.mono hk0.size)
    clear hC hk0 hB0 hY0 hb1
    go_wp2_with (fail)
    refine (alive_at _).mono ?_
    rintro e w2 ⟨rfl, hb2⟩
    have k2 := k1.trans (hb2.mono k1.size)
    go_wp2_with (fail)
    go_ret
    exact ⟨rfl, k2⟩
end Go.Proofs.Ytabcodjalacdjac.BoundCode
