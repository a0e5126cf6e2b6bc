
/- The walk of BoundTells. -/
import Derived.Test.YtabcodjalacdjacRefPicks
import Derived.Test.YtabcodjalacdjacRefBoundOf
import Derived.Test.YtabcodjalacdjacBoundRises
namespace Go.Proofs.Ytabcodjalacdjac.RefBound
open Go Go.RowKit Go.Proofs.Ytabcodjalacdjac.Obj Go.Proofs.Ytabcodjalacdjac.Row Go.Proofs.Ytabcodjalacdjac.BoundPure Go.Proofs.Ytabcodjalacdjac.BoundGap Go.Proofs.Ytabcodjalacdjac.BoundCode Go.Proofs.YtabcodjalacdjacW.PrintWords Go.Proofs.YtabcodjalacdjacW.PrintMore
set_option linter.unusedVariables false
set_option maxRecDepth 100000
/-- What Of, Hold, Lock tell. -/
def ofR (z : Sz) : Nat × Int := if May z then (ofV z, 0) else (0, 2)
def holdR (z : Sz) : Nat × Int := if May z then (holdV z, 0) else (0, 2)
def lockR (z : Sz) (k : Int) : Nat × Int := if May z ∧ 0 ≤ k ∧ k < z.C then (lockV (holdV z) z.P.toNat (z.C.toNat - 1 - k.toNat), 0) else (0, 2)
theorem of_r (z : Sz) (w : World) : Calls Try.prog 7 #[sv z] w fun e w' => e = .returned (.tuple #[.int .u64 ((ofR z).1 : Int), .int .i64 (ofR z).2]) ∧ Below w.heap.size w w' := by
  unfold ofR
  by_cases h : May z
  · rw [if_pos h]; exact of_yes z w h
  · rw [if_neg h]; exact of_no z w h
theorem hold_r (z : Sz) (w : World) : Calls Try.prog 8 #[sv z] w fun e w' => e = .returned (.tuple #[.int .u64 ((holdR z).1 : Int), .int .i64 (holdR z).2]) ∧ Below w.heap.size w w' := by
  unfold holdR
  by_cases h : May z
  · rw [if_pos h]; exact hold_yes z w h
  · rw [if_neg h]; exact hold_no z w h
theorem lock_r (z : Sz) (k : Int) (w : World) : Calls Try.prog 9 #[sv z, .int .i64 k] w fun e w' => e = .returned (.tuple #[.int .u64 ((lockR z k).1 : Int), .int .i64 (lockR z k).2]) ∧ Below w.heap.size w w' := by
  unfold lockR
  by_cases h : May z ∧ 0 ≤ k ∧ k < z.C
  · rw [if_pos h]
    obtain ⟨n, rfl⟩ : ∃ n : Nat, k = (n : Int) := ⟨k.toNat, by omega⟩
    exact lock_yes z w h.1 n h.2.2
  · rw [if_neg h]; exact lock_no z w k h
set_option maxHeartbeats 8000000 in
theorem tells_walk (z : Sz) (k : Int) (s : ByteArray) (p v n : Int) (w : World) (hz : SzWf z) (hk : (Lit.int .i64 k).wf = true) (hs : s.size ≤ maxLen) (hp : (Lit.int .i64 p).wf = true) (hv : (Lit.int .i64 v).wf = true) (hn : (Lit.int .i64 n).wf = true) :
    Calls Try.prog 3 #[sv z, .int .i64 k, .string s, .int .i64 p, .int .i64 v, .int .i64 n] w fun e w' => e = .returned (.bool true) ∧ Below w.heap.size w w' := by
  have hv1 := (i64_of hv).2
  have hk0 := box_below z w
  have hB0 := box_blk z w
  clear hz hk hp hv hn
  by_cases hheavy : 150 < s.size ∨ (2000 < n ∧ n ≤ 1000000)
  · have hc : 150 < s.size ∨ (¬ 150 < s.size ∧ 2000 < n ∧ n ≤ 1000000) := by omega
    rcases hc with h | ⟨h, h1, h2⟩
    all_goals
      clear hheavy
      go_enter Try.func3, Try.ntmps3
      go_wp2_with (fail)
      refine (alive_at _).mono ?_
      rintro e w2 ⟨rfl, hb2⟩
      have k2 := hk0.trans (hb2.mono hk0.size)
      go_wp2_with (fail)
      go_ret
      exact ⟨rfl, k2⟩
  · have h150 : ¬ 150 < s.size := by omega
    have hn2 : n ≤ 10000 ∨ ¬ n ≤ 1000000 := by omega
    have hnn : n ≤ 2000 ∨ (¬ n ≤ 2000 ∧ ¬ n ≤ 1000000) := by omega
    clear hheavy
    have hF := fun w => fair_at s p v (by omega) w
    have hrF := fun w => rfair_at s p v (by omega) hv1 w
    have hW := fun w => window_at s p (by omega) w
    have hrW := fun w => rwindow_at s p (by omega) w
    have hR := fun w => round_at p n hn2 w
    have hrR := fun w => rround_at p n hn2 w
    generalize fairV (rs s p.toNat) s.size p v = f at *
    generalize windowV (rs s p.toNat) s.size p = wv at *
    generalize roundV p n = rv at *
    have hO := fun w => of_r z w
    have hH := fun w => hold_r z w
    have hL := fun w => lock_r z k w
    obtain ⟨o, ho⟩ : ∃ o, o = ofR z := ⟨_, rfl⟩
    obtain ⟨q, hq⟩ : ∃ q, q = holdR z := ⟨_, rfl⟩
    obtain ⟨l, hl⟩ : ∃ l, l = lockR z k := ⟨_, rfl⟩
    rw [← ho] at hO
    rw [← hq] at hH
    rw [← hl] at hL
    obtain ⟨o1, o2⟩ := o
    obtain ⟨q1, q2⟩ := q
    obtain ⟨l1, l2⟩ := l
    simp only at hO hH hL
    go_enter Try.func3, Try.ntmps3
    go_upto_region 1 with (fail)
    go_cut [29] (fun v29 wx => v29 = .bool false ∧ wx = boxW z w)
    case first =>
      rcases hnn with hnn | ⟨hnn, hnn2⟩
      all_goals
        go_wp2_with (fail)
        go_meet
      · exact ⟨by rw [decide_eq_false (by omega)], rfl⟩
      · exact ⟨by rw [decide_eq_false (by omega)], rfl⟩
    case rest =>
      clear hnn hn2
      obtain ⟨rfl, rfl⟩ := hcut
      obtain ⟨c0, c1, c2, c3, c4, c5⟩ := zc_of hB0
      go_wp2_with (fail)
      refine (hO _).mono ?_
      rintro e w1 ⟨rfl, hb1⟩
      have k1 := hk0.trans (hb1.mono hk0.size)
      have B1 := hB0.same (hb1.block _ hB0.lt)
      clear hO hk0 hB0 hb1 c0 c1 c2 c3 c4 c5
      obtain ⟨c0, c1, c2, c3, c4, c5⟩ := zc_of B1
      go_wp2_with (fail)
      refine (hH _).mono ?_
      rintro e w2 ⟨rfl, hb2⟩
      have k2 := k1.trans (hb2.mono k1.size)
      have B2 := B1.same (hb2.block _ B1.lt)
      clear hH k1 B1 hb2 c0 c1 c2 c3 c4 c5
      obtain ⟨c0, c1, c2, c3, c4, c5⟩ := zc_of B2
      go_wp2_with (fail)
      refine (hL _).mono ?_
      rintro e w3 ⟨rfl, hb3⟩
      have k3 := k2.trans (hb3.mono k2.size)
      have B3 := B2.same (hb3.block _ B2.lt)
      clear hL k2 B2 hb3 c0 c1 c2 c3 c4 c5
      go_wp2_with (fail)
      refine (hF _).mono ?_
      rintro e w4 ⟨rfl, hb4⟩
      have k4 := k3.trans (hb4.mono k3.size)
      have B4 := B3.same (hb4.block _ B3.lt)
      clear hF k3 B3 hb4
      go_wp2_with (fail)
      refine (hrF _).mono ?_
      rintro e w5 ⟨rfl, hw⟩
      obtain rfl := hw.symm
      clear hrF
      have hff : (f != f) = false := by cases f <;> rfl
      go_wp2_with (fail)
      refine (hW _).mono ?_
      rintro e w6 ⟨rfl, hb6⟩
      have k6 := k4.trans (hb6.mono k4.size)
      have B6 := B4.same (hb6.block _ B4.lt)
      clear hW k4 B4 hb6
      go_wp2_with (fail)
      refine (hrW _).mono ?_
      rintro e w7 ⟨rfl, hw⟩
      obtain rfl := hw.symm
      clear hrW
      go_wp2_with (fail)
      refine (hR _).mono ?_
      rintro e w8 ⟨rfl, hb8⟩
      have k8 := k6.trans (hb8.mono k6.size)
      have B8 := B6.same (hb8.block _ B6.lt)
      clear hR k6 B6 hb8
      go_wp2_with (fail)
      refine (hrR _).mono ?_
      rintro e w9 ⟨rfl, hb9⟩
      have k9 := k8.trans (hb9.mono k8.size)
      have B9 := B8.same (hb9.block _ B8.lt)
      clear hrR k8 B8 hb9
      obtain ⟨c0, c1, c2, c3, c4, c5⟩ := zc_of B9
      have hM := fun w => rmay_at z w
      have hC := fun w => check_at z w
      go_wp2_with (fail)
      refine (hM _).mono ?_
      rintro e w10 ⟨rfl, hb10⟩
      have k10 := k9.trans (hb10.mono k9.size)
      have B10 := B9.same (hb10.block _ B9.lt)
      clear hM k9 B9 hb10 c0 c1 c2 c3 c4 c5
      obtain ⟨c0, c1, c2, c3, c4, c5⟩ := zc_of B10
      by_cases hm : May z
      · rw [decide_eq_true hm]
        simp only [if_pos hm] at hC
        rw [ofR, if_pos hm] at ho
        rw [holdR, if_pos hm] at hq
        obtain ⟨rfl, rfl⟩ := Prod.mk.inj ho
        obtain ⟨rfl, rfl⟩ := Prod.mk.inj hq
        clear ho hq
        have hrO := fun w => rof_at z hm w
        have hrH := fun w => rhold_at z hm w
        have hrL := fun w => rlocks_at z hm w
        have hll : (k < 0 ∧ l1 = 0 ∧ l2 = 2) ∨ (¬ k < 0 ∧ z.C ≤ k ∧ l1 = 0 ∧ l2 = 2) ∨ (¬ k < 0 ∧ ¬ z.C ≤ k ∧ l1 = lockV (holdV z) z.P.toNat (z.C.toNat - 1 - k.toNat) ∧ l2 = 0) := by
          unfold lockR at hl
          by_cases h1 : k < 0
          · rw [if_neg (fun h => by omega)] at hl
            obtain ⟨rfl, rfl⟩ := Prod.mk.inj hl
            exact .inl ⟨h1, rfl, rfl⟩
          · by_cases h2 : z.C ≤ k
            · rw [if_neg (fun h => by omega)] at hl
              obtain ⟨rfl, rfl⟩ := Prod.mk.inj hl
              exact .inr (.inl ⟨h1, h2, rfl, rfl⟩)
            · rw [if_pos ⟨hm, by omega, by omega⟩] at hl
              obtain ⟨rfl, rfl⟩ := Prod.mk.inj hl
              exact .inr (.inr ⟨h1, h2, rfl, rfl⟩)
        have hC6 : 0 ≤ z.C ∧ z.C ≤ 6 := hm.2.2.2.1
        clear hl
        have hget := fun j (hj : j < z.C.toNat) => locksL_get (holdV z) z.P.toNat z.C.toNat j hj
        have hllen := locksL_len (holdV z) z.P.toNat z.C.toNat
        have hllH := hid hll
        have hgetH := hid hget
        clear hll hget
        generalize locksL (holdV z) z.P.toNat z.C.toNat = LL at *
        generalize ofV z = ov at *
        go_wp2_with (fail)
        refine (hrO _).mono ?_
        rintro e w11 ⟨rfl, hb11⟩
        have k11 := k10.trans (hb11.mono k10.size)
        have B11 := B10.same (hb11.block _ B10.lt)
        clear hrO k10 B10 hb11 c0 c1 c2 c3 c4 c5
        obtain ⟨c0, c1, c2, c3, c4, c5⟩ := zc_of B11
        go_wp2_with (fail)
        refine (hrH _).mono ?_
        rintro e w12 ⟨rfl, hw⟩
        have k12 : Below w.heap.size w w12 := by rw [hw]; exact k11.alloc k11.size _
        have B12 : Blk w12 w.heap.size 23 (szs z) := by rw [hw]; exact B11.alloc _
        clear hw k11 B11 c0 c1 c2 c3 c4 c5 hrH
        obtain ⟨c0, c1, c2, c3, c4, c5⟩ := zc_of B12
        go_wp2_with (fail)
        refine (hC _).mono ?_
        rintro e w13 ⟨rfl, hb13⟩
        have k13 := k12.trans (hb13.mono k12.size)
        have B13 := B12.same (hb13.block _ B12.lt)
        clear hC k12 B12 hb13 c0 c1 c2 c3 c4 c5
        obtain ⟨c0, c1, c2, c3, c4, c5⟩ := zc_of B13
        rcases hllH.out with ⟨h1, rfl, rfl⟩ | ⟨h1, h2, rfl, rfl⟩ | ⟨h1, h2, h3, rfl⟩
        · clear hllH hgetH hrL
          go_wp2_with (fail)
          refine (alive_at _).mono ?_
          rintro e w14 ⟨rfl, hb14⟩
          have k14 := k13.trans (hb14.mono k13.size)
          go_wp2_with (fail)
          go_ret
          exact ⟨rfl, k14⟩
        · clear hllH hgetH hrL
          go_wp2_with (fail)
          refine (alive_at _).mono ?_
          rintro e w14 ⟨rfl, hb14⟩
          have k14 := k13.trans (hb14.mono k13.size)
          go_wp2_with (fail)
          go_ret
          exact ⟨rfl, k14⟩
        · obtain ⟨j, rfl⟩ : ∃ j : Nat, k = (j : Int) := ⟨k.toNat, by omega⟩
          have hj : j < z.C.toNat := by omega
          have hg := hgetH.out j hj
          rw [Int.toNat_natCast] at h3
          rw [← h3] at hg
          clear hllH hgetH h3
          go_wp2_with (fail)
          refine (hrL _).mono ?_
          rintro e w14 ⟨A, c, rfl, hN, hb14⟩
          have k14 := k13.trans (hb14.mono k13.size)
          obtain ⟨b, o, rfl, _, hcell⟩ := hN.at j (by omega)
          rw [List.getElem?_eq_getElem (by omega)] at hg
          rw [Option.some.inj hg] at hcell
          have hj1 : ((j : Int)) < ((z.C.toNat : Nat) : Int) := by omega
          clear hrL k13 B13 hb14 c0 c1 c2 c3 c4 c5 hg hN
          go_wp2_with (fail)
          refine (alive_at _).mono ?_
          rintro e w15 ⟨rfl, hb15⟩
          have k15 := k14.trans (hb15.mono k14.size)
          go_wp2_with (fail)
          go_ret
          exact ⟨rfl, k15⟩
      · rw [decide_eq_false hm]
        simp only [if_neg hm] at hC
        rw [ofR, if_neg hm] at ho
        rw [holdR, if_neg hm] at hq
        rw [lockR, if_neg (fun h => hm h.1)] at hl
        obtain ⟨rfl, rfl⟩ := Prod.mk.inj ho
        obtain ⟨rfl, rfl⟩ := Prod.mk.inj hq
        obtain ⟨rfl, rfl⟩ := Prod.mk.inj hl
        clear ho hq hl
        go_wp2_with (fail)
        refine (hC _).mono ?_
        rintro e w11 ⟨rfl, hb11⟩
        have k11 := k10.trans (hb11.mono k10.size)
        clear hC k10 B10 hb11 c0 c1 c2 c3 c4 c5
        go_wp2_with (fail)
        refine (alive_at _).mono ?_
        rintro e w12 ⟨rfl, hb12⟩
        have k12 := k11.trans (hb12.mono k11.size)
        go_wp2_with (fail)
        go_ret
        exact ⟨rfl, k12⟩
end Go.Proofs.Ytabcodjalacdjac.RefBound
