
/- The walk of HchanApart. -/
import Derived.Test.YtmhnfcodppfaiacHchanMore
import Derived.Test.YtmhnfcodppfaiacSame64
namespace Go.Proofs.Ytmhnfcodppfaiac.HchanCode
open Go Go.RowKit Go.Proofs.Ytmhnfcodppfaiac.Obj Go.Proofs.Ytmhnfcodppfaiac.ListPure
set_option linter.unusedVariables false
set_option maxRecDepth 100000
section
variable {h g : Hc} {d i v : Int} {s : Bool}
theorem setq_most (h : Hc) (s : Bool) (L : List Int) : (h.setq s L).most = h.most ∧ (h.setq s L).V = h.V ∧ (h.setq s L).shut = h.shut := by cases s <;> exact ⟨rfl, rfl, rfl⟩
theorem act_most (h : Hc) (d : Int) (s : Bool) (i v : Int) : (h.act d s i v).most = h.most := by
  unfold Hc.act
  repeat' split
  all_goals first | rfl | exact (setq_most _ _ _).1
theorem act_shut (h : Hc) (d : Int) (s : Bool) (i v : Int) : (h.act d s i v).shut = (h.shut || decide (d = 5)) := by
  unfold Hc.act
  repeat' split
  all_goals simp_all [setq_most]
theorem act_V (hm : h.most = g.most) (hV : h.V = g.V) : (h.act d s i v).V = (g.act d s i v).V := by
  unfold Hc.act
  repeat' split
  all_goals simp_all [setq_most]
theorem act_V_not (hd : ¬ (d = 0 ∨ d = 1 ∨ d = 2)) : (h.act d s i v).V = h.V := by
  unfold Hc.act
  repeat' split
  all_goals simp_all [setq_most]
theorem act_L1 (hL : h.L1 = g.L1) : (h.act d true i v).L1 = (g.act d true i v).L1 := by
  unfold Hc.act
  repeat' split
  all_goals simp_all [Hc.setq, Hc.q]
theorem act_L1_not (hd : ¬ ((d = 3 ∨ d = 4) ∧ s = true)) : (h.act d s i v).L1 = h.L1 := by
  unfold Hc.act
  cases s
  all_goals
    repeat' split
    all_goals simp_all [Hc.setq, Hc.q]
theorem act_L0 (hL : h.L0 = g.L0) : (h.act d false i v).L0 = (g.act d false i v).L0 := by
  unfold Hc.act
  repeat' split
  all_goals simp_all [Hc.setq, Hc.q]
theorem act_L0_not (hd : ¬ ((d = 3 ∨ d = 4) ∧ s = false)) : (h.act d s i v).L0 = h.L0 := by
  unfold Hc.act
  cases s
  all_goals
    repeat' split
    all_goals simp_all [Hc.setq, Hc.q]
end
/-- Four channels, apart: what c has of its buffer has a, of its queues b and d. -/
structure Four (w : World) (n0 n1 n2 n3 n4 c a b d : Nat) (hc ha hb hd : Hc) : Prop where
  c : HcAt w c n0 n1 hc
  a : HcAt w a n1 n2 ha
  b : HcAt w b n2 n3 hb
  d : HcAt w d n3 n4 hd
  most : hc.most = ha.most
  V : hc.V = ha.V
  L1 : hc.L1 = hb.L1
  L0 : hc.L0 = hd.L0
theorem rng_far {lo hi lo2 hi2 : Nat} (h : hi ≤ lo2 ∨ hi2 ≤ lo) (w : World) : ∀ j, lo ≤ j → j < hi → j < w.heap.size → ¬ (lo2 ≤ j ∧ j < hi2) := fun j _ _ _ _ => by omega
set_option maxHeartbeats 16000000 in
theorem apart_walk (m : Int) (ad : Option Addr) (len cap : Nat) (w : World) (hm : (Lit.int .u8 m).wf = true) (ha : Obj.Rows w [.int .i64, .bool, .int .i64, .int .i64] ad len cap) :
    Calls Try.prog 4 #[.int .u8 m, .slice ad len cap] w fun e w' => e = .returned (.bool true) ∧ Below w.heap.size w w' := by
  obtain ⟨hm0, hm1⟩ := u8_of hm
  by_cases h200 : 200 < len
  · go_enter Try.func4, Try.ntmps4
    go_wp2_with (fail)
    refine (alive_at _).mono ?_
    rintro e w2 ⟨rfl, hb2⟩
    go_wp2_with (fail)
    go_ret
    exact ⟨rfl, hb2⟩
  · have hlen : len ≤ 200 := by omega
    go_enter Try.func4, Try.ntmps4
    go_wp2_with (fail)
    obtain ⟨n, hn⟩ : ∃ n : Nat, (m % 9) = (n : Int) := ⟨(m % 9).toNat, by omega⟩
    have hn2 : n ≤ 8 := by omega
    simp only [hn]
    clear hn hm
    refine (hnew_at n w hn2).mono ?_
    rintro e w1 ⟨⟨c, rfl, kc⟩, hb1⟩
    go_wp2_with (fail)
    refine (hnew_at n w1 hn2).mono ?_
    rintro e w2 ⟨⟨a, rfl, ka⟩, hb2⟩
    have kc2 := kc.below hb2
    go_wp2_with (fail)
    refine (hnew_at n w2 hn2).mono ?_
    rintro e w3 ⟨⟨b, rfl, kb⟩, hb3⟩
    have kc3 := kc2.below hb3
    have ka3 := ka.below hb3
    go_wp2_with (fail)
    refine (hnew_at n w3 hn2).mono ?_
    rintro e w4 ⟨⟨d, rfl, kd⟩, hb4⟩
    have kF : Four w4 w.heap.size w1.heap.size w2.heap.size w3.heap.size w4.heap.size c a b d (Hc.new n) (Hc.new n) (Hc.new n) (Hc.new n) := ⟨kc3.below hb4, ka3.below hb4, kb.below hb4, kd, rfl, rfl, rfl, rfl⟩
    have s1 := hb1.size
    have s2 := hb2.size
    have s3 := hb3.size
    have s4 := hb4.size
    have hb5 : Below w.heap.size w w4 := ((hb1.trans (hb2.mono s1)).trans (hb3.mono (by omega))).trans (hb4.mono (by omega))
    clear kc ka kb kd kc2 kc3 ka3 hb1 hb2 hb3 hb4
    go_wp2_with (fail)
    generalize w1.heap.size = n1 at *
    generalize w2.heap.size = n2 at *
    generalize w3.heap.size = n3 at *
    obtain ⟨n4, hn4⟩ : ∃ n4, n4 = w4.heap.size := ⟨_, rfl⟩
    rw [← hn4] at kF s4
    clear hn4
    go_loopg [14] len (fun kq v14 w' => ∃ (i : Nat) (hc ha hb hd : Hc), kq + i = len ∧ v14 = .int .i64 (i : Int) ∧ Four w' w.heap.size n1 n2 n3 n4 c a b d hc ha hb hd ∧ Below w.heap.size w w')
    case atStart => exact ⟨0, _, _, _, _, rfl, rfl, kF, hb5⟩
    case round =>
      clear kF hb5
      obtain ⟨i, hc, ha', hb', hd, hi, rfl, kF, hb⟩ := hrel
      cases gk with
      | zero =>
        have hin : ¬ ((i : Int) < (len : Int)) := by omega
        have hlv := hid (show hc.V.length ≤ 140737488355328 by have := kF.c.lens; omega)
        have hl0 := hid (show hc.L0.length ≤ 140737488355328 by have := kF.c.lens; omega)
        have hl1 := hid (show hc.L1.length ≤ 140737488355328 by have := kF.c.lens; omega)
        have eV := hid kF.V
        have e0 := hid kF.L0
        have e1 := hid kF.L1
        go_wp2_with (fail)
        refine (cbuffer kF.c).mono ?_
        rintro e w2 ⟨A2, c2, rfl, hN2, hB2, _⟩
        have ka2 := kF.a.below hB2
        have kc2 := kF.c.below hB2
        have kb2 := kF.b.below hB2
        have kd2 := kF.d.below hB2
        have hb2 := hb.trans (hB2.mono hb.size)
        clear kF hb hB2
        go_wp2_with (fail)
        refine (cbuffer ka2).mono ?_
        rintro e w3 ⟨A3, c3, rfl, hN3, hB3, _⟩
        have hN23 := hN2.below hB3
        have kc3 := kc2.below hB3
        have kb3 := kb2.below hB3
        have kd3 := kd2.below hB3
        have hb3 := hb2.trans (hB3.mono hb2.size)
        rw [← eV.out] at hN3 ⊢
        clear ka2 kc2 kb2 kd2 hb2 hB3 hN2
        go_wp2_with (fail)
        refine (Same64.same_eq A2 A3 c2 c3 hc.V w3 hN23 hN3 hlv.out).mono ?_
        rintro e w4 ⟨rfl, m4, rfl⟩
        have hbd : Below w3.heap.size w3 (w3.drewN m4) := ⟨rfl, rfl, rfl, Nat.le_refl _, fun _ _ => rfl⟩
        have kc4 := kc3.drewN m4
        have kb4 := kb3.drewN m4
        have kd4 := kd3.drewN m4
        have hb4 := hb3.trans (hbd.mono hb3.size)
        clear hN23 hN3 kc3 kb3 kd3 hb3 hbd
        generalize w3.drewN m4 = w4 at *
        have hR1 := crow kc4 true
        simp only [Hc.q, if_true] at hR1
        go_wp2_with (fail)
        refine hR1.mono ?_
        rintro e w5 ⟨A5, c5, rfl, hN5, hB5, _⟩
        have kc5 := kc4.below hB5
        have kb5 := kb4.below hB5
        have kd5 := kd4.below hB5
        have hb5 := hb4.trans (hB5.mono hb4.size)
        clear kc4 kb4 kd4 hb4 hR1 hB5
        have hR2 := crow kb5 true
        simp only [Hc.q, if_true] at hR2
        rw [← e1.out] at hR2
        go_wp2_with (fail)
        refine hR2.mono ?_
        rintro e w6 ⟨A6, c6, rfl, hN6, hB6, _⟩
        have hN56 := hN5.below hB6
        have kc6 := kc5.below hB6
        have kd6 := kd5.below hB6
        have hb6 := hb5.trans (hB6.mono hb5.size)
        clear kc5 kb5 kd5 hb5 hR2 hB6 hN5
        go_wp2_with (fail)
        refine (SameInts.same_eq A5 A6 c5 c6 hc.L1 w6 hN56 hN6 hl1.out).mono ?_
        rintro e w7 ⟨rfl, m7, rfl⟩
        have hbd : Below w6.heap.size w6 (w6.drewN m7) := ⟨rfl, rfl, rfl, Nat.le_refl _, fun _ _ => rfl⟩
        have kc7 := kc6.drewN m7
        have kd7 := kd6.drewN m7
        have hb7 := hb6.trans (hbd.mono hb6.size)
        clear hN56 hN6 kc6 kd6 hb6 hbd
        generalize w6.drewN m7 = w7 at *
        have hR3 := crow kc7 false
        simp only [Hc.q, Bool.false_eq_true, if_false] at hR3
        go_wp2_with (fail)
        refine hR3.mono ?_
        rintro e w8 ⟨A8, c8, rfl, hN8, hB8, _⟩
        have kd8 := kd7.below hB8
        have hb8 := hb7.trans (hB8.mono hb7.size)
        clear kc7 kd7 hb7 hR3 hB8
        have hR4 := crow kd8 false
        simp only [Hc.q, Bool.false_eq_true, if_false] at hR4
        rw [← e0.out] at hR4
        go_wp2_with (fail)
        refine hR4.mono ?_
        rintro e w9 ⟨A9, c9, rfl, hN9, hB9, _⟩
        have hN89 := hN8.below hB9
        have hb9 := hb8.trans (hB9.mono hb8.size)
        clear kd8 hb8 hR4 hB9 hN8
        go_wp2_with (fail)
        refine (SameInts.same_eq A8 A9 c8 c9 hc.L0 w9 hN89 hN9 hl0.out).mono ?_
        rintro e wa ⟨rfl, ma, rfl⟩
        have hba : Below w.heap.size w (w9.drewN ma) := ⟨hb9.os, hb9.tape, hb9.output, hb9.size, hb9.block⟩
        clear hN89 hN9 hb9
        go_wp2_with (fail)
        refine (alive_at _).mono ?_
        rintro e wb ⟨rfl, hbb⟩
        have hbc := hba.trans (hbb.mono hba.size)
        go_wp2_with (fail)
        go_ret
        exact ⟨rfl, hbc⟩
      | succ k1 =>
        have hin : ((i : Int) < (len : Int)) := by omega
        obtain ⟨xb, xo, rfl, hxb, hx⟩ := ha.at (by decide) i (by omega)
        obtain ⟨t0, c0, d0, rfl, wd0⟩ := hx 0 _ rfl
        obtain ⟨t1, c1, d1, rfl⟩ := hx 1 _ rfl
        obtain ⟨t2, c2, d2, rfl, wd2⟩ := hx 2 _ rfl
        obtain ⟨t3, c3, d3, rfl, wd3⟩ := hx 3 _ rfl
        simp only [List.length_cons, List.length_nil, Nat.reduceAdd, Nat.add_zero] at c0 c1 c2 c3
        have hcells : ∀ W, Below w.heap.size w W → W.cell? ⟨xb, xo + i * 4, none⟩ = some (.int .i64 d0) ∧ W.cell? ⟨xb, xo + i * 4 + 1, none⟩ = some (.bool d1) ∧ W.cell? ⟨xb, xo + i * 4 + 2, none⟩ = some (.int .i64 d2) ∧ W.cell? ⟨xb, xo + i * 4 + 3, none⟩ = some (.int .i64 d3) := fun W hB =>
          ⟨by rw [← c0]; exact hB.cell (p := ⟨_, _, none⟩) hxb, by rw [← c1]; exact hB.cell (p := ⟨_, _, none⟩) hxb, by rw [← c2]; exact hB.cell (p := ⟨_, _, none⟩) hxb, by rw [← c3]; exact hB.cell (p := ⟨_, _, none⟩) hxb⟩
        have hcH := hid hcells
        clear hx c0 c1 c2 c3 hcells
        obtain ⟨c0, c1, c2, c3⟩ := hcH.out _ hb
        have hC := cclosed kF.c
        have hcs : ∀ h : Hc, Hid (∃ b, h.shut = b) := fun h => hid ⟨_, rfl⟩
        obtain ⟨was, hwas⟩ := (hcs hc).out
        rw [hwas] at hC
        have hwH := hid hwas
        clear hwas hcs
        go_wp2_with (fail)
        refine hC.mono ?_
        rintro e w2 ⟨rfl, hw⟩
        obtain rfl : wr = w2 := hw.symm
        clear hC
        go_wp2_with (fail)
        refine (act_at kF.c d0 d1 d2 d3 wd2).mono ?_
        rintro e w2 ⟨⟨x, rfl⟩, kc, o2⟩
        have ka := kF.a.far o2 (rng_far (by omega) _)
        have kb := kF.b.far o2 (rng_far (by omega) _)
        have kd := kF.d.far o2 (rng_far (by omega) _)
        have hb2 : Below w.heap.size w w2 := o2.below hb hb.size (fun k _ h => by omega)
        obtain ⟨q0, q1, q2, q3⟩ := hcH.out _ hb2
        have pV := kF.V
        have pL1 := kF.L1
        have pL0 := kF.L0
        have pm := kF.most
        have psh := act_shut hc d0 d1 d2 d3
        rw [hwH.out] at psh
        have pmc := act_most hc d0 d1 d2 d3
        have pall := hid (show hc.V = ha'.V ∧ hc.L1 = hb'.L1 ∧ hc.L0 = hd.L0 ∧ hc.most = ha'.most ∧ (hc.act d0 d1 d2 d3).shut = (was || decide (d0 = 5)) ∧ (hc.act d0 d1 d2 d3).most = hc.most from ⟨pV, pL1, pL0, pm, psh, pmc⟩)
        clear kF hb o2 c0 c1 c2 c3 pV pL1 pL0 pm psh pmc
        go_upto_block 2 with (fail)
        go_cut [4] (fun v4 wx => ∃ ha hb hd : Hc, Four wx w.heap.size n1 n2 n3 n4 c a b d (hc.act d0 d1 d2 d3) ha hb hd ∧ Below w.heap.size w wx)
        case first =>
          by_cases hA : d0 = 0 ∨ d0 = 1 ∨ d0 = 2
          · obtain ⟨eV, e1, e0, em, _, emc⟩ := pall.out
            have fin : ∀ w3, HcAt w3 c w.heap.size n1 (hc.act d0 d1 d2 d3) → HcAt w3 a n1 n2 (ha'.act d0 d1 d2 d3) → HcAt w3 b n2 n3 hb' → HcAt w3 d n3 n4 hd → Four w3 w.heap.size n1 n2 n3 n4 c a b d (hc.act d0 d1 d2 d3) (ha'.act d0 d1 d2 d3) hb' hd := fun w3 k1 k2 k3 k4 =>
              ⟨k1, k2, k3, k4, by rw [act_most, act_most]; exact em, act_V em eV, by rw [act_L1_not (by omega)]; exact e1, by rw [act_L0_not (by omega)]; exact e0⟩
            have finH := hid fin
            have hP := act_at ka d0 d1 d2 d3 wd2
            clear fin eV e1 e0 em emc
            rcases hA with rfl | rfl | rfl
            all_goals
              go_wp2_with (fail)
              refine hP.mono ?_
              rintro e w3 ⟨⟨x, rfl⟩, ka3, o3⟩
              have kc3 := kc.far o3 (rng_far (by omega) _)
              have kb3 := kb.far o3 (rng_far (by omega) _)
              have kd3 := kd.far o3 (rng_far (by omega) _)
              have hb3 : Below w.heap.size w w3 := o3.below hb2 hb2.size (fun k _ h => by omega)
              go_wp2_with (fail)
              go_meet
              exact ⟨_, _, _, finH.out _ kc3 ka3 kb3 kd3, hb3⟩
          · by_cases hB : d0 = 3 ∨ d0 = 4
            · cases d1 with
              | true =>
                obtain ⟨eV, e1, e0, em, _, emc⟩ := pall.out
                have fin : ∀ w3, HcAt w3 c w.heap.size n1 (hc.act d0 true d2 d3) → HcAt w3 a n1 n2 ha' → HcAt w3 b n2 n3 (hb'.act d0 true d2 d3) → HcAt w3 d n3 n4 hd → Four w3 w.heap.size n1 n2 n3 n4 c a b d (hc.act d0 true d2 d3) ha' (hb'.act d0 true d2 d3) hd := fun w3 k1 k2 k3 k4 =>
                  ⟨k1, k2, k3, k4, by rw [act_most]; exact em, by rw [act_V_not hA]; exact eV, act_L1 e1, by rw [act_L0_not (by simp)]; exact e0⟩
                have finH := hid fin
                have hP := act_at kb d0 true d2 d3 wd2
                clear fin eV e1 e0 em emc hA
                rcases hB with rfl | rfl
                all_goals
                  go_wp2_with (fail)
                  refine hP.mono ?_
                  rintro e w3 ⟨⟨x, rfl⟩, kb3, o3⟩
                  have kc3 := kc.far o3 (rng_far (by omega) _)
                  have ka3 := ka.far o3 (rng_far (by omega) _)
                  have kd3 := kd.far o3 (rng_far (by omega) _)
                  have hb3 : Below w.heap.size w w3 := o3.below hb2 hb2.size (fun k _ h => by omega)
                  go_wp2_with (fail)
                  go_meet
                  exact ⟨_, _, _, finH.out _ kc3 ka3 kb3 kd3, hb3⟩
              | false =>
                obtain ⟨eV, e1, e0, em, _, emc⟩ := pall.out
                have fin : ∀ w3, HcAt w3 c w.heap.size n1 (hc.act d0 false d2 d3) → HcAt w3 a n1 n2 ha' → HcAt w3 b n2 n3 hb' → HcAt w3 d n3 n4 (hd.act d0 false d2 d3) → Four w3 w.heap.size n1 n2 n3 n4 c a b d (hc.act d0 false d2 d3) ha' hb' (hd.act d0 false d2 d3) := fun w3 k1 k2 k3 k4 =>
                  ⟨k1, k2, k3, k4, by rw [act_most]; exact em, by rw [act_V_not hA]; exact eV, by rw [act_L1_not (by simp)]; exact e1, act_L0 e0⟩
                have finH := hid fin
                have hP := act_at kd d0 false d2 d3 wd2
                clear fin eV e1 e0 em emc hA
                rcases hB with rfl | rfl
                all_goals
                  go_wp2_with (fail)
                  refine hP.mono ?_
                  rintro e w3 ⟨⟨x, rfl⟩, kd3, o3⟩
                  have kc3 := kc.far o3 (rng_far (by omega) _)
                  have ka3 := ka.far o3 (rng_far (by omega) _)
                  have kb3 := kb.far o3 (rng_far (by omega) _)
                  have hb3 : Below w.heap.size w w3 := o3.below hb2 hb2.size (fun k _ h => by omega)
                  go_wp2_with (fail)
                  go_meet
                  exact ⟨_, _, _, finH.out _ kc3 ka3 kb3 kd3, hb3⟩
            · obtain ⟨eV, e1, e0, em, _, emc⟩ := pall.out
              have fin : Four w2 w.heap.size n1 n2 n3 n4 c a b d (hc.act d0 d1 d2 d3) ha' hb' hd :=
                ⟨kc, ka, kb, kd, by rw [act_most]; exact em, by rw [act_V_not hA]; exact eV, by rw [act_L1_not (fun h => hB h.1)]; exact e1, by rw [act_L0_not (fun h => hB h.1)]; exact e0⟩
              have finH := hid fin
              have g0 : (d0 == 0) = false := by simp; omega
              have g1 : (d0 == 1) = false := by simp; omega
              have g2 : (d0 == 2) = false := by simp; omega
              have g3 : (d0 == 3) = false := by simp; omega
              have g4 : (d0 == 4) = false := by simp; omega
              clear fin eV e1 e0 em emc hA hB kc ka kb kd
              go_wp2_with (fail)
              go_meet
              exact ⟨_, _, _, finH.out, hb2⟩
        case rest =>
          clear ka kb kd kc hb2 q0 q1 q2 q3
          obtain ⟨ha2, hb2, hd2, kF, hb⟩ := hcut
          obtain ⟨q0, _, _, _⟩ := hcH.out _ hb
          have hC := cclosed kF.c
          rw [pall.out.2.2.2.2.1] at hC
          have kFH := hid kF
          clear kF
          cases was with
          | true =>
            simp only [Bool.true_or] at hC
            go_wp2_with (fail)
            refine hC.mono ?_
            rintro e w3 ⟨rfl, hw⟩
            obtain rfl : wc = w3 := hw.symm
            clear hC
            go_wp2_with (fail)
            go_roundg k1
            case measure => omega
            case rel => exact ⟨i + 1, _, _, _, _, by omega, by go_num, kFH.out, hb⟩
          | false =>
            simp only [Bool.false_or] at hC
            by_cases h5 : d0 = 5
            · subst h5
              go_wp2_with (fail)
              refine hC.mono ?_
              rintro e w3 ⟨rfl, hw⟩
              obtain rfl : wc = w3 := hw.symm
              clear hC
              go_wp2_with (fail)
              go_roundg k1
              case measure => omega
              case rel => exact ⟨i + 1, _, _, _, _, by omega, by go_num, kFH.out, hb⟩
            · have h5' : decide (d0 = 5) = false := by simpa using h5
              have h6' : (d0 == 5) = false := by simpa using h5
              rw [h5'] at hC
              go_wp2_with (fail)
              refine hC.mono ?_
              rintro e w3 ⟨rfl, hw⟩
              obtain rfl : wc = w3 := hw.symm
              clear hC
              go_wp2_with (fail)
              go_roundg k1
              case measure => omega
              case rel => exact ⟨i + 1, _, _, _, _, by omega, by go_num, kFH.out, hb⟩
end Go.Proofs.Ytmhnfcodppfaiac.HchanCode
