
/- A step, of both, answers alike. -/
import Derived.Test.YtmhnfcodppfaiacHchanNil
import Derived.Test.YtmhnfcodppfaiacSameInts
import Derived.Test.YtmhnfcodppfaiacSame64
namespace Go.Proofs.Ytmhnfcodppfaiac.HchanCode
open Go Go.RowKit Go.Proofs.Ytmhnfcodppfaiac.Obj Go.Proofs.Ytmhnfcodppfaiac.ListPure Go.Proofs.YtmhnfcodppfaiacW.PrintWords Go.Proofs.YtmhnfcodppfaiacW.PrintMore
set_option linter.unusedVariables false
set_option maxRecDepth 100000
section
variable {w w' : World} {c q rr s t base lo hi : Nat} {h : Hc}
theorem rlput {w : World} {q : Nat} {L : List Int} (h : RefList.RefAt w q L) (hL : L.length ≤ 1000) (k : Int) : Calls Try.prog 46 #[.pointer (some ⟨q, 0, none⟩), .int .i64 k] w fun e w' => e = .returned (.int .i64 (ListCode.putC L k)) ∧ RefList.RefAt w' q (ListCode.putL L k) ∧ Only (· = q) w w' := by
  unfold ListCode.putL ListCode.putC
  by_cases h1 : k < 0 ∨ k ≥ 1024
  · rw [if_pos h1, if_neg (by decide)]
    refine (RefList.push_arg q k w h1).mono ?_
    rintro e w' ⟨rfl, rfl⟩
    exact ⟨rfl, h, Only.refl _ _⟩
  · by_cases h2 : k ∈ L
    · rw [if_neg h1, if_pos h2, if_neg (by decide)]
      refine (RefList.push_have h (by omega) (by omega) h2 hL).mono ?_
      rintro e w' ⟨rfl, rfl⟩
      exact ⟨rfl, h, Only.refl _ _⟩
    · rw [if_neg h1, if_neg h2, if_pos rfl]
      exact RefList.push_at h (by omega) (by omega) h2 hL
theorem rldrop {w : World} {q : Nat} {L : List Int} (h : RefList.RefAt w q L) (hL : L.length ≤ 1000) (k : Int) : Calls Try.prog 47 #[.pointer (some ⟨q, 0, none⟩), .int .i64 k] w fun e w' => e = .returned (.int .i64 (ListCode.dropC L k)) ∧ RefList.RefAt w' q (L.erase k) ∧ Only (· = q) w w' := by
  unfold ListCode.dropC
  by_cases h2 : k ∈ L
  · rw [if_pos h2]; exact RefList.drop_at h h2 hL
  · rw [if_neg h2, List.erase_of_not_mem h2]
    refine (RefList.drop_none h h2 hL).mono ?_
    rintro e w' ⟨rfl, rfl⟩
    exact ⟨rfl, h, Only.refl _ _⟩
/-- .. of the queue that is meant. -/
theorem RRaw.queue (k : RRaw w q rr s t base h) (sd : Bool) : RefList.RefAt w (if sd then s else t) (h.q sd) := by cases sd; exact k.lt; exact k.ls
theorem RRaw.queue_set {L2 : List Int} (k : RRaw w q rr s t base h) (sd : Bool) (o : Only (· = if sd then s else t) w w') (hr : RefList.RefAt w' (if sd then s else t) L2) : R22 w' q base (h.setq sd L2) ∧ Only (Rty w base) w w' := by
  cases sd
  · exact k.t_set o hr
  · exact k.s_set o hr
theorem RRaw.queue_ne (k : RRaw w q rr s t base h) (sd : Bool) : q ≠ (if sd then s else t) ∧ ∃ a, w.heap[(if sd then s else t)]? = some (.cells a 74 (0, 0)) := by
  have ap := k.ap
  cases sd
  · exact ⟨ap.2.2.1, rl_obj k.lt⟩
  · exact ⟨ap.2.1, rl_obj k.ls⟩
def Wr (lo hi base : Nat) (k : Nat) : Prop := (lo ≤ k ∧ k < hi) ∨ base ≤ k
theorem wr1 {w0 : World} (o : Only (KIn w0 lo hi) w w') : Only (Wr lo hi base) w w' := o.mono (fun _ _ h => .inl ⟨h.1, h.2.1⟩)
theorem wr2 {w0 : World} (o : Only (Rty w0 base) w w') : Only (Wr lo hi base) w w' := o.mono (fun _ _ h => .inr h.1)
set_option maxHeartbeats 8000000 in
theorem does_at (k : HcAt w c lo hi h) (r : R22 w q base h) (z : Sz h) (d : Int) (sd : Bool) (i v : Int) (hwf : (Lit.int .i64 i).wf = true) : Calls Try.prog 22 #[.pointer (some ⟨c, 0, none⟩), .pointer (some ⟨q, 0, none⟩), .agg #[.int .i64 d, .bool sd, .int .i64 i, .int .i64 v]] w fun e w' => e = .returned (.bool true) ∧ HcAt w' c lo hi (h.act d sd i v) ∧ R22 w' q base (h.act d sd i v) ∧ Only (Wr lo hi base) w w' := by
  have hb1 : Below w.heap.size w (w.alloc (.cells #[.int .i64 d, .bool sd, .int .i64 i, .int .i64 v] 30)) := (Below.refl _ w).alloc (Nat.le_refl _) _
  have k1 := k.below hb1
  have r1 := r.below hb1
  have o1 : Only (Wr lo hi base) w (w.alloc (.cells #[.int .i64 d, .bool sd, .int .i64 i, .int .i64 v] 30)) := Only.alloc _ _ _
  have be := Blk.new w 30 [.int .i64 d, .bool sd, .int .i64 i, .int .i64 v]
  have c0 := be.cell 0
  have c1 := be.cell 1
  have c2 := be.cell 2
  have c3 := be.cell 3
  have hl := be.lt
  have nsb : ¬ Cty (w.alloc (.cells #[.int .i64 d, .bool sd, .int .i64 i, .int .i64 v] 30)) w.heap.size := not_cty be (by decide) (by decide) (by decide)
  have beo : (w.alloc (.cells #[.int .i64 d, .bool sd, .int .i64 i, .int .i64 v] 30)).heap[w.heap.size]? = some (.cells _ 30 (0, 0)) := be
  simp only [List.getElem?_cons_zero, List.getElem?_cons_succ] at c0 c1 c2 c3
  clear k hb1 r
  generalize hw1 : w.alloc (.cells #[.int .i64 d, .bool sd, .int .i64 i, .int .i64 v] 30) = w1 at *
  have hwH := hid hw1
  obtain ⟨rr, s, t, r1⟩ := r1
  have q0 : w1.cell? ⟨q, 0, none⟩ = some (.pointer (some ⟨rr, 0, none⟩)) := r1.blk.cell 0
  have hql := r1.blk.lt
  have nq : ¬ Cty w1 q := r1.rty.1.2
  obtain ⟨arr, hrr⟩ := rr_obj r1.ring
  have nrr : w.heap.size ≠ rr := ty_ne beo hrr (by decide)
  have nqr := r1.ap.1
  have r1d : RRaw w1.drew q rr s t base h := r1.keep (Only.drew (fun _ => False) w1) (fun _ h => h.elim)
  have k1d := k1.drew
  have o1d : Only (Wr lo hi base) w w1.drew := o1.trans (Only.drew _ _)
  have nsbd : ¬ Cty w1.drew w.heap.size := nsb
  have nqd : ¬ Cty w1.drew q := nq
  clear hw1
  unfold Hc.act
  by_cases h0 : d = 0
  · as_aux_lemma =>
    rw [if_pos h0]
    subst h0
    have fin : ∀ w2 w3, HcAt w2 c lo hi { h with V := rPutV h.most h.V v } → Only (KIn w1.drew lo hi) w1.drew w2 → RefRing.RefAt w3 rr h.most (rPutV h.most h.V v) → Only (· = rr) w2 w3 → RRaw w2 q rr s t base h → HcAt w3 c lo hi { h with V := rPutV h.most h.V v } ∧ R22 w3 q base { h with V := rPutV h.most h.V v } ∧ Only (Wr lo hi base) w w3 := fun w2 w3 k2 o2 r3 o3 rw2 => by
      obtain ⟨R3, oo3⟩ := rw2.ring_set (m2 := 0) o3 r3
      exact ⟨k2.ref oo3, R3, (o1d.trans (wr1 o2)).trans (wr2 oo3)⟩
    have finH := hid fin
    have zH := hid z
    clear fin k1 z o1d
    go_enter Try.func22, Try.ntmps22
    have hww := hwH.out
    go_wp2_with (fail)
    clear hww
    go_region_held3 (fun w' : World => w'.cell? ⟨w.heap.size, 3, none⟩ = some (.int .i64 v) ∧ w'.cell? ⟨q, 0, none⟩ = some (.pointer (some ⟨rr, 0, none⟩))) (first | (refine ⟨?_, ?_⟩ <;> assumption) | go_keep) (first
      | (go_at_call 20; refine (cput k1d v).mono ?_; rintro e w2 ⟨rfl, k2, o2⟩; have rw2 := r1d.keep o2 (fun _ h => h.2.2); have e3 : w2.cell? ⟨w.heap.size, 3, none⟩ = some (.int .i64 v) := (by rw [← c3]; exact cell_same (o2.block _ hl (fun h => nsbd h.2.2))); have e0 : w2.cell? ⟨q, 0, none⟩ = some (.pointer (some ⟨rr, 0, none⟩)) := (by rw [← q0]; exact cell_same (o2.block _ hql (fun h => nqd h.2.2))))
      | (go_at_call 42; refine (rrput rw2.ring zH.out.fit zH.out.most8 v).mono ?_; rintro e w3 ⟨rfl, r3, o3⟩; have g3 : w3.cell? ⟨w.heap.size, 3, none⟩ = some (.int .i64 v) := (by rw [← e3]; exact cell_same (o3.block _ (Nat.lt_of_lt_of_le hl o2.size) nrr)); have g0 : w3.cell? ⟨q, 0, none⟩ = some (.pointer (some ⟨rr, 0, none⟩)) := (by rw [← e0]; exact cell_same (o3.block _ (Nat.lt_of_lt_of_le hql o2.size) nqr))))
    all_goals go_wp2_with (fail)
    all_goals go_ret
    all_goals exact ⟨rfl, finH.out _ _ k2 o2 r3 o3 rw2⟩
  · rw [if_neg h0]
    by_cases h1 : d = 1
    · as_aux_lemma =>
      rw [if_pos h1]
      subst h1
      have hP := ctake k1
      have zf : h.V.length ≤ 1000 := by have := z.fit; have := z.most8; omega
      have r1H := hid r1
      have zH := hid z
      clear k1 r1 z r1d k1d o1d
      go_enter Try.func22, Try.ntmps22
      have hww := hwH.out
      go_wp2_with (fail)
      clear hww
      refine hP.mono ?_
      rintro e w2 ⟨rfl, k2, o2⟩
      have rw2 := r1H.out.keep o2 (fun _ h => h.2.2)
      have e0 : w2.cell? ⟨q, 0, none⟩ = some (.pointer (some ⟨rr, 0, none⟩)) := by rw [← q0]; exact cell_same (o2.block _ hql (fun h => nq h.2.2))
      have hR := rrtake rw2.ring zf
      have rwH := hid rw2
      clear rw2 hP c0 c1 c2 c3 q0
      go_wp2_with (fail)
      refine hR.mono ?_
      rintro e w3 ⟨rfl, r3, o3⟩
      go_wp2_with (fail)
      go_ret
      obtain ⟨R3, oo3⟩ := rwH.out.ring_set (m2 := 0) o3 r3
      exact ⟨rfl, k2.ref oo3, R3, (o1.trans (wr1 o2)).trans (wr2 oo3)⟩
    · rw [if_neg h1]
      by_cases h2 : d = 2
      · as_aux_lemma =>
        rw [if_pos h2]
        subst h2
        have hP := cswap k1 v
        have r1H := hid r1
        have zH := hid z
        clear k1 r1 z r1d k1d o1d
        go_enter Try.func22, Try.ntmps22
        have hww := hwH.out
        go_wp2_with (fail)
        clear hww
        refine hP.mono ?_
        rintro e w2 ⟨rfl, k2, o2⟩
        have rw2 := r1H.out.keep o2 (fun _ h => h.2.2)
        have e0 : w2.drew.cell? ⟨q, 0, none⟩ = some (.pointer (some ⟨rr, 0, none⟩)) := by rw [← q0]; exact cell_same (o2.block _ hql (fun h => nq h.2.2))
        have e3 : w2.drew.cell? ⟨w.heap.size, 3, none⟩ = some (.int .i64 v) := by rw [← c3]; exact cell_same (o2.block _ hl (fun h => nsb h.2.2))
        have rwd : RRaw w2.drew q rr s t base h := rw2.keep (Only.drew (fun _ => False) w2) (fun _ h => h.elim)
        have k2d := k2.drew
        have o2d : Only (Wr lo hi base) w w2.drew := (o1.trans (wr1 o2)).trans (Only.drew _ _)
        have hl2 : w.heap.size < w2.drew.heap.size := Nat.lt_of_lt_of_le hl o2.size
        have hql2 : q < w2.drew.heap.size := Nat.lt_of_lt_of_le hql o2.size
        have e0' : w2.cell? ⟨q, 0, none⟩ = some (.pointer (some ⟨rr, 0, none⟩)) := e0
        have e3' : w2.cell? ⟨w.heap.size, 3, none⟩ = some (.int .i64 v) := e3
        clear rw2 hP c0 c1 c2 c3 q0 k2 o2
        go_wp2_with (fail)
        go_region_held3 (fun w' : World => w'.cell? ⟨w.heap.size, 3, none⟩ = some (.int .i64 v) ∧ w'.cell? ⟨q, 0, none⟩ = some (.pointer (some ⟨rr, 0, none⟩))) (first | (refine ⟨?_, ?_⟩ <;> assumption) | go_keep) (first
          | (go_at_call 44; refine (rrswap rwd.ring zH.out.fit zH.out.most8 v).mono ?_; rintro e w3 ⟨rfl, r3, o3⟩; have g3 : w3.cell? ⟨w.heap.size, 3, none⟩ = some (.int .i64 v) := (by rw [← e3]; exact cell_same (o3.block _ hl2 nrr)); have g0 : w3.cell? ⟨q, 0, none⟩ = some (.pointer (some ⟨rr, 0, none⟩)) := (by rw [← e0]; exact cell_same (o3.block _ hql2 nqr))) | fail)
        all_goals go_wp2_with (fail)
        all_goals go_ret
        all_goals
          obtain ⟨R3, oo3⟩ := rwd.ring_set (m2 := 0) o3 r3
          exact ⟨rfl, k2d.ref oo3, R3, o2d.trans (wr2 oo3)⟩
      · rw [if_neg h2]
        by_cases h3 : d = 3
        · as_aux_lemma =>
          rw [if_pos h3]
          subst h3
          have fin : ∀ w2 w3, HcAt w2 c lo hi (h.setq sd (ListCode.putL (h.q sd) i)) → Only (KIn w1.drew lo hi) w1.drew w2 → RefList.RefAt w3 (if sd then s else t) (ListCode.putL (h.q sd) i) → Only (· = if sd then s else t) w2 w3 → RRaw w2 q rr s t base h → HcAt w3 c lo hi (h.setq sd (ListCode.putL (h.q sd) i)) ∧ R22 w3 q base (h.setq sd (ListCode.putL (h.q sd) i)) ∧ Only (Wr lo hi base) w w3 := fun w2 w3 k2 o2 r3 o3 rw2 => by
            obtain ⟨R3, oo3⟩ := rw2.queue_set sd o3 r3
            exact ⟨k2.ref oo3, R3, (o1d.trans (wr1 o2)).trans (wr2 oo3)⟩
          have finH := hid fin
          have zl := z.lq sd
          have hQ : ∀ w2, RRaw w2 q rr s t base h → Calls Try.prog 45 #[.pointer (some ⟨q, 0, none⟩), .bool sd] w2 fun e w' => e = .returned (.pointer (some ⟨if sd then s else t, 0, none⟩)) ∧ w' = w2 := fun w2 hw => q_at hw sd
          have hq2 : ∀ w2, RRaw w2 q rr s t base h → RefList.RefAt w2 (if sd then s else t) (h.q sd) := fun w2 hw => hw.queue sd
          obtain ⟨_, aq, hqo⟩ := r1.queue_ne sd
          have nqq : w.heap.size ≠ (if sd then s else t) := ty_ne beo hqo (by decide)
          have hQH := hid hQ
          have hq2H := hid hq2
          clear fin k1 z o1d hQ hq2 hqo
          generalize (if sd then s else t) = qq at *
          go_enter Try.func22, Try.ntmps22
          have hww := hwH.out
          go_wp2_with (fail)
          clear hww
          go_region_held3 (fun w' : World => w'.cell? ⟨w.heap.size, 1, none⟩ = some (.bool sd) ∧ w'.cell? ⟨w.heap.size, 2, none⟩ = some (.int .i64 i)) (first | (refine ⟨?_, ?_⟩ <;> assumption) | go_keep) (first
            | (go_at_call 9; refine (cenq k1d sd hwf).mono ?_; rintro e w2 ⟨rfl, k2, o2⟩; have rw2 := r1d.keep o2 (fun _ h => h.2.2); have e1 : w2.cell? ⟨w.heap.size, 1, none⟩ = some (.bool sd) := (by rw [← c1]; exact cell_same (o2.block _ hl (fun h => nsbd h.2.2))); have e2 : w2.cell? ⟨w.heap.size, 2, none⟩ = some (.int .i64 i) := (by rw [← c2]; exact cell_same (o2.block _ hl (fun h => nsbd h.2.2))); have HQ := hid (hQH.out w2 rw2))
            | (go_at_call 45; refine HQ.out.mono ?_; rintro e w3 ⟨rfl, hw⟩; obtain rfl : w2 = w3 := hw.symm)
            | (go_at_call 46; refine (rlput (hq2H.out w2 rw2) zl i).mono ?_; rintro e w3 ⟨rfl, r3, o3⟩; have g1 : w3.cell? ⟨w.heap.size, 1, none⟩ = some (.bool sd) := (by rw [← e1]; exact cell_same (o3.block _ (Nat.lt_of_lt_of_le hl o2.size) nqq)); have g2 : w3.cell? ⟨w.heap.size, 2, none⟩ = some (.int .i64 i) := (by rw [← e2]; exact cell_same (o3.block _ (Nat.lt_of_lt_of_le hl o2.size) nqq))))
          all_goals go_wp2_with (fail)
          all_goals go_ret
          all_goals exact ⟨rfl, finH.out _ _ k2 o2 r3 o3 rw2⟩
        · rw [if_neg h3]
          by_cases h4 : d = 4
          · as_aux_lemma =>
            rw [if_pos h4]
            subst h4
            have fin : ∀ w2 w3, HcAt w2 c lo hi (h.setq sd ((h.q sd).erase i)) → Only (KIn w1.drew lo hi) w1.drew w2 → RefList.RefAt w3 (if sd then s else t) ((h.q sd).erase i) → Only (· = if sd then s else t) w2 w3 → RRaw w2 q rr s t base h → HcAt w3 c lo hi (h.setq sd ((h.q sd).erase i)) ∧ R22 w3 q base (h.setq sd ((h.q sd).erase i)) ∧ Only (Wr lo hi base) w w3 := fun w2 w3 k2 o2 r3 o3 rw2 => by
              obtain ⟨R3, oo3⟩ := rw2.queue_set sd o3 r3
              exact ⟨k2.ref oo3, R3, (o1d.trans (wr1 o2)).trans (wr2 oo3)⟩
            have finH := hid fin
            have zl := z.lq sd
            have hQ : ∀ w2, RRaw w2 q rr s t base h → Calls Try.prog 45 #[.pointer (some ⟨q, 0, none⟩), .bool sd] w2 fun e w' => e = .returned (.pointer (some ⟨if sd then s else t, 0, none⟩)) ∧ w' = w2 := fun w2 hw => q_at hw sd
            have hq2 : ∀ w2, RRaw w2 q rr s t base h → RefList.RefAt w2 (if sd then s else t) (h.q sd) := fun w2 hw => hw.queue sd
            obtain ⟨_, aq, hqo⟩ := r1.queue_ne sd
            have nqq : w.heap.size ≠ (if sd then s else t) := ty_ne beo hqo (by decide)
            have hQH := hid hQ
            have hq2H := hid hq2
            clear fin k1 z o1d hQ hq2 hqo
            generalize (if sd then s else t) = qq at *
            go_enter Try.func22, Try.ntmps22
            have hww := hwH.out
            go_wp2_with (fail)
            clear hww
            go_region_held3 (fun w' : World => w'.cell? ⟨w.heap.size, 1, none⟩ = some (.bool sd) ∧ w'.cell? ⟨w.heap.size, 2, none⟩ = some (.int .i64 i)) (first | (refine ⟨?_, ?_⟩ <;> assumption) | go_keep) (first
              | (go_at_call 10; refine (cdeq k1d sd hwf).mono ?_; rintro e w2 ⟨rfl, k2, o2⟩; have rw2 := r1d.keep o2 (fun _ h => h.2.2); have e1 : w2.cell? ⟨w.heap.size, 1, none⟩ = some (.bool sd) := (by rw [← c1]; exact cell_same (o2.block _ hl (fun h => nsbd h.2.2))); have e2 : w2.cell? ⟨w.heap.size, 2, none⟩ = some (.int .i64 i) := (by rw [← c2]; exact cell_same (o2.block _ hl (fun h => nsbd h.2.2))); have HQ := hid (hQH.out w2 rw2))
              | (go_at_call 45; refine HQ.out.mono ?_; rintro e w3 ⟨rfl, hw⟩; obtain rfl : w2 = w3 := hw.symm)
              | (go_at_call 47; refine (rldrop (hq2H.out w2 rw2) zl i).mono ?_; rintro e w3 ⟨rfl, r3, o3⟩; have g1 : w3.cell? ⟨w.heap.size, 1, none⟩ = some (.bool sd) := (by rw [← e1]; exact cell_same (o3.block _ (Nat.lt_of_lt_of_le hl o2.size) nqq)); have g2 : w3.cell? ⟨w.heap.size, 2, none⟩ = some (.int .i64 i) := (by rw [← e2]; exact cell_same (o3.block _ (Nat.lt_of_lt_of_le hl o2.size) nqq))))
            all_goals go_wp2_with (fail)
            all_goals go_ret
            all_goals exact ⟨rfl, finH.out _ _ k2 o2 r3 o3 rw2⟩
          · rw [if_neg h4]
            by_cases h5 : d = 5
            · as_aux_lemma =>
              rw [if_pos h5]
              subst h5
              have hP := cshut k1
              have r1H := hid (show R22 w1 q base h from ⟨rr, s, t, r1⟩)
              clear k1 r1 z r1d k1d o1d
              go_enter Try.func22, Try.ntmps22
              have hww := hwH.out
              go_wp2_with (fail)
              clear hww
              refine hP.mono ?_
              rintro e w2 ⟨rfl, k2, o2⟩
              have rw2 := r1H.out.kin o2
              have hC := close_at rw2
              clear rw2 hP c0 c1 c2 c3 q0
              go_wp2_with (fail)
              refine hC.mono ?_
              rintro e w3 ⟨rfl, R3, oo3⟩
              go_wp2_with (fail)
              go_ret
              exact ⟨rfl, k2.ref oo3, R3, (o1.trans (wr1 o2)).trans (wr2 oo3)⟩
            · as_aux_lemma =>
              rw [if_neg h5]
              have kH := hid k1
              have r1H := hid (show R22 w1 q base h from ⟨rr, s, t, r1⟩)
              clear k1 r1 z r1d k1d o1d
              go_enter Try.func22, Try.ntmps22
              have hww := hwH.out
              go_wp2_with (fail)
              go_ret
              exact ⟨rfl, kH.out, r1H.out, o1⟩
end
end Go.Proofs.Ytmhnfcodppfaiac.HchanCode
