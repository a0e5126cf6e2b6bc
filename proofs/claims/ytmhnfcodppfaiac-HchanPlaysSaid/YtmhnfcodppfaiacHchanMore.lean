
/- A channel is made; the chapter's example; a step, of one. -/
import Derived.Test.YtmhnfcodppfaiacHchan
import Derived.Test.YtmhnfcodppfaiacSameInts
import Derived.Test.YtmhnfcodppfaiacListAlive
namespace Go.Proofs.Ytmhnfcodppfaiac.HchanCode
open Go Go.RowKit Go.Proofs.Ytmhnfcodppfaiac.Obj Go.Proofs.Ytmhnfcodppfaiac.ListPure
set_option linter.unusedVariables false
set_option maxRecDepth 100000
def Hc.new (most : Nat) : Hc := ⟨most, [], [], [], false⟩
section
variable {w w' : World} {c lo hi : Nat} {h : Hc}
theorem hnew_out (k : Int) (w : World) (h : k < 0 ∨ k > 8) : Calls Try.prog 7 #[.int .i64 k] w fun e w' => e = .returned (.tuple #[.pointer none, .int .i64 2]) ∧ w' = w := by
  have hR := RingCode.new_out k w h
  clear h
  go_enter Try.func7, Try.ntmps7
  go_wp2_with (fail)
  refine hR.mono ?_
  rintro e w1 ⟨rfl, rfl⟩
  go_wp2_with (fail)
  go_ret2
  exact ⟨rfl, rfl⟩
theorem hnew_at (most : Nat) (w : World) (hm : most ≤ 8) : Calls Try.prog 7 #[.int .i64 most] w fun e w' => (∃ c, e = .returned (.tuple #[.pointer (some ⟨c, 0, none⟩), .int .i64 0]) ∧ HcAt w' c w.heap.size w'.heap.size (Hc.new most)) ∧ Below w.heap.size w w' := by
  go_enter Try.func7, Try.ntmps7
  go_wp2_with (fail)
  refine (RingCode.new_at most w hm).mono ?_
  rintro e w1 ⟨rfl, hR1, hb1, hs1⟩
  go_wp2_with (fail)
  refine (ListCode.lnew_at w1).mono ?_
  rintro e w2 ⟨rfl, hL2, hb2⟩
  go_wp2_with (fail)
  refine (ListCode.lnew_at w2).mono ?_
  rintro e w3 ⟨rfl, hL3, hb3⟩
  go_wp2_with (fail)
  go_ret2
  have hb4 : Below w3.heap.size w3 (w3.alloc (.cells #[.pointer (some ⟨w.heap.size, 0, none⟩), .pointer (some ⟨w1.heap.size + 1, 0, none⟩), .pointer (some ⟨w2.heap.size + 1, 0, none⟩), .bool false] 59)) := (Below.refl _ w3).alloc (Nat.le_refl _) _
  have l2 := hL2.lt
  have l3 := hL3.lt
  have hR3 := (hR1.only (Only.none_of_below hb2) id).only (Only.none_of_below hb3) id
  have r3 := hR3.lt
  have s2 := hb2.size
  have s3 := hb3.size
  have hr4 := hR3.only (Only.none_of_below hb4) id
  have h24 := (hL2.below hb3).below hb4
  have h34 := hL3.below hb4
  refine ⟨⟨w3.heap.size, rfl, w.heap.size, w1.heap.size + 1, w1.heap.size, w2.heap.size + 1, w2.heap.size, ⟨Blk.new w3 _ [.pointer (some ⟨w.heap.size, 0, none⟩), .pointer (some ⟨w1.heap.size + 1, 0, none⟩), .pointer (some ⟨w2.heap.size + 1, 0, none⟩), .bool false], hr4, h24, h34, by omega, by omega⟩, ?_⟩, ((hb1.trans (hb2.mono hb1.size)).trans (hb3.mono (Nat.le_trans hb1.size hb2.size))).trans (hb4.mono (Nat.le_trans hb1.size (Nat.le_trans hb2.size hb3.size)))⟩
  simp only [World.size_alloc]
  omega
theorem enq_eq (k : HcAt w c lo hi h) (s : Bool) (i : Int) (hwf : (Lit.int .i64 i).wf = true) (cc : Int) (h2 : Hc) (hc : ListCode.putC (h.q s) i = cc) (hl : h.setq s (ListCode.putL (h.q s) i) = h2) : Calls Try.prog 9 #[.pointer (some ⟨c, 0, none⟩), .bool s, .int .i64 i] w fun e w' => e = .returned (.int .i64 cc) ∧ HcAt w' c lo hi h2 ∧ Only (KIn w lo hi) w w' := by
  subst hc; subst hl; exact cenq k s hwf
theorem deq_eq (k : HcAt w c lo hi h) (s : Bool) (i : Int) (hwf : (Lit.int .i64 i).wf = true) (cc : Int) (h2 : Hc) (hc : ListCode.dropC (h.q s) i = cc) (hl : h.setq s ((h.q s).erase i) = h2) : Calls Try.prog 10 #[.pointer (some ⟨c, 0, none⟩), .bool s, .int .i64 i] w fun e w' => e = .returned (.int .i64 cc) ∧ HcAt w' c lo hi h2 ∧ Only (KIn w lo hi) w w' := by
  subst hc; subst hl; exact cdeq k s hwf
theorem cfront_eq (k : HcAt w c lo hi h) (s : Bool) (x : Int) (b : Bool) (hx : rHead (h.q s) = x) (hb : rHas (h.q s) = b) : Calls Try.prog 24 #[.pointer (some ⟨c, 0, none⟩), .bool s] w fun e w' => e = .returned (.tuple #[.int .i64 x, .bool b]) ∧ Below w.heap.size w w' := by
  subst hx; subst hb; exact cfront k s
theorem cshut_eq (k : HcAt w c lo hi h) (cc : Int) (hc : shutC h = cc) : Calls Try.prog 21 #[.pointer (some ⟨c, 0, none⟩)] w fun e w' => e = .returned (.int .i64 cc) ∧ HcAt w' c lo hi { h with shut := true } ∧ Only (KIn w lo hi) w w' := by
  subst hc; exact cshut k
theorem upK {B : Nat} {w0 W W' : World} (hb : Below B w0 W) (hB : B ≤ w0.heap.size) (hlo : B ≤ lo) (o : Only (KIn W lo hi) W W') : Below B w0 W' := o.below hb (Nat.le_trans hB hb.size) (fun k _ h => Nat.le_trans hlo h.1)
set_option maxHeartbeats 4000000 in
theorem alive_at (w : World) : Calls Try.prog 6 #[] w fun e w' => e = .returned (.bool true) ∧ Below w.heap.size w w' := by
  go_enter Try.func6, Try.ntmps6
  go_wp2_with (fail)
  refine (hnew_at 1 w (by decide)).mono ?_
  rintro e w1 ⟨⟨c, rfl, h0⟩, hb1⟩
  go_wp2_with (fail)
  refine (hnew_out (-1) _ (by decide)).mono ?_
  rintro e w2 ⟨rfl, hw⟩
  obtain rfl : w1 = w2 := hw.symm
  generalize w1.heap.size = hi at h0
  go_wp2_with (fail)
  refine (enq_eq h0 true 5 (by decide) 0 ⟨1, [], [], [5], false⟩ (by decide) rfl).mono ?_
  rintro e w2 ⟨rfl, h1, o1⟩
  have hb2 := upK hb1 (Nat.le_refl _) (Nat.le_refl _) o1
  go_wp2_with (fail)
  refine (enq_eq h1 true 3 (by decide) 0 ⟨1, [], [], [5, 3], false⟩ (by decide) rfl).mono ?_
  rintro e w3 ⟨rfl, h2, o2⟩
  have hb3 := upK hb2 (Nat.le_refl _) (Nat.le_refl _) o2
  go_wp2_with (fail)
  refine (enq_eq h2 false 5 (by decide) 0 ⟨1, [], [5], [5, 3], false⟩ (by decide) rfl).mono ?_
  rintro e w4 ⟨rfl, h3, o3⟩
  have hb4 := upK hb3 (Nat.le_refl _) (Nat.le_refl _) o3
  go_wp2_with (fail)
  refine (deq_eq h3 true 5 (by decide) 0 ⟨1, [], [5], [3], false⟩ (by decide) rfl).mono ?_
  rintro e w5 ⟨rfl, h4, o4⟩
  have hb5 := upK hb4 (Nat.le_refl _) (Nat.le_refl _) o4
  clear h0 h1 h2 h3 o1 o2 o3 o4 hb1 hb2 hb3 hb4
  go_wp2_with (fail)
  refine (cfront_eq h4 true 3 true rfl rfl).mono ?_
  rintro e w6 ⟨rfl, hB6⟩
  have h5 := h4.below hB6
  have hb6 := hb5.trans (hB6.mono hb5.size)
  go_wp2_with (fail)
  refine (cfront_eq h5 false 5 true rfl rfl).mono ?_
  rintro e w7 ⟨rfl, hB7⟩
  have h6 := h5.below hB7
  have hb7 := hb6.trans (hB7.mono hb6.size)
  clear h4 h5 hb5 hb6 hB6 hB7
  go_wp2_with (fail)
  refine (cshut_eq h6 0 rfl).mono ?_
  rintro e w8 ⟨rfl, h7, o7⟩
  have hb8 := upK hb7 (Nat.le_refl _) (Nat.le_refl _) o7
  go_wp2_with (fail)
  refine (cshut_eq h7 9 rfl).mono ?_
  rintro e w9 ⟨rfl, h8, o8⟩
  have hb9 := upK hb8 (Nat.le_refl _) (Nat.le_refl _) o8
  have hC := cclosed h8
  simp only at hC
  go_wp2_with (fail)
  refine hC.mono ?_
  rintro e w10 ⟨rfl, hw⟩
  obtain rfl : w9 = w10 := hw.symm
  go_wp2_with (fail)
  refine (ccap h8).mono ?_
  rintro e w10 ⟨rfl, h9, o9⟩
  have hb10 : Below w.heap.size w w10 := o9.below hb9 hb9.size (fun _ _ h => h.elim)
  go_wp2_with (fail)
  go_ret
  exact ⟨rfl, hb10⟩
/-- A step, told plainly. -/
def Hc.act (h : Hc) (d : Int) (s : Bool) (i v : Int) : Hc :=
  if d = 0 then { h with V := rPutV h.most h.V v } else if d = 1 then { h with V := h.V.tail } else if d = 2 then { h with V := rSwapV h.most h.V v } else
  if d = 3 then h.setq s (ListCode.putL (h.q s) i) else if d = 4 then h.setq s ((h.q s).erase i) else if d = 5 then { h with shut := true } else h
set_option maxHeartbeats 4000000 in
theorem act_at (k : HcAt w c lo hi h) (d : Int) (s : Bool) (i v : Int) (hwf : (Lit.int .i64 i).wf = true) : Calls Try.prog 14 #[.pointer (some ⟨c, 0, none⟩), .agg #[.int .i64 d, .bool s, .int .i64 i, .int .i64 v]] w fun e w' => (∃ x, e = .returned x) ∧ HcAt w' c lo hi (h.act d s i v) ∧ Only (fun k => lo ≤ k ∧ k < hi) w w' := by
  have hb1 : Below w.heap.size w (w.alloc (.cells #[.int .i64 d, .bool s, .int .i64 i, .int .i64 v] 30)) := (Below.refl _ w).alloc (Nat.le_refl _) _
  have k1 := k.below hb1
  have o1 : Only (fun k => lo ≤ k ∧ k < hi) w (w.alloc (.cells #[.int .i64 d, .bool s, .int .i64 i, .int .i64 v] 30)) := Only.alloc _ _ _
  have e0 := (Blk.new w 30 [.int .i64 d, .bool s, .int .i64 i, .int .i64 v]).cell
  have c0 := e0 0
  have c1 := e0 1
  have c2 := e0 2
  have c3 := e0 3
  have hl := (Blk.new w 30 [.int .i64 d, .bool s, .int .i64 i, .int .i64 v]).lt
  simp only [List.getElem?_cons_zero, List.getElem?_cons_succ] at c0 c1 c2 c3
  clear k hb1 e0
  unfold Hc.act
  by_cases h0 : d = 0
  · rw [if_pos h0]
    subst h0
    have hP := cput k1 v
    clear k1
    go_enter Try.func14, Try.ntmps14
    go_wp2_with (fail)
    refine hP.mono ?_
    rintro e w2 ⟨rfl, k2, o2⟩
    go_wp2_with (fail)
    go_end0
    exact ⟨⟨_, rfl⟩, k2, o1.trans (o2.mono (fun _ _ h => ⟨h.1, h.2.1⟩))⟩
  · rw [if_neg h0]
    by_cases h1 : d = 1
    · rw [if_pos h1]
      subst h1
      have hP := ctake k1
      clear k1
      go_enter Try.func14, Try.ntmps14
      go_wp2_with (fail)
      refine hP.mono ?_
      rintro e w2 ⟨rfl, k2, o2⟩
      go_wp2_with (fail)
      go_end0
      exact ⟨⟨_, rfl⟩, k2, o1.trans (o2.mono (fun _ _ h => ⟨h.1, h.2.1⟩))⟩
    · rw [if_neg h1]
      by_cases h2 : d = 2
      · rw [if_pos h2]
        subst h2
        have hP := cswap k1 v
        clear k1
        go_enter Try.func14, Try.ntmps14
        go_wp2_with (fail)
        refine hP.mono ?_
        rintro e w2 ⟨rfl, k2, o2⟩
        go_wp2_with (fail)
        go_end0
        exact ⟨⟨_, rfl⟩, k2, o1.trans (o2.mono (fun _ _ h => ⟨h.1, h.2.1⟩))⟩
      · rw [if_neg h2]
        by_cases h3 : d = 3
        · rw [if_pos h3]
          subst h3
          have hP := cenq k1 s hwf
          clear k1
          go_enter Try.func14, Try.ntmps14
          go_wp2_with (fail)
          refine hP.mono ?_
          rintro e w2 ⟨rfl, k2, o2⟩
          go_wp2_with (fail)
          go_end0
          exact ⟨⟨_, rfl⟩, k2, o1.trans (o2.mono (fun _ _ h => ⟨h.1, h.2.1⟩))⟩
        · rw [if_neg h3]
          by_cases h4 : d = 4
          · rw [if_pos h4]
            subst h4
            have hP := cdeq k1 s hwf
            clear k1
            go_enter Try.func14, Try.ntmps14
            go_wp2_with (fail)
            refine hP.mono ?_
            rintro e w2 ⟨rfl, k2, o2⟩
            go_wp2_with (fail)
            go_end0
            exact ⟨⟨_, rfl⟩, k2, o1.trans (o2.mono (fun _ _ h => ⟨h.1, h.2.1⟩))⟩
          · rw [if_neg h4]
            by_cases h5 : d = 5
            · rw [if_pos h5]
              subst h5
              have hP := cshut k1
              clear k1
              go_enter Try.func14, Try.ntmps14
              go_wp2_with (fail)
              refine hP.mono ?_
              rintro e w2 ⟨rfl, k2, o2⟩
              go_wp2_with (fail)
              go_end0
              exact ⟨⟨_, rfl⟩, k2, o1.trans (o2.mono (fun _ _ h => ⟨h.1, h.2.1⟩))⟩
            · rw [if_neg h5]
              have kH := hid k1
              clear k1
              go_enter Try.func14, Try.ntmps14
              go_wp2_with (fail)
              go_end0
              exact ⟨⟨_, rfl⟩, kH.out, o1⟩
end
end Go.Proofs.Ytmhnfcodppfaiac.HchanCode
