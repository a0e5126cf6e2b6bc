
/- The walk of HchanPlays. -/
import Derived.Test.YtmhnfcodppfaiacHchanSame
namespace Go.Proofs.Ytmhnfcodppfaiac.HchanCode
open Go Go.RowKit Go.Proofs.Ytmhnfcodppfaiac.Obj Go.Proofs.Ytmhnfcodppfaiac.ListPure Go.Proofs.YtmhnfcodppfaiacW.PrintWords Go.Proofs.YtmhnfcodppfaiacW.PrintMore
set_option linter.unusedVariables false
set_option maxRecDepth 100000
section
variable {w w' : World} {c q base lo hi : Nat} {h : Hc}
set_option maxHeartbeats 4000000 in
theorem ccopy_at (k : HcAt w c lo hi h) : Calls Try.prog 19 #[.pointer (some ⟨c, 0, none⟩)] w fun e w' => (∃ c2, e = .returned (.pointer (some ⟨c2, 0, none⟩)) ∧ HcAt w' c2 w.heap.size w'.heap.size h) ∧ Only (fun _ => False) w w' := by
  obtain ⟨r, p0, b0, p1, b1, k, hb⟩ := k
  have kd : Raw w.drew c r p0 b0 p1 b1 h := k.only (Only.drew (fun _ => False) w) ⟨id, id, id, id, id, id⟩
  have c0 : w.drew.cell? ⟨c, 0, none⟩ = some (.pointer (some ⟨r, 0, none⟩)) := k.blk.cell 0
  have c1 : w.drew.cell? ⟨c, 1, none⟩ = some (.pointer (some ⟨p0, 0, none⟩)) := k.blk.cell 1
  have c2 : w.drew.cell? ⟨c, 2, none⟩ = some (.pointer (some ⟨p1, 0, none⟩)) := k.blk.cell 2
  have c3 : w.drew.cell? ⟨c, 3, none⟩ = some (.bool h.shut) := k.blk.cell 3
  have hl := k.lt.1
  have hR := RingCode.copy_at kd.ring
  have hl0 := kd.l0
  have hl1 := kd.l1
  have e0 : w.cell? ⟨c, 0, none⟩ = some (.pointer (some ⟨r, 0, none⟩)) := c0
  have e1 : w.cell? ⟨c, 1, none⟩ = some (.pointer (some ⟨p0, 0, none⟩)) := c1
  have e2 : w.cell? ⟨c, 2, none⟩ = some (.pointer (some ⟨p1, 0, none⟩)) := c2
  have e3 : w.cell? ⟨c, 3, none⟩ = some (.bool h.shut) := c3
  have cell4 : ∀ W W' : World, Only (fun _ => False) W W' → c < W.heap.size → (W.cell? ⟨c, 0, none⟩ = some (.pointer (some ⟨r, 0, none⟩)) ∧ W.cell? ⟨c, 1, none⟩ = some (.pointer (some ⟨p0, 0, none⟩)) ∧ W.cell? ⟨c, 2, none⟩ = some (.pointer (some ⟨p1, 0, none⟩)) ∧ W.cell? ⟨c, 3, none⟩ = some (.bool h.shut)) → (W'.cell? ⟨c, 0, none⟩ = some (.pointer (some ⟨r, 0, none⟩)) ∧ W'.cell? ⟨c, 1, none⟩ = some (.pointer (some ⟨p0, 0, none⟩)) ∧ W'.cell? ⟨c, 2, none⟩ = some (.pointer (some ⟨p1, 0, none⟩)) ∧ W'.cell? ⟨c, 3, none⟩ = some (.bool h.shut)) := fun W W' o hl ⟨a0, a1, a2, a3⟩ =>
    have hz := o.block c hl id
    ⟨by rw [← a0]; exact cell_same hz, by rw [← a1]; exact cell_same hz, by rw [← a2]; exact cell_same hz, by rw [← a3]; exact cell_same hz⟩
  have cH := hid cell4
  clear k kd cell4
  go_enter Try.func19, Try.ntmps19
  go_wp2_with (fail)
  go_region_held3 (fun w' : World => w'.cell? ⟨c, 0, none⟩ = some (.pointer (some ⟨r, 0, none⟩)) ∧ w'.cell? ⟨c, 1, none⟩ = some (.pointer (some ⟨p0, 0, none⟩)) ∧ w'.cell? ⟨c, 2, none⟩ = some (.pointer (some ⟨p1, 0, none⟩)) ∧ w'.cell? ⟨c, 3, none⟩ = some (.bool h.shut)) (first | (refine ⟨?_, ?_, ?_, ?_⟩ <;> assumption) | go_keep) (first
    | (go_at_call 38; refine hR.mono ?_; rintro e w2 ⟨rfl, r2, o2, s2⟩; obtain ⟨f0, f1, f2, f3⟩ := cH.out _ _ o2 hl ⟨c0, c1, c2, c3⟩; have hl02 := hl0.only o2 id id; have hl12 := hl1.only o2 id id)
    | (go_at_call 39; (with_reducible refine (ListCode.copy_at hl02).mono ?_); rintro e w3 ⟨⟨p2, b2, rfl, k3, hp2, hb2⟩, o3⟩; obtain ⟨g0, g1, g2, g3⟩ := cH.out _ _ o3 (Nat.lt_of_lt_of_le hl o2.size) ⟨f0, f1, f2, f3⟩; have hl13 := hl12.only o3 id id)
    | (go_at_call 39; (with_reducible refine (ListCode.copy_at hl13).mono ?_); rintro e w4 ⟨⟨p3, b3, rfl, k4, hp3, hb3⟩, o4⟩; obtain ⟨i0, i1, i2, i3⟩ := cH.out _ _ o4 (Nat.lt_of_lt_of_le hl (Nat.le_trans o2.size o3.size)) ⟨g0, g1, g2, g3⟩))
  all_goals go_wp2_with (fail)
  all_goals go_ret
  all_goals
    have q2 := (r2.only o3 id).only o4 id
    have q3 := k3.only o4 id id
    have l2 := r2.lt
    have l3 := k3.lt
    have l4 := k4.lt
    have z2 := o2.size
    have z3 := o3.size
    have z4 := o4.size
    have hb4 : Below w4.heap.size w4 (w4.alloc (.cells #[.pointer (some ⟨w.heap.size, 0, none⟩), .pointer (some ⟨p2, 0, none⟩), .pointer (some ⟨p3, 0, none⟩), .bool h.shut] 59)) := (Below.refl _ _).alloc (Nat.le_refl _) _
    have q2' := q2.only (Only.none_of_below hb4) id
    have q3' := q3.below hb4
    have q4' := k4.below hb4
    have hwd : w.drew.heap.size = w.heap.size := rfl
    refine ⟨⟨w4.heap.size, rfl, w.heap.size, p2, b2, p3, b3, ⟨Blk.new w4 _ [.pointer (some ⟨w.heap.size, 0, none⟩), .pointer (some ⟨p2, 0, none⟩), .pointer (some ⟨p3, 0, none⟩), .bool h.shut], q2', q3', q4', by omega, by omega⟩, ?_⟩, (((Only.drew _ w).trans o2).trans o3).trans (o4.trans (Only.none_of_below hb4))⟩
    simp only [World.size_alloc]
    omega
theorem act_len (h : Hc) (d : Int) (s : Bool) (i v : Int) : (h.act d s i v).L0.length ≤ h.L0.length + 1 ∧ (h.act d s i v).L1.length ≤ h.L1.length + 1 := by
  have hp : ∀ L : List Int, (ListCode.putL L i).length ≤ L.length + 1 := fun L => by unfold ListCode.putL; split <;> simp
  have he : ∀ L : List Int, (L.erase i).length ≤ L.length + 1 := fun L => Nat.le_succ_of_le (List.length_erase_le ..)
  unfold Hc.act
  repeat' split
  all_goals first
    | exact ⟨Nat.le_succ _, Nat.le_succ _⟩
    | (cases s
       · exact ⟨hp _, Nat.le_succ _⟩
       · exact ⟨Nat.le_succ _, hp _⟩)
    | (cases s
       · exact ⟨he _, Nat.le_succ _⟩
       · exact ⟨Nat.le_succ _, he _⟩)
theorem r22_new (w : World) (most : Nat) : Calls Try.prog 18 #[.int .i64 most] w fun e w' => (∃ q, e = .returned (.pointer (some ⟨q, 0, none⟩)) ∧ R22 w' q w.heap.size (Hc.new most)) ∧ Below w.heap.size w w' := by
  go_enter Try.func18, Try.ntmps18
  go_wp2
  go_ret
  have b1 : RefRing.RefAt (w.alloc (.cells #[.int .i64 most, .slice none 0 0] 71)) w.heap.size most [] := ⟨.slice none 0 0, Blk.new w _ [.int .i64 most, .slice none 0 0], own_nil _ _ _ _⟩
  have b2 : RefList.RefAt ((w.alloc (.cells #[.int .i64 most, .slice none 0 0] 71)).alloc (.cells #[.slice none 0 0] 74)) (w.heap.size + 1) [] := ⟨.slice none 0 0, by have := Blk.new (w.alloc (.cells #[.int .i64 most, .slice none 0 0] 71)) 74 [.slice none 0 0]; rw [World.size_alloc] at this; exact this, own_nil _ _ _ _⟩
  have b3 : RefList.RefAt (((w.alloc (.cells #[.int .i64 most, .slice none 0 0] 71)).alloc (.cells #[.slice none 0 0] 74)).alloc (.cells #[.slice none 0 0] 74)) (w.heap.size + 2) [] := ⟨.slice none 0 0, by have := Blk.new ((w.alloc (.cells #[.int .i64 most, .slice none 0 0] 71)).alloc (.cells #[.slice none 0 0] 74)) 74 [.slice none 0 0]; rw [World.size_alloc, World.size_alloc] at this; exact this, own_nil _ _ _ _⟩
  have al : ∀ (W : World) (o : Obj), Only (fun _ => False) W (W.alloc o) := fun W o => Only.alloc _ W o
  have nf : ∀ (S : Nat → Prop) (P : Nat → Prop), (∀ k, S k → False) → ∀ k, ¬ S k := fun S P h k hk => h k hk
  have c1 := ((rr_keep b1 (al _ (.cells #[.slice none 0 0] 74)) id (fun _ _ _ _ => id)))
  have c2 := ((rr_keep c1 (al _ (.cells #[.slice none 0 0] 74)) id (fun _ _ _ _ => id)))
  have c3 := rr_keep c2 (al _ (.cells #[.pointer (some ⟨w.heap.size, 0, none⟩), .pointer (some ⟨w.heap.size + 1, 0, none⟩), .pointer (some ⟨w.heap.size + 2, 0, none⟩), .bool false] 76)) id (fun _ _ _ _ => id)
  have d2 := rl_keep b2 (al _ (.cells #[.slice none 0 0] 74)) id (fun _ _ _ _ => id)
  have d3 := rl_keep d2 (al _ (.cells #[.pointer (some ⟨w.heap.size, 0, none⟩), .pointer (some ⟨w.heap.size + 1, 0, none⟩), .pointer (some ⟨w.heap.size + 2, 0, none⟩), .bool false] 76)) id (fun _ _ _ _ => id)
  have f3 := rl_keep b3 (al _ (.cells #[.pointer (some ⟨w.heap.size, 0, none⟩), .pointer (some ⟨w.heap.size + 1, 0, none⟩), .pointer (some ⟨w.heap.size + 2, 0, none⟩), .bool false] 76)) id (fun _ _ _ _ => id)
  have hq := Blk.new (((w.alloc (.cells #[.int .i64 most, .slice none 0 0] 71)).alloc (.cells #[.slice none 0 0] 74)).alloc (.cells #[.slice none 0 0] 74)) 76 [.pointer (some ⟨w.heap.size, 0, none⟩), .pointer (some ⟨w.heap.size + 1, 0, none⟩), .pointer (some ⟨w.heap.size + 2, 0, none⟩), .bool false]
  simp only [World.size_alloc] at hq
  refine ⟨⟨w.heap.size + 3, rfl, w.heap.size, w.heap.size + 1, w.heap.size + 2, hq, c3, d3, f3, by omega, by omega, Nat.le_refl _, by omega, by omega⟩, ?_⟩
  exact ((((Below.refl _ w).alloc (Nat.le_refl _) _).alloc (by simp) _).alloc (by simp; omega) _).alloc (by simp; omega) _
end
set_option maxHeartbeats 16000000 in
theorem plays_walk (m : Int) (ad : Option Addr) (len cap : Nat) (x : Int) (w : World) (hm : (Lit.int .i64 m).wf = true) (ha : Obj.Rows w [.int .i64, .bool, .int .i64, .int .i64] ad len cap) (hx0 : (Lit.int .i64 x).wf = true) :
    Calls Try.prog 5 #[.int .i64 m, .slice ad len cap, .int .i64 x] w fun e w' => e = .returned (.bool true) ∧ Below w.heap.size w w' := by
  by_cases h200 : 200 < len
  · go_enter Try.func5, Try.ntmps5
    go_wp2_with (fail)
    refine (alive_at _).mono ?_
    rintro e w2 ⟨rfl, hb2⟩
    go_wp2_with (fail)
    go_ret
    exact ⟨rfl, hb2⟩
  · have hlen : len ≤ 200 := by omega
    by_cases hout : m < 0 ∨ m > 8
    · have hoH := hid hout
      rcases hout with h1 | h1
      all_goals
        try (have h2 : ¬ (m < 0) := by omega)
        go_enter Try.func5, Try.ntmps5
        go_wp2_with (fail)
        refine (nothing_at _).mono ?_
        rintro e w0 ⟨rfl, hb0⟩
        go_wp2_with (fail)
        refine (hnew_out m _ hoH.out).mono ?_
        rintro e w1 ⟨rfl, hw⟩
        obtain rfl : w0 = w1 := hw.symm
        go_wp2_with (fail)
        refine (alive_at _).mono ?_
        rintro e w2 ⟨rfl, hb2⟩
        have hb3 := hb0.trans (hb2.mono hb0.size)
        go_wp2_with (fail)
        go_ret
        exact ⟨rfl, hb3⟩
    · obtain ⟨most, rfl⟩ : ∃ k : Nat, m = (k : Int) := ⟨m.toNat, by omega⟩
      have hm8 : most ≤ 8 := by omega
      have hn8 : ¬ ((most : Int) > 8) := by omega
      clear hout hm
      go_enter Try.func5, Try.ntmps5
      go_wp2_with (fail)
      refine (nothing_at _).mono ?_
      rintro e w0 ⟨rfl, hb0⟩
      go_wp2_with (fail)
      refine (hnew_at most w0 hm8).mono ?_
      rintro e w1 ⟨⟨c, rfl, k1⟩, hb1⟩
      go_wp2_with (fail)
      refine (r22_new w1 most).mono ?_
      rintro e w2 ⟨⟨q, rfl, r2⟩, hb2⟩
      have k2 := k1.below hb2
      have hs0 := hb0.size
      have hs1 := hb1.size
      have hbz : w1.heap.size ≤ w2.heap.size := hb2.size
      have hb3 := (hb0.trans (hb1.mono hs0)).trans (hb2.mono (Nat.le_trans hs0 hs1))
      have hbase : w.heap.size ≤ w1.heap.size := Nat.le_trans hs0 hs1
      clear k1 hb0 hb1 hb2
      go_wp2_with (fail)
      obtain ⟨base, hbs⟩ : ∃ base, base = w1.heap.size := ⟨_, rfl⟩
      obtain ⟨lo0, hl0⟩ : ∃ lo, lo = w0.heap.size := ⟨_, rfl⟩
      rw [← hbs] at k2 r2 hbase hbz
      rw [← hl0] at k2 hs0
      clear hbs hl0 hs1
      go_loopg [7, 10] len (fun kq v7 v10 w' => ∃ (i c lo hi : Nat) (h : Hc), kq + i = len ∧ v10 = .int .i64 (i : Int) ∧ v7 = .pointer (some ⟨c, 0, none⟩) ∧ w.heap.size ≤ lo ∧ HcAt w' c lo hi h ∧ R22 w' q base h ∧ Below w.heap.size w w' ∧ h.L0.length ≤ i ∧ h.L1.length ≤ i ∧ hi ≤ w'.heap.size)
      case atStart => exact ⟨0, c, lo0, base, _, rfl, rfl, rfl, hs0, k2, r2, hb3, Nat.le_refl _, Nat.le_refl _, hbz⟩
      case round =>
        clear k2 r2 hb3 hs0 hbz
        obtain ⟨i, c, lo, hi, h, hi', rfl, rfl, hlo, k, r, hb, hL0, hL1, hhi⟩ := hrel
        cases gk with
        | zero =>
          have hin : ¬ ((i : Int) < (len : Int)) := by omega
          clear k r
          go_wp2_with (fail)
          refine (alive_at _).mono ?_
          rintro e w3 ⟨rfl, hb3⟩
          have hb4 := hb.trans (hb3.mono hb.size)
          go_wp2_with (fail)
          go_ret
          exact ⟨rfl, hb4⟩
        | succ k1 =>
          have hin : ((i : Int) < (len : Int)) := by omega
          obtain ⟨xb, xo, rfl, hxb, hx⟩ := ha.at (by decide) i (by omega)
          obtain ⟨t0, c0, d0, rfl, wd0⟩ := hx 0 _ rfl
          obtain ⟨t1, c1, d1, rfl⟩ := hx 1 _ rfl
          obtain ⟨t2, c2, d2, rfl, wd2⟩ := hx 2 _ rfl
          obtain ⟨t3, c3, d3, rfl, wd3⟩ := hx 3 _ rfl
          simp only [List.length_cons, List.length_nil, Nat.reduceAdd, Nat.add_zero] at c0 c1 c2 c3
          have hcells : ∀ W, Below w.heap.size w W → W.cell? ⟨xb, xo + i * 4, none⟩ = some (.int .i64 d0) ∧ W.cell? ⟨xb, xo + i * 4 + 1, none⟩ = some (.bool d1) ∧ W.cell? ⟨xb, xo + i * 4 + 2, none⟩ = some (.int .i64 d2) ∧ W.cell? ⟨xb, xo + i * 4 + 3, none⟩ = some (.int .i64 d3) := fun W hB =>
            ⟨by rw [← c0]; exact hB.cell (p := ⟨_, _, none⟩) hxb, by rw [← c1]; exact hB.cell (p := ⟨_, _, none⟩) hxb, by rw [← c2]; exact hB.cell (p := ⟨_, _, none⟩) hxb, by rw [← c3]; exact hB.cell (p := ⟨_, _, none⟩) hxb⟩
          have hcH := hid hcells
          have hcap : (len : Int) ≤ (cap : Int) := by
            rcases ha with ⟨h, _⟩ | ⟨_, _, h, _⟩
            · cases h
            · omega
          clear hx c0 c1 c2 c3 hcells
          obtain ⟨c0, _, _, _⟩ := hcH.out _ hb
          go_upto_if 57 with (fail)
          go_cut [7] (fun v7 wx => ∃ (c lo hi : Nat), v7 = .pointer (some ⟨c, 0, none⟩) ∧ w.heap.size ≤ lo ∧ HcAt wx c lo hi h ∧ R22 wx q base h ∧ Below w.heap.size w wx ∧ hi ≤ wx.heap.size)
          case first =>
            by_cases h6 : d0 = 6
            · subst h6
              have hC := ccopy_at k
              have kH := hid k
              have rH := hid r
              clear k r
              go_wp2_with (fail)
              refine hC.mono ?_
              rintro e w2 ⟨⟨c2, rfl, n2⟩, o2⟩
              have k2 := kH.out.far o2 (fun _ _ _ _ => id)
              have r2 := rH.out.none o2
              have hb2 : Below w.heap.size w w2 := o2.below hb hb.size (fun _ _ h => h.elim)
              have hsz := hb.size
              have hfar : ∀ (W0 : World), ∀ j, wr.heap.size ≤ j → j < w2.heap.size → j < W0.heap.size → ∀ V, ¬ KIn V lo hi j := fun W0 j h1 _ _ V h2 => by have := h2.2.1; omega
              have hfH := hid hfar
              have hsz2 := o2.size
              have hwsz : w.heap.size ≤ wr.heap.size := hsz
              clear hC hb o2 hfar
              go_wp2_with (fail)
              refine (cput k2 99).mono ?_
              rintro e w3 ⟨rfl, k3, o3⟩
              have n3 := n2.far o3 (fun j h1 h2 h3 => hfH.out _ j h1 h2 h3 _)
              have r3 := r2.kin o3
              have hb3 := upK hb2 (Nat.le_refl _) hlo o3
              clear k2 n2 r2 hb2
              go_wp2_with (fail)
              refine (cenq k3 true (i := 999) (by decide)).mono ?_
              rintro e w4 ⟨rfl, k4, o4⟩
              have n4 := n3.far o4 (fun j h1 h2 h3 => hfH.out _ j h1 h2 h3 _)
              have r4 := r3.kin o4
              have hb4 := upK hb3 (Nat.le_refl _) hlo o4
              clear k3 n3 r3 hb3
              go_wp2_with (fail)
              refine (cenq k4 false (i := 999) (by decide)).mono ?_
              rintro e w5 ⟨rfl, k5, o5⟩
              have n5 := n4.far o5 (fun j h1 h2 h3 => hfH.out _ j h1 h2 h3 _)
              have r5 := r4.kin o5
              have hb5 := upK hb4 (Nat.le_refl _) hlo o5
              clear k4 n4 r4 hb4
              go_wp2_with (fail)
              refine (cshut k5).mono ?_
              rintro e w6 ⟨rfl, k6, o6⟩
              have n6 := n5.far o6 (fun j h1 h2 h3 => hfH.out _ j h1 h2 h3 _)
              have r6 := r5.kin o6
              have hb6 := upK hb5 (Nat.le_refl _) hlo o6
              have hs6 : w2.heap.size ≤ w6.heap.size := Nat.le_trans o3.size (Nat.le_trans o4.size (Nat.le_trans o5.size o6.size))
              clear k5 n5 r5 hb5 k6 o3 o4 o5 o6
              go_wp2_with (fail)
              go_meet
              exact ⟨c2, _, _, rfl, hwsz, n6, r6, hb6, hs6⟩
            · go_wp2_with (fail)
              go_meet
              exact ⟨c, lo, hi, rfl, hlo, k, r, hb, hhi⟩
          case rest =>
            clear k r hb c0 hlo hhi
            obtain ⟨c, lo, hi, rfl, hlo, k, r, hb, hhi⟩ := hcut
            obtain ⟨c0, c1, c2, c3⟩ := hcH.out _ hb
            have z : Sz h := by
              have := k.lens
              exact ⟨this.1, this.2.1, by omega, by omega⟩
            have hD := does_at k r z d0 d1 d2 d3 wd2
            have hsz := k.lens
            have hal := act_len h d0 d1 d2 d3
            have halH := hid hal
            clear k r hal
            go_wp2_with (fail)
            refine hD.mono ?_
            rintro e w2 ⟨rfl, k2, r2, o2⟩
            have hb2 : Below w.heap.size w w2 := o2.below hb hb.size (fun k _ h => by rcases h with h | h <;> omega)
            obtain ⟨c0', c1', c2', c3'⟩ := hcH.out _ hb2
            have z2 : Sz (h.act d0 d1 d2 d3) := by
              have h1 := k2.lens
              have h2 := halH.out
              exact ⟨h1.1, h1.2.1, by omega, by omega⟩
            have hS := same_at k2 r2 z2 x hx0
            have hsz2 := o2.size
            clear hD k2 r2 o2 hb c0 c1 c2 c3
            go_wp2_with (fail)
            refine hS.mono ?_
            rintro e w3 ⟨rfl, k3, r3, hB3⟩
            have hb3 := hb2.trans (hB3.mono hb2.size)
            have hf : (h.act d0 d1 d2 d3).L0.length ≤ i + 1 ∧ (h.act d0 d1 d2 d3).L1.length ≤ i + 1 := by have := halH.out; omega
            have hfH := hid hf
            have hh3 : hi ≤ w3.heap.size := Nat.le_trans hhi (Nat.le_trans hsz2 hB3.size)
            clear hS hB3 hf hb2
            go_wp2_with (fail)
            go_roundg k1
            case measure => omega
            case rel => exact ⟨i + 1, c, lo, hi, _, by omega, by go_num, rfl, hlo, k3, r3, hb3, hfH.out.1, hfH.out.2, hh3⟩
end Go.Proofs.Ytmhnfcodppfaiac.HchanCode
