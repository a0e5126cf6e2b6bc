
/- The walk of HchanSlots. -/
import Derived.Test.YtmhnfcodppfaiacHchanMore
import Derived.Test.YtmhnfcodppfaiacRow
namespace Go.Proofs.Ytmhnfcodppfaiac.HchanCode
open Go Go.RowKit Go.Proofs.Ytmhnfcodppfaiac.Obj Go.Proofs.Ytmhnfcodppfaiac.ListPure Go.Proofs.Ytmhnfcodppfaiac.Row Go.Proofs.YtmhnfcodppfaiacW.PrintWords Go.Proofs.YtmhnfcodppfaiacW.PrintMore
set_option linter.unusedVariables false
set_option maxRecDepth 100000
theorem setq_self (h : Hc) (s : Bool) : h.setq s (h.q s) = h := by cases s <;> rfl
theorem q_setq (h : Hc) (s : Bool) (L : List Int) : (h.setq s L).q s = L := by cases s <;> rfl
theorem q_setq_ne (h : Hc) {s t : Bool} (hst : s ≠ t) (L : List Int) : (h.setq s L).q t = h.q t := by
  cases s <;> cases t <;> first | exact absurd rfl hst | rfl
theorem HcAt.good {w : World} {c lo hi : Nat} {h : Hc} (k : HcAt w c lo hi h) (s : Bool) : (h.q s).Nodup ∧ (∀ x ∈ h.q s, 0 ≤ x ∧ x < 1024) ∧ (h.q s).length ≤ 1024 := by
  obtain ⟨r, p0, b0, p1, b1, k, _⟩ := k
  cases s with
  | true => exact ⟨k.l1.nodup, k.l1.rng, k.l1.len⟩
  | false => exact ⟨k.l0.nodup, k.l0.rng, k.l0.len⟩
theorem erase_filter {L : List Int} (h : L.Nodup) (d : Int) : L.filter (fun x => !decide (x = d)) = L.erase d := by
  rw [h.erase_eq_filter]
  congr 1
theorem take_filter_yes {L : List Int} {k : Nat} {x d : Int} (hx : L[k]? = some x) (h : x ≠ d) : (L.take (k + 1)).filter (fun x => !decide (x = d)) = (L.take k).filter (fun x => !decide (x = d)) ++ [x] := by
  rw [List.take_add_one, hx, List.filter_append]
  simp [h]
theorem take_filter_no {L : List Int} {k : Nat} {d : Int} (hx : L[k]? = some d) : (L.take (k + 1)).filter (fun x => !decide (x = d)) = (L.take k).filter (fun x => !decide (x = d)) := by
  rw [List.take_add_one, hx, List.filter_append]
  simp
theorem info3 : (Try.prog.info? 3).map (fun i => (i.zero, i.size, i.bytes)) = some (some (.int .i64 0), 1, 8) := by kernel_rfl
theorem far_row {w w' : World} {B lo hi : Nat} {v : Value} {M : List Int} (h : IRow 3 .i64 w B v M) (o : Only (KIn w lo hi) w w') (hB : hi ≤ B) : IRow 3 .i64 w' B v M :=
  h.far o (fun g h1 _ h2 => by have := h2.2.1; omega)
set_option maxHeartbeats 16000000 in
theorem slots_walk (ad : Option Addr) (len cap : Nat) (sd : Bool) (w : World) (ha : Obj.Rows w [.int .i64, .bool, .int .i64, .int .i64] ad len cap) :
    Calls Try.prog 3 #[.slice ad len cap, .bool sd] w fun e w' => e = .returned (.bool true) ∧ Below w.heap.size w w' := by
  by_cases h200 : 200 < len
  · go_enter Try.func3, Try.ntmps3
    go_wp2_with (fail)
    refine (alive_at _).mono ?_
    rintro e w2 ⟨rfl, hb2⟩
    go_wp2_with (fail)
    go_ret
    exact ⟨rfl, hb2⟩
  · have hlen : len ≤ 200 := by omega
    go_enter Try.func3, Try.ntmps3
    go_wp2_with (fail)
    refine (hnew_at 0 w (by decide)).mono ?_
    rintro e w1 ⟨⟨c, rfl, k0⟩, hb0⟩
    have hs1 := hb0.size
    have hs2 : w1.heap.size ≤ w1.heap.size := Nat.le_refl _
    go_wp2_with (fail)
    obtain ⟨hi, hhi⟩ : ∃ hi, hi = w1.heap.size := ⟨_, rfl⟩
    rw [← hhi] at k0 hs1
    have hs2 : hi ≤ w1.heap.size := Nat.le_of_eq hhi
    clear hhi
    go_loopg [7, 8] len (fun kq v7 v8 w' => ∃ (i : Nat) (h : Hc), kq + i = len ∧ v8 = .int .i64 (i : Int) ∧ HcAt w' c w.heap.size hi h ∧ IRow 3 .i64 w' hi v7 (h.q sd) ∧ Below w.heap.size w w' ∧ hi ≤ w'.heap.size)
    case atStart => exact ⟨0, _, rfl, rfl, k0, by cases sd <;> exact IRow.nil _ _ _ _, hb0, hs2⟩
    case round =>
      clear k0 hb0 hs2
      obtain ⟨i, h, hi', rfl, hk, hR, hb, hsz⟩ := hrel
      cases gk with
      | zero =>
        have hin : ¬ ((i : Int) < (len : Int)) := by omega
        clear hk hR
        go_wp2_with (fail)
        refine (alive_at _).mono ?_
        rintro e w3 ⟨rfl, hb3⟩
        have hb4 := hb.trans (hb3.mono hb.size)
        go_wp2_with (fail)
        go_ret
        exact ⟨rfl, hb4⟩
      | succ k1 =>
        have hin : ((i : Int) < (len : Int)) := by omega
        obtain ⟨xb, xo, rfl, hxb, hx⟩ := ha.at (by decide) i (by omega)
        obtain ⟨t0, c0, d0, rfl, wd0⟩ := hx 0 _ rfl
        obtain ⟨t1, c1, d1, rfl⟩ := hx 1 _ rfl
        obtain ⟨t2, c2, d2, rfl, wd2⟩ := hx 2 _ rfl
        obtain ⟨t3, c3, d3, rfl, wd3⟩ := hx 3 _ rfl
        simp only [List.length_cons, List.length_nil, Nat.reduceAdd, Nat.add_zero] at c0 c1 c2 c3
        rw [← hb.cell (p := ⟨_, _, none⟩) hxb] at c0 c1 c2 c3
        have hk1 := hk.below ((Below.refl _ wr).alloc (Nat.le_refl _) (.cells #[.int .i64 d0, .bool d1, .int .i64 d2, .int .i64 d3] 30))
        have hR1 := hR.alloc (.cells #[.int .i64 d0, .bool d1, .int .i64 d2, .int .i64 d3] 30)
        have hb1 := hb.alloc hb.size (.cells #[.int .i64 d0, .bool d1, .int .i64 d2, .int .i64 d3] 30)
        have hsz1 : hi ≤ (wr.alloc (.cells #[.int .i64 d0, .bool d1, .int .i64 d2, .int .i64 d3] 30)).heap.size := by simp; omega
        have ee := (Blk.new wr 30 [.int .i64 d0, .bool d1, .int .i64 d2, .int .i64 d3])
        have hH := chas hk1 d1 wd2
        clear hx hk hR
        go_wp2_with (fail)
        have hxl : xb < (wr.alloc (.cells #[.int .i64 d0, .bool d1, .int .i64 d2, .int .i64 d3] 30)).heap.size := by have := hb.size; simp; omega
        clear hb c0 c1 c2 c3
        generalize wr.alloc (.cells #[.int .i64 d0, .bool d1, .int .i64 d2, .int .i64 d3] 30) = W1 at *
        generalize hsb : wr.heap.size = sb at *
        have hsbl : hi ≤ sb := by omega
        clear hsz hsb
        refine hH.mono ?_
        rintro e w2 ⟨rfl, hB2⟩
        have hk2 := hk1.below hB2
        have hR2 := hR1.below hB2
        have hb2 := hb1.trans (hB2.mono hb1.size)
        have hsz2 : hi ≤ w2.heap.size := Nat.le_trans hsz1 hB2.size
        have e2 := ee.same (hB2.block _ ee.lt)
        have gd := hid (hk2.good d1)
        have gs := hid (hk2.good sd)
        clear hH hk1 hR1 hb1 hsz1 ee hB2 hxl
        have hev : Blk w2 sb 30 [.int .i64 d0, .bool d1, .int .i64 d2, .int .i64 d3] := e2
        have s0 : w2.cell? ⟨sb, 0, none⟩ = some (.int .i64 d0) := hev.cell 0
        have s1 : w2.cell? ⟨sb, 1, none⟩ = some (.bool d1) := hev.cell 1
        have s2 : w2.cell? ⟨sb, 2, none⟩ = some (.int .i64 d2) := hev.cell 2
        clear e2
        obtain ⟨A7, c7, rfl, hc7⟩ := hR2.form
        obtain ⟨hz, hhz⟩ : ∃ b, mem (h.q d1) d2 = b := ⟨_, rfl⟩
        rw [hhz]
        have hzH := hid hhz
        clear hhz
        go_upto_block 2 with (fail)
        go_cut [7] (fun v7 wx => ∃ h : Hc, HcAt wx c w.heap.size hi h ∧ IRow 3 .i64 wx hi v7 (h.q sd) ∧ Below w.heap.size w wx ∧ hi ≤ wx.heap.size)
        case first =>
          by_cases hd0 : d0 = 3
          · as_aux_lemma =>
            subst hd0
            have hP := cenq hk2 d1 wd2
            by_cases hin2 : d2 < 0 ∨ d2 ≥ 1024
            · obtain rfl : hz = false := by
                rw [← hzH.out]
                have := gd.out.2.1 d2
                simp only [mem, decide_eq_false_iff_not]
                intro h; have := this h; omega
              have ep : ListCode.putC (h.q d1) d2 = 2 := by unfold ListCode.putC; rw [if_pos hin2]
              have el : ListCode.putL (h.q d1) d2 = h.q d1 := by unfold ListCode.putL; rw [ep]; rfl
              rw [ep, el, setq_self] at hP
              clear hk2 ep el
              rcases hin2 with hlt | hge
              · go_wp2_with (fail)
                refine hP.mono ?_
                rintro e w3 ⟨rfl, hk3, o3⟩
                have hR3 := far_row hR2 o3 (Nat.le_refl _)
                have hb3 := upK hb2 (Nat.le_refl _) (Nat.le_refl _) o3
                have hsz3 := Nat.le_trans hsz2 o3.size
                have hev3 := hev.only o3 (fun h => by have := h.2.1; omega)
                have s1' := hev3.cell 1
                have s2' := hev3.cell 2
                simp only [List.getElem?_cons_zero, List.getElem?_cons_succ] at s1' s2'
                clear hP hR2 hb2 o3 hev s0 s1 s2
                go_wp2_with (fail)
                go_meet
                exact ⟨h, hk3, hR3, hb3, hsz3⟩
              · have hnl : ¬ (d2 < 0) := by omega
                go_wp2_with (fail)
                refine hP.mono ?_
                rintro e w3 ⟨rfl, hk3, o3⟩
                have hR3 := far_row hR2 o3 (Nat.le_refl _)
                have hb3 := upK hb2 (Nat.le_refl _) (Nat.le_refl _) o3
                have hsz3 := Nat.le_trans hsz2 o3.size
                have hev3 := hev.only o3 (fun h => by have := h.2.1; omega)
                have s1' := hev3.cell 1
                have s2' := hev3.cell 2
                simp only [List.getElem?_cons_zero, List.getElem?_cons_succ] at s1' s2'
                clear hP hR2 hb2 o3 hev s0 s1 s2
                go_wp2_with (fail)
                go_meet
                exact ⟨h, hk3, hR3, hb3, hsz3⟩
            · have hlo : 0 ≤ d2 := by omega
              have hhi : d2 < 1024 := by omega
              by_cases hm : d2 ∈ h.q d1
              · obtain rfl : hz = true := by rw [← hzH.out]; simpa [mem] using hm
                have ep : ListCode.putC (h.q d1) d2 = 9 := by unfold ListCode.putC; rw [if_neg hin2, if_pos hm]
                have el : ListCode.putL (h.q d1) d2 = h.q d1 := by unfold ListCode.putL; rw [ep]; rfl
                rw [ep, el, setq_self] at hP
                clear hk2 ep el hm hin2
                go_wp2_with (fail)
                refine hP.mono ?_
                rintro e w3 ⟨rfl, hk3, o3⟩
                have hR3 := far_row hR2 o3 (Nat.le_refl _)
                have hb3 := upK hb2 (Nat.le_refl _) (Nat.le_refl _) o3
                have hsz3 := Nat.le_trans hsz2 o3.size
                have hev3 := hev.only o3 (fun h => by have := h.2.1; omega)
                have s1' := hev3.cell 1
                have s2' := hev3.cell 2
                simp only [List.getElem?_cons_zero, List.getElem?_cons_succ] at s1' s2'
                clear hP hR2 hb2 o3 hev s0 s1 s2
                go_wp2_with (fail)
                go_meet
                exact ⟨h, hk3, hR3, hb3, hsz3⟩
              · obtain rfl : hz = false := by rw [← hzH.out]; simpa [mem] using hm
                have ep : ListCode.putC (h.q d1) d2 = 0 := by unfold ListCode.putC; rw [if_neg hin2, if_neg hm]
                have el : ListCode.putL (h.q d1) d2 = h.q d1 ++ [d2] := by unfold ListCode.putL; rw [if_pos ep]
                rw [ep, el] at hP
                clear hk2 ep el hm hin2
                by_cases hds : d1 = sd
                · subst hds
                  go_wp2_with (fail)
                  refine hP.mono ?_
                  rintro e w3 ⟨rfl, hk3, o3⟩
                  have hR3 := far_row hR2 o3 (Nat.le_refl _)
                  have hb3 := upK hb2 (Nat.le_refl _) (Nat.le_refl _) o3
                  have hsz3 := Nat.le_trans hsz2 o3.size
                  have hev3 := hev.only o3 (fun h => by have := h.2.1; omega)
                  have s1' := hev3.cell 1
                  have s2' := hev3.cell 2
                  have hl3 := gs.out.2.2
                  simp only [List.getElem?_cons_zero, List.getElem?_cons_succ] at s1' s2'
                  have hk3H := hid hk3
                  clear hP hR2 hb2 o3 hev s0 s1 s2 hk3
                  generalize hqq : h.q d1 = L at *
                  have hqH := hid hqq
                  clear hqq
                  go_wp2_with (first | ((with_reducible refine gate_builtin (b := .append) (xs := #[.tmp 78, .tmp 81]) rfl ?_); at_builtin; go_loud (refine irow_append (W := w3) hi rfl (.tmp 78) (.tmp 81) 28 3 .i64 8 rfl Try.underlying28 info3 (by decide) (.slice A7 L.length c7) L d2 rfl rfl hR3 hsz3 (by omega) ?_); intro v1 w4 hI4 hb4 hg4 hat4))
                  have hk4 := hk3H.out.far (Only.of_below hb4) (fun j _ h1 _ h2 => by omega)
                  have hb5 := hb3.trans (hb4.mono hs1)
                  have hsz5 : hi ≤ w4.heap.size := Nat.le_trans hsz3 hb4.size
                  go_meet
                  exact ⟨_, hk4, by rw [q_setq]; exact hI4, hb5, hsz5⟩
                · have hds' : (d1 == sd) = false := by simpa using hds
                  go_wp2_with (fail)
                  refine hP.mono ?_
                  rintro e w3 ⟨rfl, hk3, o3⟩
                  have hR3 := far_row hR2 o3 (Nat.le_refl _)
                  have hb3 := upK hb2 (Nat.le_refl _) (Nat.le_refl _) o3
                  have hsz3 := Nat.le_trans hsz2 o3.size
                  have hev3 := hev.only o3 (fun h => by have := h.2.1; omega)
                  have s1' := hev3.cell 1
                  have s2' := hev3.cell 2
                  simp only [List.getElem?_cons_zero, List.getElem?_cons_succ] at s1' s2'
                  have hdsH := hid hds
                  clear hP hR2 hb2 o3 hev s0 s1 s2 hds
                  go_wp2_with (fail)
                  go_meet
                  exact ⟨_, hk3, by rw [q_setq_ne _ hdsH.out]; exact hR3, hb3, hsz3⟩
          · by_cases hd1 : d0 = 4
            · as_aux_lemma =>
              subst hd1
              have hP := cdeq hk2 d1 wd2
              have hcc : (ListCode.dropC (h.q d1) d2 == 0) = hz := by
                rw [← hzH.out]
                unfold ListCode.dropC mem
                by_cases hm : d2 ∈ h.q d1 <;> simp [hm]
              generalize ListCode.dropC (h.q d1) d2 = cc at *
              clear hk2
              by_cases hds : d1 = sd
              · subst hds
                have hnd := gs.out.1
                go_wp2_with (fail)
                refine hP.mono ?_
                rintro e w3 ⟨rfl, hk3, o3⟩
                have hR3 := far_row hR2 o3 (Nat.le_refl _)
                have hb3 := upK hb2 (Nat.le_refl _) (Nat.le_refl _) o3
                have hsz3 := Nat.le_trans hsz2 o3.size
                have hev3 := hev.only o3 (fun h => by have := h.2.1; omega)
                have hl3 := gs.out.2.2
                have s1' := hev3.cell 1
                simp only [List.getElem?_cons_zero, List.getElem?_cons_succ] at s1'
                have hcells : ∀ W, Below w3.heap.size w3 W → W.cell? ⟨sb, 2, none⟩ = some (.int .i64 d2) := fun W hB => by rw [hB.cell (p := ⟨_, _, none⟩) hev3.lt]; exact hev3.cell 2
                have hcH := hid hcells
                have hk3H := hid hk3
                have hRH := hid hR3
                have hbH := hid hb3
                have hndH := hid hnd
                clear hP hR2 hb2 o3 hev s0 s1 s2 hk3 hev3 hcells hR3 hb3 hnd
                generalize hqq : h.q d1 = L at *
                have hqH := hid hqq
                clear hqq
                go_wp2_with (fail)
                clear hcc s1'
                go_loopg [13, 14] L.length (fun kq v9 v10 w' => ∃ k : Nat, kq + k = L.length ∧ v10 = .int .i64 (k : Int) ∧ IRow 3 .i64 w' w3.heap.size v9 ((L.take k).filter (fun x => !decide (x = d2))) ∧ Below w3.heap.size w3 w')
                case atStart => exact ⟨0, rfl, rfl, IRow.nil _ _ _ _, Below.refl _ _⟩
                case round =>
                  obtain ⟨k, hk, rfl, hI, hb2⟩ := hrel
                  have hcx := hcH.out _ hb2
                  obtain ⟨A9, c9, rfl, hc9⟩ := hI.form
                  cases gk with
                  | zero =>
                    have hin2 : ¬ ((k : Int) < (L.length : Int)) := by omega
                    rw [List.take_of_length_le (by omega), erase_filter hndH.out] at hI hc9 ⊢
                    have hk4 := hk3H.out.below hb2
                    have hb4 := hbH.out.trans (hb2.mono hbH.out.size)
                    have hsz4 : hi ≤ wr.heap.size := Nat.le_trans hsz3 hb2.size
                    have hIl := hI.lower hsz3
                    clear hI hb2 hcx
                    go_wp2_with (fail)
                    go_meet
                    exact ⟨_, hk4, by rw [q_setq]; exact hIl, hb4, hsz4⟩
                  | succ k2 =>
                    have hin2 : ((k : Int) < (L.length : Int)) := by omega
                    have hlt : k < L.length := by omega
                    obtain ⟨x, hx⟩ : ∃ x, L[k]? = some x := ⟨_, List.getElem?_eq_getElem hlt⟩
                    have hxd : L.getD k 0 = x := by simp [List.getD, hx]
                    obtain ⟨g, o, rfl, hgB, hgl, hc0, _, hnc, hcells⟩ := hRH.out.head (by omega)
                    have hcy := hcells k hlt
                    rw [hxd] at hcy
                    have hcy2 : wr.cell? ⟨g, o + k, none⟩ = some (.int .i64 x) := by rw [hb2.cell (p := ⟨_, _, none⟩) hgl]; exact hcy
                    have hsz2 := hb2.size
                    have hfl : ((L.take k).filter (fun x => !decide (x = d2))).length ≤ k := Nat.le_trans (List.length_filter_le ..) (List.length_take_le ..)
                    have hbd : ∀ n, Below w3.heap.size w3 (wr.drewN n) := fun n => ⟨hb2.os, hb2.tape, hb2.output, hb2.size, hb2.block⟩
                    have hbdH := hid hbd
                    clear hcells hcy hbd
                    by_cases hxe : x = d2
                    · have ht := hid (take_filter_no (hxe ▸ hx))
                      have hne : (x != d2) = false := by simp [hxe]
                      subst hxe
                      clear hx hxd
                      go_wp2_with (fail)
                      go_quiet (fail)
                      go_wp2_with (fail)
                      go_roundg k2
                      case measure => omega
                      case rel => exact ⟨k + 1, by omega, by go_num, by rw [ht.out]; exact hI.drewN _, hbdH.out _⟩
                    · have ht := hid (take_filter_yes hx hxe)
                      have hne : (x == d2) = false := by simp [hxe]
                      generalize (L.take k).filter (fun x => !decide (x = d2)) = M at *
                      clear hx hxd
                      go_wp2_with (fail)
                      go_quiet (fail)
                      go_wp2_with (first | ((with_reducible refine gate_builtin (b := .append) (xs := #[.tmp 112, .tmp 117]) rfl ?_); at_builtin; go_loud (refine irow_append w3.heap.size rfl (.tmp 112) (.tmp 117) 28 3 .i64 8 rfl Try.underlying28 info3 (by decide) (.slice A9 M.length c9) M x rfl rfl (hI.drewN _) hsz2 (by omega) ?_); intro v1 w4 hI3 hb3 hg3 hat3))
                      go_roundg k2
                      case measure => omega
                      case rel => exact ⟨k + 1, by omega, by go_num, by rw [ht.out]; exact hI3, (hbdH.out _).trans hb3⟩
              · have hds' : (d1 == sd) = false := by simpa using hds
                go_wp2_with (fail)
                refine hP.mono ?_
                rintro e w3 ⟨rfl, hk3, o3⟩
                have hR3 := far_row hR2 o3 (Nat.le_refl _)
                have hb3 := upK hb2 (Nat.le_refl _) (Nat.le_refl _) o3
                have hsz3 := Nat.le_trans hsz2 o3.size
                have hev3 := hev.only o3 (fun h => by have := h.2.1; omega)
                have s1' := hev3.cell 1
                have s2' := hev3.cell 2
                simp only [List.getElem?_cons_zero, List.getElem?_cons_succ] at s1' s2'
                have hdsH := hid hds
                clear hP hR2 hb2 o3 hev s0 s1 s2 hds
                go_wp2_with (fail)
                go_meet
                exact ⟨_, hk3, by rw [q_setq_ne _ hdsH.out]; exact hR3, hb3, hsz3⟩
            · go_wp2_with (fail)
              go_meet
              exact ⟨h, hk2, hR2, hb2, hsz2⟩
        case rest =>
          clear hk2 hR2 hb2 hsz2 gd gs hev s0 s1 s2 hzH hc7
          obtain ⟨h, hk, hR, hb, hsz⟩ := hcut
          obtain ⟨A7, c7, rfl, hc7⟩ := hR.form
          have hN := hR.nums
          have hRw := crow hk sd
          have hkH := hid hk
          have hl := hid (show (h.q sd).length ≤ 140737488355328 by have := (hk.good sd).2.2; omega)
          clear hk
          generalize hqq : h.q sd = L at *
          have hqH := hid hqq
          clear hqq
          go_wp2_with (fail)
          refine hRw.mono ?_
          rintro e w3 ⟨A3, c3, rfl, hN3, hB3, _⟩
          have hN4 := hN.below hB3
          go_wp2_with (fail)
          refine (SameInts.same_eq A3 A7 c3 c7 L w3 hN3 hN4 hl.out).mono ?_
          rintro e w4 ⟨rfl, m4, rfl⟩
          have hbw : Below wc.heap.size wc (w3.drewN m4) := ⟨hB3.os, hB3.tape, hB3.output, hB3.size, hB3.block⟩
          have hk4 := hkH.out.below hbw
          have hR4 := hR.below hbw
          have hb4 := hb.trans (hbw.mono hb.size)
          have hsz4 : hi ≤ (w3.drewN m4).heap.size := Nat.le_trans hsz hbw.size
          clear hN hN3 hN4 hB3 hbw hRw hR
          go_wp2_with (fail)
          go_roundg k1
          case measure => omega
          case rel => exact ⟨i + 1, h, by omega, by go_num, hk4, by rw [hqH.out]; exact hR4, hb4, hsz4⟩
end Go.Proofs.Ytmhnfcodppfaiac.HchanCode
