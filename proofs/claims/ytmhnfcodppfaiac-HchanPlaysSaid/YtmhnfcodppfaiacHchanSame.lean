
/- A channel is the document's. -/
import Derived.Test.YtmhnfcodppfaiacHchanDoes
namespace Go.Proofs.Ytmhnfcodppfaiac.HchanCode
open Go Go.RowKit Go.Proofs.Ytmhnfcodppfaiac.Obj Go.Proofs.Ytmhnfcodppfaiac.ListPure Go.Proofs.YtmhnfcodppfaiacW.PrintWords Go.Proofs.YtmhnfcodppfaiacW.PrintMore
set_option linter.unusedVariables false
set_option maxRecDepth 100000
section
variable {w w' : World} {c q rr s t base lo hi : Nat} {h : Hc}
theorem clen_q (k : HcAt w c lo hi h) : Calls Try.prog 37 #[.pointer (some ⟨c, 0, none⟩)] w fun e w' => e = .returned (.int .i64 (h.V.length : Int)) ∧ w' = w := by
  obtain ⟨r, p0, b0, p1, b1, k, hb⟩ := k
  have hR := ring__at k
  have hP := RingCode.len_at k.ring
  clear k
  go_enter Try.func37, Try.ntmps37
  go_wp2_with (fail)
  refine hR.mono ?_
  rintro e w1 ⟨rfl, hw⟩
  obtain rfl : w = w1 := hw.symm
  go_wp2_with (fail)
  refine hP.mono ?_
  rintro e w2 ⟨rfl, hw⟩
  obtain rfl : w = w2 := hw.symm
  go_wp2_with (fail)
  go_ret
  exact ⟨rfl, rfl⟩
theorem ccap_q (k : HcAt w c lo hi h) : Calls Try.prog 25 #[.pointer (some ⟨c, 0, none⟩)] w fun e w' => e = .returned (.int .i64 (h.most : Int)) ∧ w' = w := by
  obtain ⟨r, p0, b0, p1, b1, k, hb⟩ := k
  have hR := ring__at k
  have hP := RingCode.cap_at k.ring
  clear k
  go_enter Try.func25, Try.ntmps25
  go_wp2_with (fail)
  refine hR.mono ?_
  rintro e w1 ⟨rfl, hw⟩
  obtain rfl : w = w1 := hw.symm
  go_wp2_with (fail)
  refine hP.mono ?_
  rintro e w2 ⟨rfl, hw⟩
  obtain rfl : w = w2 := hw.symm
  go_wp2_with (fail)
  go_ret
  exact ⟨rfl, rfl⟩
theorem rhas_iff (L : List Int) : decide (0 < L.length) = rHas L := by cases L <;> simp [rHas]
set_option maxHeartbeats 8000000 in
theorem same_at (k : HcAt w c lo hi h) (r : R22 w q base h) (z : Sz h) (x : Int) (hwf : (Lit.int .i64 x).wf = true) : Calls Try.prog 23 #[.pointer (some ⟨c, 0, none⟩), .pointer (some ⟨q, 0, none⟩), .int .i64 x] w fun e w' => e = .returned (.bool true) ∧ HcAt w' c lo hi h ∧ R22 w' q base h ∧ Below w.heap.size w w' := by
  go_enter Try.func23, Try.ntmps23
  go_wp2_with (fail)
  go_loopg [7] 2 (fun kq v7 w' => ∃ i : Nat, kq + i = 2 ∧ v7 = .int .i64 (i : Int) ∧ HcAt w' c lo hi h ∧ R22 w' q base h ∧ Below w.heap.size w w')
  case atStart => exact ⟨0, rfl, rfl, k, r, Below.refl _ _⟩
  case round =>
    clear k r
    obtain ⟨i, hi', rfl, k, r, hb⟩ := hrel
    cases gk with
    | zero =>
      have hin : ¬ ((i : Int) < 2) := by omega
      have hH := chead k
      have rH := hid r
      have zl := hid (show h.V.length ≤ 140737488355328 by have := z.fit; have := z.most8; omega)
      clear k r
      go_wp2_with (fail)
      refine hH.mono ?_
      rintro e w2 ⟨rfl, k2, o2⟩
      have r2 := rH.out.none o2
      have hb2 : Below w.heap.size w w2 := o2.below hb hb.size (fun _ _ h => h.elim)
      clear hH rH hb o2
      obtain ⟨rr, s, t, r2⟩ := r2
      have q0 : w2.cell? ⟨q, 0, none⟩ = some (.pointer (some ⟨rr, 0, none⟩)) := r2.blk.cell 0
      have q3 : w2.cell? ⟨q, 3, none⟩ = some (.bool h.shut) := r2.blk.cell 3
      have hql := r2.blk.lt
      obtain ⟨v, hk, hown⟩ := r2.ring
      obtain ⟨A, cc, rfl⟩ := own_form hown
      have f0 : w2.cell? ⟨rr, 0, none⟩ = some (.int .i64 h.most) := hk.cell 0
      have f1 : w2.cell? ⟨rr, 1, none⟩ = some (.slice A h.V.length cc) := hk.cell 1
      have hrl := hk.lt
      have hN : Nums w2 .i64 A h.V := own_nums hown
      have hL := clen_q k2.drew
      have hC := ccap_q k2.drew
      have hS := cclosed k2.drew
      have hB := cbuffer k2.drew
      have k2H := hid k2
      have r2H := hid r2
      have hNd : Nums w2.drew .i64 A h.V := hN.drew
      clear hk hown k2 r2
      generalize h.V = V at *
      generalize h.most = mo at *
      generalize h.shut = sh at *
      go_upto_if 84 with (fail)
      go_cut [15] (fun v15 wx => v15 = .int .i64 (rHead V) ∧ wx = w2)
      case first =>
        cases V with
        | nil =>
          go_wp2_with (fail)
          go_meet
          exact ⟨rfl, rfl⟩
        | cons y r' =>
          obtain ⟨g, o, rfl, _, hc⟩ := hN.at 0 (by simp)
          simp only [List.getD_cons_zero, Nat.add_zero] at hc
          have hr0 : (0 : Int) < (r'.length : Int) + 1 := by omega
          have hy0 : 0 < (y :: r').length := by simp
          replace f1 : w2.cell? ⟨rr, 1, none⟩ = some (.slice (some ⟨g, o, none⟩) (r'.length + 1) cc) := f1
          go_wp2_with (fail)
          go_meet
          exact ⟨rfl, rfl⟩
      case rest =>
        obtain ⟨rfl, rfl⟩ := hcut
        have hrh := rhas_iff V
        generalize rHas V = rb at *
        generalize rHead V = rx at *
        have d0 : wc.drew.cell? ⟨q, 0, none⟩ = some (.pointer (some ⟨rr, 0, none⟩)) := q0
        have d3 : wc.drew.cell? ⟨q, 3, none⟩ = some (.bool sh) := q3
        have e0 : wc.drew.cell? ⟨rr, 0, none⟩ = some (.int .i64 mo) := f0
        have e1 : wc.drew.cell? ⟨rr, 1, none⟩ = some (.slice A V.length cc) := f1
        have hLH := hid hL
        have hCH := hid hC
        have hSH := hid hS
        have hBH := hid hB
        clear q0 q3 f0 f1 hN hL hC hS hB
        go_wp2_with (fail)
        go_region_held3 (fun w' : World => w'.cell? ⟨q, 0, none⟩ = some (.pointer (some ⟨rr, 0, none⟩)) ∧ w'.cell? ⟨q, 3, none⟩ = some (.bool sh) ∧ w'.cell? ⟨rr, 0, none⟩ = some (.int .i64 mo) ∧ w'.cell? ⟨rr, 1, none⟩ = some (.slice A V.length cc)) (first | (refine ⟨?_, ?_, ?_, ?_⟩ <;> assumption) | go_keep) (first
          | (go_at_call 37; refine hLH.out.mono ?_; rintro e w3 ⟨rfl, hw⟩; obtain rfl : wc.drew = w3 := hw.symm)
          | (go_at_call 25; refine hCH.out.mono ?_; rintro e w3 ⟨rfl, hw⟩; obtain rfl : wc.drew = w3 := hw.symm)
          | (go_at_call 13; refine hSH.out.mono ?_; rintro e w3 ⟨rfl, hw⟩; obtain rfl : wc.drew = w3 := hw.symm)
          | (go_at_call 16; refine hBH.out.mono ?_; rintro e w4 ⟨A4, c4, rfl, hN4, hB4, hA4⟩; have hN5 := hNd.below hB4; have g0 : w4.cell? ⟨q, 0, none⟩ = some (.pointer (some ⟨rr, 0, none⟩)) := (by rw [← d0]; exact cell_same (hB4.block q hql)); have g3 : w4.cell? ⟨q, 3, none⟩ = some (.bool sh) := (by rw [← d3]; exact cell_same (hB4.block q hql)); have i0 : w4.cell? ⟨rr, 0, none⟩ = some (.int .i64 mo) := (by rw [← e0]; exact cell_same (hB4.block rr hrl)); have i1 : w4.cell? ⟨rr, 1, none⟩ = some (.slice A V.length cc) := (by rw [← e1]; exact cell_same (hB4.block rr hrl)))
          | (go_at_call 15; refine (Same64.same_eq A4 A c4 cc V w4 hN4 hN5 zl.out).mono ?_; rintro e w5 ⟨rfl, n5, rfl⟩; have j0 : (w4.drewN n5).cell? ⟨q, 0, none⟩ = some (.pointer (some ⟨rr, 0, none⟩)) := g0; have j3 : (w4.drewN n5).cell? ⟨q, 3, none⟩ = some (.bool sh) := g3; have m0 : (w4.drewN n5).cell? ⟨rr, 0, none⟩ = some (.int .i64 mo) := i0; have m1 : (w4.drewN n5).cell? ⟨rr, 1, none⟩ = some (.slice A V.length cc) := i1))
        have hbw : Below wc.heap.size wc (w4.drewN n5) := ⟨hB4.os, hB4.tape, hB4.output, hB4.size, hB4.block⟩
        have k6 := k2H.out.below hbw
        have r6 : R22 (w4.drewN n5) q base h := ⟨rr, s, t, r2H.out.keep (Only.none_of_below hbw) (fun _ h => h.elim)⟩
        have hb6 := hb2.trans (hbw.mono hb2.size)
        clear j0 j3 m0 m1 g0 g3 i0 i1 d0 d3 e0 e1
        go_wp2_with (fail)
        go_ret
        exact ⟨rfl, k6, r6, hb6⟩
    | succ k1 =>
      have hin : ((i : Int) < 2) := by omega
      obtain ⟨sd, hsd⟩ : ∃ sd : Bool, ((i : Int) == 1) = sd := ⟨_, rfl⟩
      obtain ⟨rr, s, t, r⟩ := r
      have hQ := q_at r sd
      have hq2 := r.queue sd
      have zl := z.lq sd
      have hF := cfront k sd
      have rH := hid (show R22 wr q base h from ⟨rr, s, t, r⟩)
      have kH := hid k
      have hQ2 : ∀ w2, RRaw w2 q rr s t base h → Calls Try.prog 45 #[.pointer (some ⟨q, 0, none⟩), .bool sd] w2 fun e w' => e = .returned (.pointer (some ⟨if sd then s else t, 0, none⟩)) ∧ w' = w2 := fun w2 hw => q_at hw sd
      have hA2 : ∀ w2, RRaw w2 q rr s t base h → Calls Try.prog 49 #[.pointer (some ⟨if sd then s else t, 0, none⟩), .int .i64 x] w2 fun e w' => e = .returned (.int .i64 (RefList.at_ (h.q sd) x)) ∧ w' = w2 := fun w2 hw => RefList.at_at (hw.queue sd) x zl
      have hz : decide ((0 : Int) ≤ RefList.at_ (h.q sd) x) = mem (h.q sd) x := decide_eq_decide.2 RefList.at_nn
      have hHs : ∀ w2, HcAt w2 c lo hi h → Calls Try.prog 8 #[.pointer (some ⟨c, 0, none⟩), .bool sd, .int .i64 x] w2 fun e w' => e = .returned (.bool (mem (h.q sd) x)) ∧ Below w2.heap.size w2 w' := fun w2 hw => chas hw sd hwf
      have hRw : ∀ w2, HcAt w2 c lo hi h → Calls Try.prog 12 #[.pointer (some ⟨c, 0, none⟩), .bool sd] w2 fun e w' => ∃ A cc, e = .returned (.slice A (h.q sd).length cc) ∧ Nums w' .i64 A (h.q sd) ∧ Below w2.heap.size w2 w' ∧ ∀ x, A = some x → w2.heap.size ≤ x.block ∧ x.block < w'.heap.size := fun w2 hw => crow hw sd
      have hQ2H := hid hQ2
      have hA2H := hid hA2
      have hHsH := hid hHs
      have hRwH := hid hRw
      have rawH := hid r
      clear k r hQ2 hA2 hHs hRw
      generalize RefList.at_ (h.q sd) x = za at *
      generalize mem (h.q sd) x = mb at *
      generalize (if sd then s else t) = qq at *
      generalize h.q sd = L at *
      obtain ⟨v, hk, hown⟩ := hq2
      obtain ⟨A, cc, rfl⟩ := own_form hown
      have f0 : wr.cell? ⟨qq, 0, none⟩ = some (.slice A L.length cc) := hk.cell 0
      have hN : Nums wr .i64 A L := own_nums hown
      have hl := hid (show L.length ≤ 140737488355328 by omega)
      clear hk hown
      go_wp2_with (fail)
      refine hQ.mono ?_
      rintro e w2 ⟨rfl, hw⟩
      obtain rfl : wr = w2 := hw.symm
      go_wp2_with (fail)
      refine hF.mono ?_
      rintro e w2 ⟨rfl, hB2⟩
      have hN2 := hN.below hB2
      have k2 := kH.out.below hB2
      have r2 := rawH.out.keep (Only.none_of_below hB2) (fun _ h => h.elim)
      have hb2 := hb.trans (hB2.mono hb.size)
      have hHs2 := hHsH.out _ k2
      have k2H := hid k2
      have r2H := hid r2
      clear hQ hF hN hB2 f0 hb k2 r2 kH rH rawH
      go_upto_if 36 with (fail)
      go_cut [12] (fun v12 wx => v12 = .int .i64 (rHead L) ∧ wx = w2)
      case first =>
        cases L with
        | nil =>
          go_wp2_with (fail)
          go_meet
          exact ⟨rfl, rfl⟩
        | cons y r' =>
          obtain ⟨g, o, rfl, _, hc⟩ := hN2.at 0 (by simp)
          simp only [List.getD_cons_zero, Nat.add_zero] at hc
          have hr0 : (0 : Int) < (r'.length : Int) + 1 := by omega
          have hy0 : 0 < (y :: r').length := by simp
          go_wp2_with (fail)
          go_meet
          exact ⟨rfl, rfl⟩
      case rest =>
        obtain ⟨rfl, rfl⟩ := hcut
        have hrh := rhas_iff L
        generalize rHas L = rb at *
        generalize rHead L = rx at *
        go_wp2_with (fail)
        refine hHs2.mono ?_
        rintro e w3 ⟨rfl, hB3⟩
        have k3 := k2H.out.below hB3
        have r3 := r2H.out.keep (Only.none_of_below hB3) (fun _ h => h.elim)
        have hN3 := hN2.below hB3
        have hb3 := hb2.trans (hB3.mono hb2.size)
        have hQ3 := hQ2H.out _ r3
        have hA3 := hA2H.out _ r3
        have hRw3 := hRwH.out _ k3
        have k3H := hid k3
        have r3H := hid r3
        clear hHs2 hN2 hb2 hB3 k3 r3 k2H r2H
        go_wp2_with (fail)
        refine hQ3.mono ?_
        rintro e w4 ⟨rfl, hw⟩
        obtain rfl : w3 = w4 := hw.symm
        go_wp2_with (fail)
        refine hA3.mono ?_
        rintro e w4 ⟨rfl, hw⟩
        obtain rfl : w3 = w4 := hw.symm
        clear hQ3 hA3
        go_wp2_with (fail)
        refine hRw3.mono ?_
        rintro e w5 ⟨A5, c5, rfl, hN5, hB5, _⟩
        have hN6 := hN3.below hB5
        clear hRw3 hN3
        go_wp2_with (fail)
        refine (SameInts.same_eq A5 A c5 cc L w5 hN5 hN6 hl.out).mono ?_
        rintro e w6 ⟨rfl, n6, rfl⟩
        have hbw : Below w3.heap.size w3 (w5.drewN n6) := ⟨hB5.os, hB5.tape, hB5.output, hB5.size, hB5.block⟩
        have k6 := k3H.out.below hbw
        have r6 : R22 (w5.drewN n6) q base h := ⟨rr, s, t, r3H.out.keep (Only.none_of_below hbw) (fun _ h => h.elim)⟩
        have hb6 := hb3.trans (hbw.mono hb3.size)
        clear hN5 hN6 hB5 hbw hb3
        go_wp2_with (fail)
        go_roundg k1
        case measure => omega
        case rel => exact ⟨i + 1, by omega, by go_num, k6, r6, hb6⟩
end
end Go.Proofs.Ytmhnfcodppfaiac.HchanCode
