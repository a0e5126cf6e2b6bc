
/- The walk of GuardPlays. -/
import Derived.Test.YtabcodjalacdjabGuardSetup
import Derived.Test.YtabcodjalacdjabGuardSteps
namespace Go.Proofs.Ytabcodjalacdjab.GuardPlays
open Go Go.RowKit Go.Proofs.Ytabcodjalacdjab.Obj Go.Proofs.Ytabcodjalacdjab.Row Go.Proofs.YtabcodjalacdjabW.PrintWords Go.Proofs.YtabcodjalacdjabW.PrintMore
open Go.Proofs.Ytabcodjalacdjab.TicketCode (Sm TAt)
open Go.Proofs.Ytabcodjalacdjab.GuardCode
open Go.Proofs.Ytabcodjalacdjab.RefGuard
open Go.Proofs.Ytabcodjalacdjab.RefCells (RC zs zs_len)
set_option linter.unusedVariables false
set_option linter.unusedSimpArgs false
set_option maxRecDepth 100000
set_option maxHeartbeats 16000000 in
theorem plays_walk (ad : Option Addr) (len cap : Nat) (w : World) (ha : Obj.Steps w ad len cap) :
    Calls Try.prog 4 #[.slice ad len cap] w fun e w' => e = .returned (.bool true) ∧ Below w.heap.size w w' := by
  obtain ⟨K, hK⟩ : ∃ K, K = min len 400 := ⟨_, rfl⟩
  have hcap : (len : Int) ≤ (cap : Int) := by
    rcases ha with ⟨_, h0, h1⟩ | ⟨_, _, h, _⟩ <;> omega
  go_enter Try.func4, Try.ntmps4
  go_wp2_with (fail)
  go_loopg [3, 4] K (fun kq v3 v4 w' => ∃ i tot : Nat, kq + i = K ∧ v4 = .int .i64 (i : Int) ∧ v3 = .int .i64 (tot : Int) ∧ tot ≤ i * 17592186044416 ∧ (∀ j b o (A : Option Addr) (l c : Nat), j < i → ad = some ⟨b, o, none⟩ → w.cell? ⟨b, o + j * 3 + 2, none⟩ = some (.slice A l c) → l ≤ tot) ∧ w' = w)
  case atStart => exact ⟨0, 0, rfl, rfl, rfl, by omega, (fun j _ _ _ _ _ hj => absurd hj (by omega)), rfl⟩
  case round =>
    obtain ⟨i, tot, hi, rfl, rfl, htot, hall, hwr⟩ := hrel
    obtain rfl := hwr.symm
    clear hwr
    cases gk with
    | zero =>
      by_cases hbig : 300 < len ∨ 2000 < tot
      · have hcnd : (¬ ((i : Int) < (len : Int))) ∨ ((i : Int) < (len : Int) ∧ ¬ ((i : Int) < 400)) := by omega
        have hAl := alive_at w
        clear hall ha
        rcases Nat.lt_or_ge 300 len with h3 | h3
        · have hg1 : (len : Int) > 300 := by omega
          clear hbig hK htot
          rcases hcnd with h1 | ⟨h1, h2⟩
          all_goals
            go_wp2_with (fail)
            refine hAl.mono ?_
            rintro e w2 ⟨rfl, hb2⟩
            go_wp2_with (fail)
            go_ret
            exact ⟨rfl, hb2⟩
        · have hg1 : ¬ ((len : Int) > 300) := by omega
          have hg2 : (tot : Int) > 2000 := by omega
          clear hbig hK htot
          rcases hcnd with h1 | ⟨h1, h2⟩
          all_goals
            go_wp2_with (fail)
            refine hAl.mono ?_
            rintro e w2 ⟨rfl, hb2⟩
            go_wp2_with (fail)
            go_ret
            exact ⟨rfl, hb2⟩
      · have hl3 : len ≤ 300 := by omega
        have ht2 : tot ≤ 2000 := by omega
        have hil : i = len := by omega
        subst hil
        have hg0 : ¬ ((i : Int) < (i : Int)) := by omega
        have hg1 : ¬ ((i : Int) > 300) := by omega
        have hg2 : ¬ ((tot : Int) > 2000) := by omega
        have hN := nothing_at w
        have hall2 := hid (show ∀ j b o (A : Option Addr) (l c : Nat), j < i → ad = some ⟨b, o, none⟩ → w.cell? ⟨b, o + j * 3 + 2, none⟩ = some (.slice A l c) → l ≤ 2000 from fun j b o A l c hj e hc => Nat.le_trans (hall j b o A l c hj e hc) ht2)
        clear hbig hK htot hall ht2
        go_wp2_with (fail)
        refine hN.mono ?_
        rintro e w1 ⟨rfl, hb1⟩
        have hMade := made_at w1
        obtain ⟨Z, hZ⟩ : ∃ Z, Z = w1.heap.size + 3 := ⟨_, rfl⟩
        clear hN
        go_wp2_with (fail)
        refine hMade.mono ?_
        rintro e w2 ⟨rfl, hT, hb2, hz2⟩
        have hSet := setup_at (Z := w1.heap.size + 3) hT hz2 (by omega)
        have hmk1 := CellCode.made_u64 20 (by decide) w2
        have hmk2 := made_p Try.underlying28 pinfo1
        have hmk3 := made_p Try.underlying54 pinfo2
        rw [show ((20 : Nat) : Int) = 20 from rfl] at hmk1
        have hbw : Below w.heap.size w w2 := hb1.trans (hb2.mono hb1.size)
        have hz1 := hb1.size
        clear hMade hT hb2 hb1
        go_wp2_with (fail)
        clear hmk1 hmk2 hmk3
        obtain ⟨W0, hW0⟩ : ∃ W0, W0 = ((((w2.alloc (.cells (CellCode.u64s [0, 0, 0, 0, 0, 0, 0, 0, 0, 0, 0, 0, 0, 0, 0, 0, 0, 0, 0, 0]).toArray 48)).alloc (.cells #[.slice (some ⟨w1.heap.size + 3, 0, none⟩) 20 20, .int .u64 0] 50)).alloc (.cells #[.pointer (some ⟨w1.heap.size + 3 + 1, 0, none⟩), .int .i64 4, .int .i64 6] 53)).alloc (.cells nils.toArray 29)).alloc (.cells nils.toArray 55) := ⟨_, rfl⟩
        rw [← hW0]
        have hP : Pair W0 (w1.heap.size + 2) (w1.heap.size + 1) w1.heap.size (w1.heap.size + 3 + 1 + 1) (w1.heap.size + 3 + 1) (w1.heap.size + 3) [] [] [] L0 0 ∧ Blk W0 (w1.heap.size + 3 + 1 + 1 + 1) 29 nils ∧ Blk W0 (w1.heap.size + 3 + 1 + 1 + 1 + 1) 55 nils ∧ Below (w1.heap.size + 3) w2 W0 ∧ W0.heap.size = w1.heap.size + 3 + 5 := by rw [hW0]; exact hSet
        obtain ⟨hP, hGb, hRb, hbS, hzS⟩ := hP
        have hb0 : Below w.heap.size w W0 := hbw.trans (hbS.mono (by omega))
        clear hW0 hSet hbS hzS hbw hz2
        obtain ⟨rb, hrb⟩ : ∃ rb, rb = w1.heap.size + 3 + 1 + 1 + 1 + 1 := ⟨_, rfl⟩
        obtain ⟨gb, hgb⟩ : ∃ gb, gb = w1.heap.size + 3 + 1 + 1 + 1 := ⟨_, rfl⟩
        rw [← hrb] at hRb ⊢
        rw [← hgb] at hGb ⊢
        obtain ⟨y, hy⟩ : ∃ y, y = w1.heap.size + 3 + 1 + 1 := ⟨_, rfl⟩
        rw [← hy] at hP ⊢
        obtain ⟨m, hm⟩ : ∃ m, m = w1.heap.size + 3 + 1 := ⟨_, rfl⟩
        rw [← hm] at hP ⊢
        obtain ⟨lo, hlo⟩ : ∃ lo, lo = w1.heap.size + 3 := ⟨_, rfl⟩
        rw [← hlo] at hP
        obtain ⟨x, hx⟩ : ∃ x, x = w1.heap.size + 2 := ⟨_, rfl⟩
        rw [← hx] at hP ⊢
        obtain ⟨c, hc⟩ : ∃ c, c = w1.heap.size + 1 := ⟨_, rfl⟩
        rw [← hc] at hP ⊢
        obtain ⟨lb, hlb⟩ : ∃ lb, lb = w1.heap.size := ⟨_, rfl⟩
        rw [← hlb] at hP
        have hbase : w.heap.size ≤ c ∧ w.heap.size ≤ lb ∧ w.heap.size ≤ m ∧ w.heap.size ≤ gb ∧ w.heap.size ≤ rb := by omega
        clear hrb hgb hy hm hlo hx hc hlb hz1 hZ
        go_loopg [11] 3 (fun kq v11 w' => ∃ (j : Nat) (ps rs : List Nat), kq + j = 3 ∧ v11 = .int .i64 (j : Int) ∧ ps.length = j ∧ rs.length = j ∧ Pair w' x c lb y m lo ps rs (List.replicate j s0) L0 0 ∧ Blk w' gb 29 (slots ps) ∧ Blk w' rb 55 (slots rs) ∧ Below w.heap.size w w' ∧ (∀ p ∈ ps, w.heap.size ≤ p) ∧ (∀ p ∈ rs, w.heap.size ≤ p))
        case atStart => exact ⟨0, [], [], rfl, rfl, rfl, rfl, hP, hGb, hRb, hb0, (fun p hp => by cases hp), (fun p hp => by cases hp)⟩
        case round =>
          clear hP hGb hRb hb0
          obtain ⟨j, ps, rs, hj, rfl, hps, hrs, hP, hGb, hRb, hb0, hps2, hrs2⟩ := hrel
          cases gk with
          | zero =>
            obtain rfl : j = 3 := by omega
            have hin3 : ¬ (((3 : Nat) : Int) < 3) := by omega
            clear hj
            go_wp2_with (fail)
            have hK0 : Kept w wr x c lb y m lo gb rb ps rs (List.replicate 3 s0) L0 0 := ⟨hP, hGb, hRb, hb0, ⟨hps, rfl, hrs⟩, ⟨hps2, hrs2⟩, hbase⟩
            clear hP hGb hRb hb0 hps hps2 hrs hrs2 hbase
            go_loopg [14] i (fun kq v14 w' => ∃ (q : Nat) (ps : List Nat) (ss : List Gs) (L : List Nat) (N : Nat), kq + q = i ∧ v14 = .int .i64 (q : Int) ∧ Kept w w' x c lb y m lo gb rb ps rs ss L N ∧ N ≤ q)
            case atStart => exact ⟨0, ps, List.replicate 3 s0, L0, 0, rfl, rfl, hK0, Nat.le_refl _⟩
            case round =>
              clear hK0
              clear ps
              obtain ⟨q, ps, ss, L, N, hq, rfl, hK, hNq⟩ := hrel
              cases gk with
              | zero =>
                have hqi : ¬ ((q : Int) < (i : Int)) := by omega
                have hAl := alive_at wr
                have hb0 := hK.bel
                clear hK ha hall2
                go_wp2_with (fail)
                refine hAl.mono ?_
                rintro e w4 ⟨rfl, hb4⟩
                have hb5 := hb0.trans (hb4.mono hb0.size)
                go_wp2_with (fail)
                go_ret
                exact ⟨rfl, hb5⟩
              | succ k3 =>
                have hqi : ((q : Int) < (i : Int)) := by omega
                obtain ⟨b, o, rfl, hxb, d, who, A, l, cc, zz, e0, e1, e2, e3, e4, e5⟩ := ha.at q (by omega)
                have hl2 : l ≤ 2000 := hall2.out q b o A l cc (by omega) rfl e2
                obtain ⟨hRl, hRn, hRnil, hlc, hcm⟩ := e4.nums
                clear e4 e5
                generalize List.take l zz = R at *
                subst hRl
                have hRdA := hid (show ∀ W, Below w.heap.size w W → ReadsInt W .i64 A R.length R ∧ Nums W .i64 A R from fun W hb => by
                  have hN := hRn.below hb
                  exact ⟨nums_reads hN (by have : maxLen = 9223372036854775807 := rfl
                                           omega), hN⟩)
                clear hRn hRnil hlc
                rw [← hK.bel.cell (p := ⟨_, _, none⟩) hxb] at e0 e1 e2
                have hKH := hid hK
                have hNqH := hid hNq
                clear ha hall2 hcm hK hNq zz
                go_upto_block 2 with (fail)
                obtain ⟨wi, hwi3, hwie⟩ := who_of who
                rw [hwie]
                clear hwie e0 e1 e2 e3
                obtain ⟨W1, hW1⟩ : ∃ W1, W1 = wr.alloc (.cells #[.int .i64 d, .int .i64 who, .slice A R.length cc] 45) := ⟨_, rfl⟩
                rw [← hW1]
                have hbA : Below wr.heap.size wr W1 := by rw [hW1]; exact (Below.refl _ _).alloc (Nat.le_refl _) _
                have hbox : Blk W1 wr.heap.size 45 [.int .i64 d, .int .i64 who, .slice A R.length cc] := by rw [hW1]; exact Blk.new wr _ _
                have hK1 := hKH.out.below hbA
                have hNq := hNqH.out
                have hwsz : w.heap.size ≤ wr.heap.size := hKH.out.bel.size
                clear hW1 hbA hKH hNqH
                obtain ⟨p, hp, c1, f1⟩ := hK1.p_at hwi3
                obtain ⟨r, hr, c2⟩ := hK1.r_at hwi3
                have hwi : (wi : Int) < 3 := by omega
                have hK1H := hid hK1
                clear hK1
                go_quiet (fail)
                obtain ⟨W2, hW2⟩ : ∃ W2, W2 = W1.drewN nq := ⟨_, rfl⟩
                rw [← hW2]
                have hK2 : Kept w W2 x c lb y m lo gb rb ps rs ss L N := by rw [hW2]; exact hK1H.out.below (bl0 W1 nq)
                have hbox2 : Blk W2 wr.heap.size 45 [.int .i64 d, .int .i64 who, .slice A R.length cc] := by rw [hW2]; exact hbox
                have d0 : W2.cell? ⟨wr.heap.size, 0, none⟩ = some (.int .i64 d) := hbox2.cell 0
                clear hW2 hK1H hbox c1 f1 c2
                go_upto_block 6 with (fail)
                go_cut [19] (fun v19 wx => v19 = .bool true ∧ ∃ (ps : List Nat) (ss : List Gs) (L : List Nat) (N : Nat), Kept w wx x c lb y m lo gb rb ps rs ss L N ∧ N ≤ q + 1)
                case first =>
                  have hN8 : N < 100000000 := by omega
                  have hss3 := hK2.len.2.1
                  by_cases hd0 : d = 0
                  · subst hd0
                    have hS := pair_pstep hK2.pair hp hN8
                    have hS2 := hid (fun w3 hM hR => pair_rstep (w := w3) (x := x) (c := c) (y := y) (m := m) (ps := ps) hK2.pair.ok hK2.pair.lb hK2.pair.p.sm hM hR hr)
                    have hk1 := stepA_k (ss.getD wi default) L
                    have hK2H := hid hK2
                    clear hK2 hbox2
                    generalize stepA (ss.getD wi default) L = D at *
                    go_wp2_with (fail)
                    refine hS.mono ?_
                    rintro e w3 ⟨rfl, hM3, hR3, o3⟩
                    have hS3 := hS2.out w3 hM3 hR3
                    clear hS hM3
                    go_wp2_with (fail)
                    refine hS3.mono ?_
                    rintro e w4 ⟨rfl, hP4, o4⟩
                    have hK4 := hK2H.out.both o3 hR3 hP4 o4 (by rw [List.length_set]; exact hss3)
                    clear hS3 hR3 hP4 o3 o4
                    go_wp2_with (fail)
                    go_meet
                    exact ⟨rfl, ps, _, _, _, hK4, by omega⟩
                  · by_cases hd1 : d = 1
                    · subst hd1
                      have d2 : W2.cell? ⟨wr.heap.size, 2, none⟩ = some (.slice A R.length cc) := hbox2.cell 2
                      have hRdD : ReadsInt W2.drew .i64 A R.length R := (hRdA.out W2 hK2.bel).1
                      have hsz : W2.heap.size ≤ W2.drew.heap.size := Nat.le_refl _
                      have st1 := hid (show ∀ w3 v1, w3.ownsRow W2.heap.size 3 1 v1 R.length (nums .i64 R) → W2.drew.grownBy w3 none → ∃ A1 c1, v1 = .slice A1 R.length c1 ∧ SlW w3 A1 c1 R ∧ Kept w w3 x c lb y m lo gb rb ps rs ss L N ∧ Blk w3 wr.heap.size 45 [.int .i64 1, .int .i64 who, .slice A R.length cc] ∧ w3.cell? ⟨wr.heap.size, 2, none⟩ = some (.slice A R.length cc) from fun w3 v1 ho hg => by
                        have hb : Below W2.heap.size W2 w3 := by
                          have := grown_below hg
                          exact ⟨this.os, this.tape, this.output, this.size, this.block⟩
                        obtain ⟨A1, c1, rfl⟩ := own_form ho
                        have hB := hbox2.same (hb.block _ hbox2.lt)
                        exact ⟨A1, c1, rfl, (slw_of ho (by omega)).1, hK2.below hb, hB, hB.cell 2⟩)
                      have st2 := hid (show ∀ w3 A1 c1, SlW w3 A1 c1 R → Kept w w3 x c lb y m lo gb rb ps rs ss L N → Calls Try.prog 9 #[.pointer (some ⟨p, 0, none⟩), .slice A1 R.length c1] w3 fun e w' => e = .returned (.int .i64 (wantE (ss.getD wi default) R)) ∧ Many w' x c lb ps (ss.set wi (wantS (ss.getD wi default) R)) L N ∧ RMany w' y m lo rs ss L N ∧ Only (MS ps c lb) w3 w' from fun w3 A1 c1 hS hK3 => pair_pwant hK3.pair hp hS)
                      have st3 := hid (show ∀ w3 w4, Kept w w3 x c lb y m lo gb rb ps rs ss L N → Many w4 x c lb ps (ss.set wi (wantS (ss.getD wi default) R)) L N → RMany w4 y m lo rs ss L N → Only (MS ps c lb) w3 w4 → Blk w4 wr.heap.size 45 [.int .i64 1, .int .i64 who, .slice A R.length cc] → Calls Try.prog 17 #[.pointer (some ⟨r, 0, none⟩), .slice A R.length cc] w4 fun e w' => e = .returned (.int .i64 (wantE (ss.getD wi default) R)) ∧ Kept w w' x c lb y m lo gb rb ps rs (ss.set wi (wantS (ss.getD wi default) R)) L N ∧ w'.cell? ⟨wr.heap.size, 2, none⟩ = some (.slice A R.length cc) from fun w3 w4 hK3 hM4 hR4 o4 hB4 => by
                        obtain ⟨a1, a2⟩ := hRdA.out w4 (hK3.prog o4).2.2
                        refine (pair_rwant (cap := cc) hK3.pair.ok hK3.pair.lb hM4 hR4 hr a1 a2 (by omega)).mono ?_
                        rintro e w5 ⟨rfl, hP5, o5⟩
                        exact ⟨rfl, hK3.both o4 hR4 hP5 o5 (by rw [List.length_set]; exact hss3), (blk_ref hR4 hB4 o5 (by decide) (by decide)).cell 2⟩)
                      have st4 := hid (show ∀ w3 w4, Kept w w3 x c lb y m lo gb rb ps rs ss L N → Only (MS ps c lb) w3 w4 → Blk w3 wr.heap.size 45 [.int .i64 1, .int .i64 who, .slice A R.length cc] → Blk w4 wr.heap.size 45 [.int .i64 1, .int .i64 who, .slice A R.length cc] ∧ w4.cell? ⟨wr.heap.size, 2, none⟩ = some (.slice A R.length cc) from fun w3 w4 hK3 o4 hB => ⟨blk_prog hK3.pair.p hB o4 (by decide) (by decide) (by decide), (blk_prog hK3.pair.p hB o4 (by decide) (by decide) (by decide)).cell 2⟩)
                      have hl9 : R.length ≤ 1000000 := by omega
                      clear hK2 hbox2 hRdA
                      generalize wantE (ss.getD wi default) R = E at *
                      generalize ss.set wi (wantS (ss.getD wi default) R) = ss2 at *
                      go_wp2_with (fail)
                      go_region_held3 (fun W' : World => W'.cell? ⟨wr.heap.size, 2, none⟩ = some (.slice A R.length cc)) (first | assumption | go_keep) (first
                        | (refine rows_step W2.heap.size (by simp [Region.wanted]) (.const (Value.slice none 0 0)) (.tmp 143) 34 3 .i64 8 (by rfl) Try.underlying34 info3 (by decide) (.slice none 0 0) [] R A R.length cc (by rfl) (by rfl) (own_nil _ _ _ _) hRdD hsz (by simp; omega) ?_; intro v1 w3 ho hg hat; obtain ⟨A1, c1, rfl, hS3, hK3, hB3, k3⟩ := st1.out w3 v1 ho hg; clear ho hg hat)
                        | (go_at_call 9; refine (st2.out w3 A1 c1 hS3 hK3).mono ?_; rintro e w4 ⟨rfl, hM4, hR4, o4⟩; obtain ⟨hB4, k4⟩ := st4.out w3 w4 hK3 o4 hB3)
                        | (go_at_call 17; refine (st3.out w3 w4 hK3 hM4 hR4 o4 hB4).mono ?_; rintro e w5 ⟨rfl, hK5, k5⟩))
                      clear d0 d2 k3 k4 k5
                      go_wp2_with (fail)
                      go_meet
                      exact ⟨rfl, ps, ss2, L, N, hK5, by omega⟩
                    · by_cases hd2 : d = 2
                      · subst hd2
                        have hS := pair_pgive hK2.pair hp hN8
                        have hS2 := hid (fun w3 hM hR => pair_rgive (w := w3) (x := x) (c := c) (y := y) (m := m) (ps := ps) hK2.pair.ok hK2.pair.lb hK2.pair.p.sm hM hR hr)
                        have hk1 := giveA_k (ss.getD wi default) L
                        have hK2H := hid hK2
                        clear hK2 hbox2
                        generalize giveA (ss.getD wi default) L = D at *
                        go_wp2_with (fail)
                        refine hS.mono ?_
                        rintro e w3 ⟨rfl, hM3, hR3, o3⟩
                        have hS3 := hS2.out w3 hM3 hR3
                        clear hS hM3
                        go_wp2_with (fail)
                        refine hS3.mono ?_
                        rintro e w4 ⟨rfl, hP4, o4⟩
                        have hK4 := hK2H.out.both o3 hR3 hP4 o4 (by rw [List.length_set]; exact hss3)
                        clear hS3 hR3 hP4 o3 o4
                        go_wp2_with (fail)
                        go_meet
                        exact ⟨rfl, ps, _, _, _, hK4, by omega⟩
                      · by_cases hd3 : d = 3
                        · subst hd3
                          obtain ⟨r', hr', c2⟩ := hK2.r_at hwi3
                          obtain rfl : r' = r := by rw [hr] at hr'; exact (Option.some.inj hr').symm
                          obtain ⟨p', hp', c1, f1⟩ := hK2.p_at hwi3
                          obtain rfl : p' = p := by rw [hp] at hp'; exact (Option.some.inj hp').symm
                          obtain ⟨RA, rcap, hO, _, _⟩ := (hK2.pair.r.g wi r' hr).obj
                          have g2 : W2.cell? ⟨r', 2, none⟩ = some (.int .i64 ((ss.getD wi default).n : Int)) := hO.cell 2
                          have g4 : W2.cell? ⟨r', 4, none⟩ = some (.bool (ss.getD wi default).drawn) := hO.cell 4
                          have hC := pair_copy hK2.pair hp
                          have hK2H := hid hK2
                          have hKc := hid (show ∀ w3, Below W2.heap.size W2 w3 → w3.cell? ⟨gb, wi, none⟩ = some (.pointer (some ⟨p', 0, none⟩)) ∧ w3.frozen? ⟨gb, wi, none⟩ = false from fun w3 hb => by
                            obtain ⟨p2, hp2, c3, f3⟩ := (hK2.below hb).p_at hwi3
                            rw [hp] at hp2
                            cases hp2
                            exact ⟨c3, f3⟩)
                          clear hK2 hbox2 hO
                          generalize ss.getD wi default = sw at *
                          by_cases hn : sw.n = 0
                          · rw [hn] at g2
                            rw [show ((0 : Nat) : Int) = 0 from rfl] at g2
                            cases hdr : sw.drawn with
                            | false =>
                              rw [hdr] at g4
                              clear hn hdr
                              go_wp2_with (fail)
                              refine hC.mono ?_
                              rintro e w3 ⟨rfl, hP3, hb3⟩
                              obtain ⟨c3, f3⟩ := hKc.out w3 hb3
                              have hK4 := hK2H.out.copy hP3 hb3 hK2H.out.bel.size
                              clear hC hP3 c1 f1 c2 g2 g4
                              go_wp2_with (fail)
                              go_meet
                              exact ⟨rfl, _, ss, L, N, hK4, by omega⟩
                            | true =>
                              rw [hdr] at g4
                              clear hn hdr hC
                              go_wp2_with (fail)
                              go_meet
                              exact ⟨rfl, ps, ss, L, N, hK2H.out, by omega⟩
                          · have hn1 : ((sw.n : Int) == 0) = false := by rw [beq_eq_false_iff_ne]; omega
                            clear hn hC
                            go_wp2_with (fail)
                            go_meet
                            exact ⟨rfl, ps, ss, L, N, hK2H.out, by omega⟩
                        · have hK2H := hid hK2
                          clear hK2 hbox2
                          go_wp2_with (fail)
                          go_meet
                          exact ⟨rfl, ps, ss, L, N, hK2H.out, by omega⟩
                case rest =>
                  clear hK2 hbox2 d0 hp hNq
                  clear ps ss L N
                  obtain ⟨rfl, ps, ss, L, N, hK, hNq⟩ := hcut
                  obtain ⟨p, hp, c1, f1⟩ := hK.p_at hwi3
                  obtain ⟨mb, mcap, hMO, _⟩ := hK.pair.r.t.cells.obj
                  have m1 : wc.cell? ⟨m, 1, none⟩ = some (.int .u64 (N : Int)) := hMO.cell 1
                  have hCnt : ∀ n, Calls Try.prog 20 #[.pointer (some ⟨c, 0, none⟩)] (wc.drewN n) fun e w' => e = .returned (.int .u64 (N : Int)) ∧ ∃ k, w' = wc.drewN k := fun n => (CellCode.count_at ((hK.pair.p.t.drewN n).cells)).mono fun e w' ⟨a, b⟩ => ⟨a, n, b⟩
                  have hKH := hid hK
                  clear hK hMO f1
                  go_wp2_with (fail)
                  go_quiet (exact hCnt _)
                  obtain ⟨W3, hW3⟩ : ∃ W3, W3 = wc.drewN nq := ⟨_, rfl⟩
                  rw [← hW3]
                  have hK3 : Kept w W3 x c lb y m lo gb rb ps rs ss L N := by rw [hW3]; exact hKH.out.below (bl0 wc nq)
                  clear hW3 hKH hCnt m1 c1 hp
                  go_wp2_with (fail)
                  go_loopg [28] 3 (fun kq v28 w' => ∃ (z : Nat), kq + z = 3 ∧ v28 = .int .i64 (z : Int) ∧ Kept w w' x c lb y m lo gb rb ps rs ss L N)
                  case atStart => exact ⟨0, rfl, rfl, hK3⟩
                  case round =>
                    clear hK3
                    obtain ⟨z, hz, rfl, hK⟩ := hrel
                    cases gk with
                    | zero =>
                      have hz3 : ¬ ((z : Int) < 3) := by omega
                      have hKH := hid hK
                      clear hK
                      go_wp2_with (fail)
                      go_roundg k3
                      case measure => omega
                      case rel => exact ⟨q + 1, ps, ss, L, N, by omega, by go_num, hKH.out, by omega⟩
                    | succ k4 =>
                      have hz3 : z < 3 := by omega
                      have hz3i : (z : Int) < 3 := by omega
                      obtain ⟨p, hp, c1, f1⟩ := hK.p_at hz3
                      obtain ⟨r, hr, c2⟩ := hK.r_at hz3
                      have hSm := hid (show ∀ W, Below wr.heap.size wr W → Calls Try.prog 21 #[.pointer (some ⟨p, 0, none⟩), .pointer (some ⟨r, 0, none⟩)] W fun e w' => e = .returned (.bool true) ∧ Kept w w' x c lb y m lo gb rb ps rs ss L N ∧ w'.cell? ⟨gb, z, none⟩ = some (.pointer (some ⟨p, 0, none⟩)) ∧ w'.cell? ⟨rb, z, none⟩ = some (.pointer (some ⟨r, 0, none⟩)) from fun W hb => by
                        have hK2 := hK.below hb
                        refine (hK2.same hp hr).mono ?_
                        rintro e w' ⟨rfl, hb2⟩
                        have hK3 := hK2.below hb2
                        obtain ⟨p2, hp2, d1, _⟩ := hK3.p_at hz3
                        obtain ⟨r2, hr2, d2⟩ := hK3.r_at hz3
                        rw [hp] at hp2
                        rw [hr] at hr2
                        cases hp2
                        cases hr2
                        exact ⟨rfl, hK3, d1, d2⟩)
                      have hbd : Below wr.heap.size wr wr.drew := bl1 wr
                      clear hK hp hr f1
                      go_wp2_with (fail)
                      go_region_held3 (fun W' : World => W'.cell? ⟨gb, z, none⟩ = some (.pointer (some ⟨p, 0, none⟩)) ∧ W'.cell? ⟨rb, z, none⟩ = some (.pointer (some ⟨r, 0, none⟩))) (first | (refine ⟨?_, ?_⟩ <;> assumption) | go_keep) (first
                        | (go_at_call 21; refine (hSm.out _ hbd).mono ?_; rintro e w5 ⟨rfl, hK5, d1, d2⟩))
                      clear d1 d2 c1 c2
                      go_wp2_with (fail)
                      go_roundg k4
                      case measure => omega
                      case rel => exact ⟨z + 1, by omega, by go_num, hK5⟩
          | succ k2 =>
            have hj3 : j < 3 := by omega
            have hin3 : ((j : Int) < 3) := by omega
            have hj0 : (0 : Int) ≤ (j : Int) := by omega
            have hNew := GuardCode.new_at x wr
            have hRd := hid (fun w3 (hG : GAt w3 wr.heap.size x s0) (hb : Below wr.heap.size wr w3) w6 (h6 : w6 = _) => round2 (hP.below hb) hG (fun hm => by have := many_lt hP.p hm; omega) (hGb.same (hb.block _ hGb.lt)) (hRb.same (hb.block _ hRb.lt)) hps hrs hj3 w6 h6)
            have hgl := hGb.lt
            have hrl := hRb.lt
            have hbne : rb ≠ gb := CellCode.blk_ne hRb hGb (by decide)
            have hsn : ∀ qs : List Nat, qs.length = j → (slots qs)[j]? = some (.pointer none) := fun qs hq => by
              subst hq
              match qs, hj3 with
              | [], _ => rfl
              | [_], _ => rfl
              | [_, _], _ => rfl
            have hcl := hid (show ∀ w3, Below wr.heap.size wr w3 → w3.cell? ⟨gb, j, none⟩ = some (.pointer none) ∧ w3.frozen? ⟨gb, j, none⟩ = false ∧ w3.frozen? ⟨rb, j, none⟩ = false ∧ ∀ v, (w3.setCell ⟨gb, j, none⟩ v).cell? ⟨rb, j, none⟩ = some (.pointer none) from fun w3 hb => by
              have B1 := hGb.same (hb.block _ hgl)
              have B2 := hRb.same (hb.block _ hrl)
              refine ⟨by rw [B1.cell j]; exact hsn ps hps, B1.frozen j, B2.frozen j, fun v => ?_⟩
              rw [(B2.set_other ⟨gb, j, none⟩ v hbne).cell j]; exact hsn rs hrs)
            have hgb3 : wr.heap.size ≤ wr.heap.size := Nat.le_refl _
            have hsz0 := hid hb0.size
            clear hP hGb hRb hsn
            go_wp2_with (fail)
            refine hNew.mono ?_
            rintro e w3 ⟨rfl, hG, hb3, hz3⟩
            obtain ⟨c1, f1, f2, c2⟩ := hcl.out w3 hb3
            have c3 := c2 (.pointer (some ⟨wr.heap.size, 0, none⟩))
            have hR6 := hRd.out w3 hG hb3 _ rfl
            have hsz6 := hid hz3
            rw [hz3] at hR6
            have hR6H := hid hR6
            have hb30 := hb0.trans (hb3.mono hb0.size)
            clear hNew hG c2 hR6 hb0
            go_wp2_with (fail)
            obtain ⟨hP6, hG6, hR6', o6⟩ := hR6H.out
            have hb6 := o6.below hb30 hb30.size (fun k _ hk => by have := hbase; rcases hk with rfl | rfl <;> omega)
            have hpast : rb < (w3.setCell ⟨gb, j, none⟩ (.pointer (some ⟨wr.heap.size, 0, none⟩))).heap.size := by rw [size_set]; have := hsz6.out; omega
            rw [World.setCell_alloc_past _ _ _ _ hpast] at hP6 hG6 hR6' hb6
            go_roundg k2
            case measure => omega
            case rel =>
              refine ⟨j + 1, ps ++ [wr.heap.size], rs ++ [wr.heap.size + 1], by omega, by go_num, by rw [List.length_append, hps]; rfl, by rw [List.length_append, hrs]; rfl, hP6, hG6, hR6', hb6, fun p hp => ?_, fun p hp => ?_⟩
              · rcases List.mem_append.mp hp with h | h
                · exact hps2 p h
                · rw [List.mem_singleton.mp h]; exact hsz0.out
              · rcases List.mem_append.mp hp with h | h
                · exact hrs2 p h
                · rw [List.mem_singleton.mp h]; exact Nat.le_succ_of_le hsz0.out
    | succ k1 =>
      have hil : i < len := by omega
      have hin : ((i : Int) < (len : Int)) := by omega
      have hin4 : ((i : Int) < 400) := by omega
      obtain ⟨b, o, rfl, hb, d, who, A, l, c, zz, k0, k1', k2, k3, k4, k5⟩ := ha.at i hil
      have hl : l ≤ 17592186044416 := by have : reachBytes = 140737488351232 := by decide
                                         omega
      have hq : IntKind.i64.wrap ((tot : Int) + (l : Int)) = ((tot + l : Nat) : Int) := by rw [IntWalk.i64_in _ (by omega)]; omega
      have hnext := hid (show tot + l ≤ (i + 1) * 17592186044416 ∧ (∀ j b' o' (A : Option Addr) (l' c : Nat), j < i + 1 → (some ⟨b, o, none⟩ : Option Addr) = some ⟨b', o', none⟩ → w.cell? ⟨b', o' + j * 3 + 2, none⟩ = some (.slice A l' c) → l' ≤ tot + l) from by
        refine ⟨by omega, fun j b' o' A' l' c' hj e hc => ?_⟩
        rcases Nat.lt_or_ge j i with h1 | h1
        · have := hall j b' o' A' l' c' h1 e hc
          omega
        · obtain rfl : j = i := by omega
          cases e
          rw [k2] at hc
          cases hc
          omega)
      clear hall htot ha k3 k4 k5 k0 k1' hl hK
      go_wp2_with (fail)
      go_roundg k1
      case measure => omega
      case rel => exact ⟨i + 1, tot + l, by omega, by go_num, rfl, hnext.out.1, hnext.out.2, rfl⟩
end Go.Proofs.Ytabcodjalacdjab.GuardPlays
