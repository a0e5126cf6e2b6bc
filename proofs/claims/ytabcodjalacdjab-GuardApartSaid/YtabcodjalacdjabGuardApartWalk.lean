
/- The law GuardApart: the walk. -/
import Derived.Test.YtabcodjalacdjabGuardRS
namespace Go.Proofs.Ytabcodjalacdjab.GuardCode
open Go Go.RowKit Go.Proofs.Ytabcodjalacdjab.Obj Go.Proofs.Ytabcodjalacdjab.Row Go.Proofs.Ytabcodjalacdjab.CellCode Go.Proofs.Ytabcodjalacdjab.TicketCode Go.Proofs.Ytabcodjalacdjab.GuardLocks Go.Proofs.YtabcodjalacdjabW.PrintWords Go.Proofs.YtabcodjalacdjabW.PrintMore
set_option linter.unusedVariables false
set_option maxRecDepth 100000
section
variable {w w' : World} {g x c lb : Nat} {s : Gs} {L : List Nat} {N : Nat} {A : Option Addr} {r r' D G : List Int} {ps : List Nat} {ss : List Gs}
theorem nil_ne (W : World) : (binOp .neq 34 (.slice none 0 0) (.slice none 0 0)).run Try.prog W = Result.ok (.bool false) W := by
  kernel_rfl
set_option maxHeartbeats 8000000 in
theorem apart_walk (a : Option Addr) (len cap : Nat) (zs : List Int) (a' : Option Addr) (len' cap' : Nat) (zs' : List Int) (w : World) (ha : Obj.Ints .u8 w a len cap zs) (ho : Obj.Ints .u8 w a' len' cap' zs') :
    Calls Try.prog 3 #[.slice a len cap, .slice a' len' cap'] w fun e w' => e = .returned (.bool true) ∧ Below w.heap.size w w' := by
  by_cases h8 : 8 < len
  · have q1 : (8 : Int) < (len : Int) := by omega
    go_enter Try.func3, Try.ntmps3
    go_wp2_with (fail)
    refine (alive_at _).mono ?_
    rintro e w2 ⟨rfl, hb2⟩
    go_wp2_with (fail)
    go_ret
    exact ⟨rfl, hb2⟩
  by_cases h300 : 300 < len'
  · have q1 : ¬ (8 : Int) < (len : Int) := by omega
    have q2 : (300 : Int) < (len' : Int) := by omega
    go_enter Try.func3, Try.ntmps3
    go_wp2_with (fail)
    refine (alive_at _).mono ?_
    rintro e w2 ⟨rfl, hb2⟩
    go_wp2_with (fail)
    go_ret
    exact ⟨rfl, hb2⟩
  by_cases h0 : len = 0
  · subst h0
    have q1 : ¬ (8 : Int) < ((0 : Nat) : Int) := by omega
    have q2 : ¬ (300 : Int) < (len' : Int) := by omega
    go_enter Try.func3, Try.ntmps3
    go_wp2_with (fail)
    refine (alive_at _).mono ?_
    rintro e w2 ⟨rfl, hb2⟩
    go_wp2_with (fail)
    go_ret
    exact ⟨rfl, hb2⟩
  have q1 : ¬ (8 : Int) < (len : Int) := by omega
  have q2 : ¬ (300 : Int) < (len' : Int) := by omega
  have q3 : ((len : Int) == 0) = false := by rw [beq_eq_false_iff_ne]; omega
  have hMade := made_at w
  obtain ⟨B, hBw⟩ : ∃ B, B = w.heap.size := ⟨_, rfl⟩
  rw [← hBw] at hMade ⊢
  have hBH := hid hBw
  clear hBw
  go_enter Try.func3, Try.ntmps3
  go_wp2_with (fail)
  refine hMade.mono ?_
  rintro e w1 ⟨rfl, hT, hb1, hz1⟩
  have hz1H := hid hz1
  clear hMade hz1
  go_wp2_with (fail)
  go_loopg [7, 8] len (fun kq v7 v8 w' => ∃ (i : Nat) (ps : List Nat), kq + i = len ∧ v8 = .int .i64 (i : Int) ∧ ps.length = i ∧ w'.ownsRow B 29 1 v7 ps.length (ptrs ps) ∧ Many w' (B + 2) (B + 1) B ps (fresh zs i) (List.replicate 20 0) 0 ∧ Below B w w' ∧ ∀ p, p ∈ ps → B ≤ p)
  case atStart => exact ⟨0, [], by omega, rfl, rfl, own_nil _ _ _ _, Many.nil hT sm0, hb1, fun p hp => (by cases hp)⟩
  case round =>
    clear hT hb1
    obtain ⟨i, ps, hi, rfl, hpl, hown, hM, hb, hlo⟩ := hrel
    have hloH := hid hlo
    clear hlo
    obtain ⟨A, c0, rfl⟩ := own_form hown
    have hplH := hid hpl
    clear hpl
    cases gk with
    | zero =>
      have hin : ¬ ((i : Int) < (len : Int)) := by omega
      have hpl2 : ps.length = len := by rw [hplH.out]; omega
      have hl8 : len ≤ 8 := by omega
      have hmk := made_bools len hl8
      have hPS := psl_of_own hown
      have hss : Many wr (B + 2) (B + 1) B ps (fresh zs len) (List.replicate 20 0) 0 := by
        rw [show i = len by omega] at hM; exact hM
      have hb2 := (Below.refl _ wr).alloc (Nat.le_refl _) (.cells (bools (List.replicate len false)).toArray 4)
      have hDn := Blk.new wr 4 (bools (List.replicate len false))
      have hM1 := hss.below hb2
      have hP1 := hPS.below hb2
      have hb3 := hb.trans (hb2.mono (by rw [hBH.out]; exact hb.size))
      obtain ⟨D, hDD⟩ : ∃ D, D = wr.heap.size := ⟨_, rfl⟩
      obtain ⟨wd, hwd⟩ : ∃ wd, wd = wr.alloc (.cells (bools (List.replicate len false)).toArray 4) := ⟨_, rfl⟩
      have hmk0 := hmk wr
      rw [← hwd, ← hDD] at hmk0
      rw [← hwd] at hDn hM1 hP1 hb3
      rw [← hDD] at hDn
      have hDH := hid hDD
      have hwdH := hid hwd
      have hpl2H := hid hpl2
      have hBr : B ≤ wr.heap.size := by rw [hBH.out]; exact hb.size
      have hRS := rs_begin (len' := len') hM1 hP1 hDn hb3 (by omega) hloH.out (by rw [hDD]; exact hBr) (by rw [hwd]; exact Nat.le_trans hBr (by simp))
      have w1' : IntKind.i64.wrap (40 * (len : Int)) = 40 * (len : Int) := IntWalk.i64_in _ (by omega)
      have hKb : 40 * len * len ≤ 2560 := by
        have h1 := Nat.mul_le_mul hl8 hl8
        rw [Nat.mul_assoc]; omega
      obtain ⟨K, hK⟩ : ∃ K, K = 40 * len * len := ⟨_, rfl⟩
      have w2' : IntKind.i64.wrap (40 * (len : Int) * (len : Int)) = (K : Int) := by
        have e : 40 * (len : Int) * (len : Int) = (K : Int) := by rw [hK]; simp
        rw [e]; exact IntWalk.i64_in _ (by omega)
      obtain ⟨K7, hK7⟩ : ∃ K7, K7 = K * 7 := ⟨_, rfl⟩
      have w3' : IntKind.i64.wrap ((K : Int) * 7) = (K7 : Int) := by
        rw [IntWalk.i64_in _ (by omega)]; omega
      obtain ⟨T, hT⟩ : ∃ T, T = len' + K7 := ⟨_, rfl⟩
      have w4' : IntKind.i64.wrap ((len' : Int) + (K7 : Int)) = (T : Int) := by
        rw [IntWalk.i64_in _ (by omega)]; omega
      have hTb : T ≤ 20000 := by omega
      have hTe : T = len' + 280 * len * len := by
        rw [hT, hK7, hK, Nat.mul_comm _ 7, ← Nat.mul_assoc, ← Nat.mul_assoc]
      have hTH := hid hTe
      clear hmk hPS hss hb2 hM hown hb hDD hwd hpl2 hM1 hP1 hDn hb3 hK hT hK7 hKb hTe hBr
      go_wp2_with (fail)
      go_loopg [12, 13] T (fun kq v12 v13 w' => ∃ (n stp : Nat) (ss : List Gs) (L : List Nat) (N : Nat) (dn : List Bool) (Q : Nat → List Nat), kq + n = T ∧ v13 = .int .i64 (n : Int) ∧ v12 = .int .i64 (stp : Int) ∧ RS w w' B D len len' zs A ps n stp ss L N dn Q)
      case atStart => exact ⟨0, 0, _, _, _, _, _, by omega, rfl, rfl, hRS⟩
      case round =>
        clear hRS
        obtain ⟨n, stp, ss, L, N, dn, Q, hn, rfl, rfl, hRS⟩ := hrel
        cases gk with
        | zero =>
          have hin2 : ¬ ((n : Int) < (T : Int)) := by omega
          have hnT : n = T := by omega
          obtain ⟨hdone, hstp⟩ := hRS.done (by omega) (hnT.trans hTH.out)
          have hdoneH := hid hdone
          have hstp2 : (0 : Int) < (stp : Int) := by omega
          have hDnb := hRS.dnb
          have hdnl := hRS.dnl
          have hbw := hRS.below
          have hbsw := hRS.bs
          clear hRS hn hnT hdone
          go_wp2_with (fail)
          go_loopg [17] len (fun kq v17 w' => ∃ j : Nat, kq + j = len ∧ v17 = .int .i64 (j : Int) ∧ Blk w' D 4 (bools dn) ∧ Below B w w')
          case atStart => exact ⟨0, by omega, rfl, hDnb, hbw⟩
          case round =>
            clear hDnb hbw
            obtain ⟨j, hj, rfl, hDnb, hbw⟩ := hrel
            cases gk with
            | zero =>
              have hin3 : ¬ ((j : Int) < (len : Int)) := by omega
              go_wp2_with (fail)
              refine (alive_at _).mono ?_
              rintro e w9 ⟨rfl, hb9⟩
              go_wp2_with (fail)
              go_ret
              exact ⟨rfl, hbw.trans (hb9.mono (by rw [hBH.out]; exact hbw.size))⟩
            | succ k3 =>
              have hin3 : ((j : Int) < (len : Int)) := by omega
              have hcj := bl_get hDnb (i := j) (by rw [hdnl]; omega)
              rw [hdoneH.out j (by omega)] at hcj
              go_wp2_with (fail)
              go_roundg k3
              case measure => omega
              case rel => exact ⟨j + 1, by omega, by first | rfl | (congr 1; omega), hDnb, hbw⟩
        | succ k2 =>
          have hin2 : ((n : Int) < (T : Int)) := by omega
          have hmod : n % len < len := Nat.mod_lt _ (by omega)
          have hRSH := hid hRS
          have hbw := hRS.below
          clear hRS
          go_upto_if 91 with (fail)
          go_cut [14] (fun v14 wx => ∃ i : Nat, v14 = .int .i64 (i : Int) ∧ i < len ∧ (len' ≤ n → i = n % len) ∧ wx = wr)
          case first =>
            by_cases hnl : n < len'
            · have hnl2 : ((n : Int) < (len' : Int)) := by omega
              obtain ⟨ab, ao, rfl, hab, hac, h256⟩ := ints_get ho (i := n) hnl
              rw [← hbw.cell (p := ⟨ab, ao + n, none⟩) (by rw [hBH.out]; exact hab)] at hac
              obtain ⟨q, hq⟩ : ∃ q, q = (zs'.getD n 0).toNat := ⟨_, rfl⟩
              rw [← hq] at hac h256
              clear hq
              have hqm : IntKind.i64.wrap ((q : Int)) = (q : Int) := IntWalk.i64_in _ (by omega)
              have hqt : ((q : Int)).tmod (len : Int) = ((q % len : Nat) : Int) := by rw [Int.tmod_eq_emod_of_nonneg (by omega)]; simp
              go_wp2_with (fail)
              go_meet
              exact ⟨q % len, by first | rfl | (congr 1; omega), Nat.mod_lt _ (by omega), fun h => by omega, rfl⟩
            · have hnl2 : ¬ ((n : Int) < (len' : Int)) := by omega
              go_wp2_with (fail)
              go_meet
              exact ⟨n % len, by first | rfl | (congr 1; omega), hmod, fun _ => rfl, rfl⟩
          case rest =>
            clear hmod hbw
            obtain ⟨i, rfl, hil, hin, hwx⟩ := hcut
            subst hwx
            have hRS := hRSH.out
            clear hRSH
            have hil2 : ((i : Int) < (len : Int)) := by omega
            have hci := bl_get hRS.dnb (i := i) (by rw [hRS.dnl]; exact hil)
            cases hd : df dn i with
            | true =>
              rw [show dn.getD i false = true from hd] at hci
              have hsk := hid (hRS.skip (by omega) (by omega) hd hin)
              clear hRS hd
              go_wp2_with (fail)
              go_roundg k2
              case measure => omega
              case rel => exact ⟨n + 1, stp, ss, L, N, dn, Q, by omega, by first | rfl | (congr 1; omega), rfl, hsk.out⟩
            | false =>
              rw [show dn.getD i false = false from hd] at hci
              obtain ⟨p, hp⟩ : ∃ p, ps[i]? = some p := ⟨_, List.getElem?_eq_getElem (by rw [hpl2H.out]; exact hil)⟩
              obtain ⟨gb, go', rfl, hgc⟩ := hRS.psl.cell i p hp
              have hilp : ((i : Int) < (ps.length : Int)) := by rw [hpl2H.out]; exact hil2
              have hstpb : stp ≤ 20000 := by have := hRS.le; omega
              have hAll := all_at (hRS.many.g i p hp)
              have hRSH := hid hRS
              have hdH := hid hd
              have hpH := hid hp
              clear hRS hd hp
              by_cases hall : (sf ss i).n = (sf ss i).row.length
              · rw [show decide ((ss.getD i default).n = (ss.getD i default).row.length) = true from decide_eq_true hall] at hAll
                have hallH := hid hall
                clear hall
                go_wp2_with (fail)
                refine hAll.mono ?_
                rintro e w5 ⟨rfl, m5, rfl⟩
                have hRS5 := hRSH.out.below' (bl_drewN (n := m5) (Below.refl _ wc))
                have hGive := many_give hRS5.many hpH.out (by have := hRS5.few; omega)
                have hgv := hid (fun w6 => hRS5.give (w' := w6) (by omega) (by omega) hil hdH.out hin hallH.out)
                have herr := hRS5.err hil hdH.out hallH.out
                rw [show ss.getD i default = sf ss i from rfl] at hGive
                obtain ⟨r, hr⟩ : ∃ r, r = giveA (sf ss i) L := ⟨_, rfl⟩
                rw [← hr] at hGive hgv herr
                clear hr
                have hgc5 : (wc.drewN m5).cell? ⟨gb, go' + i, none⟩ = some (.pointer (some ⟨p, 0, none⟩)) := hgc
                have hRS5H := hid hRS5
                clear hRS5 hAll
                go_wp2_with (fail)
                refine hGive.mono ?_
                rintro e w6 ⟨rfl, hM6, o6⟩
                have hB6 := bl_ms hRS5H.out.dnb hRS5H.out.many o6
                have hcd := bl_get hB6 (i := i) (by rw [hRS5H.out.dnl]; exact hil)
                have hfd := hB6.frozen i
                obtain ⟨Q', hRS6⟩ := hgv.out w6 hM6 o6
                have hz : ((r.left : Int) == 0) = decide (r.left = 0) := by rw [Bool.eq_iff_iff, beq_iff_eq, decide_eq_true_iff]; omega
                obtain ⟨bz, hbz⟩ : ∃ bz, bz = decide (r.left = 0) := ⟨_, rfl⟩
                rw [← hbz] at hRS6 hz
                obtain ⟨lf, hlf⟩ : ∃ lf, lf = r.left := ⟨_, rfl⟩
                rw [← hlf] at hz ⊢
                clear hbz hlf
                have hAp := fun W hb => apart_at (cap := c0) (hRS6.below' (w' := W) hb).many (hRS6.below' hb).psl (by rw [hpl2H.out]; exact hl8) (hRS6.below' hb).apart
                have hApH := hid hAp
                have hRS6H := hid hRS6
                clear hRS6 hGive hM6 o6 hB6 hAp hgv
                rcases herr with he | ⟨he, hwz⟩
                · rw [he]
                  clear he
                  go_wp2_with (fail)
                  refine (hApH.out _ (Below.refl _ _)).mono ?_
                  rintro e w8 ⟨rfl, hb8⟩
                  have hRS8 := hid ((hRS6H.out.below' (Below.refl _ _)).below' hb8)
                  go_wp2_with (fail)
                  go_roundg k2
                  case measure => omega
                  case rel => exact ⟨n + 1, stp + 1, _, _, _, _, Q', by omega, by first | rfl | (congr 1; omega), by first | rfl | (congr 1; omega), hRS8.out⟩
                · rw [he]
                  clear he
                  obtain ⟨ab, ao, rfl, hab, hac, h256⟩ := ints_get ha (i := i) hil
                  have hbw6 := hRS6H.out.below
                  rw [← hbw6.cell (p := ⟨ab, ao + i, none⟩) (by rw [hBH.out]; exact hab)] at hac
                  obtain ⟨q, hq⟩ : ∃ q, q = (zs.getD i 0).toNat := ⟨_, rfl⟩
                  rw [← hq] at hac h256
                  have hwz2 : locksL q 6 = [] := by rw [hq]; exact hwz
                  have hLk := locks_none q h256 hwz2
                  clear hq hwz hwz2 hbw6
                  go_wp2_with (fail)
                  refine (hLk _).mono ?_
                  rintro e w7 ⟨rfl, hb7⟩
                  have hnn := nil_ne w7
                  go_wp2_with (fail)
                  refine (hApH.out _ (hb7)).mono ?_
                  rintro e w8 ⟨rfl, hb8⟩
                  have hRS8 := hid ((hRS6H.out.below' (hb7)).below' hb8)
                  go_wp2_with (fail)
                  go_roundg k2
                  case measure => omega
                  case rel => exact ⟨n + 1, stp + 1, _, _, _, _, Q', by omega, by first | rfl | (congr 1; omega), by first | rfl | (congr 1; omega), hRS8.out⟩
              · rw [show decide ((ss.getD i default).n = (ss.getD i default).row.length) = false from decide_eq_false hall] at hAll
                have hallH := hid hall
                clear hall
                go_wp2_with (fail)
                refine hAll.mono ?_
                rintro e w5 ⟨rfl, m5, rfl⟩
                have hRS5 := hRSH.out.below' (bl_drewN (n := m5) (Below.refl _ wc))
                have hStep := many_step hRS5.many hpH.out (by have := hRS5.few; omega)
                have hgc5 : (wc.drewN m5).cell? ⟨gb, go' + i, none⟩ = some (.pointer (some ⟨p, 0, none⟩)) := hgc
                have hRS5H := hid hRS5
                clear hRS5 hAll
                go_wp2_with (fail)
                refine hStep.mono ?_
                rintro e w6 ⟨rfl, hM6, o6⟩
                obtain ⟨Q', hRS6⟩ := hRS5H.out.step (by omega) (by omega) hil hdH.out hin hallH.out hM6 o6
                have hAp := apart_at (cap := c0) hRS6.many hRS6.psl (by rw [hpl2H.out]; exact hl8) hRS6.apart
                have hRS6H := hid hRS6
                clear hRS6 hStep hM6 o6
                go_wp2_with (fail)
                refine hAp.mono ?_
                rintro e w7 ⟨rfl, hb7⟩
                have hRS7 := hid (hRS6H.out.below' hb7)
                clear hAp
                go_wp2_with (fail)
                go_roundg k2
                case measure => omega
                case rel => exact ⟨n + 1, stp + 1, _, _, _, dn, Q', by omega, by first | rfl | (congr 1; omega), by first | rfl | (congr 1; omega), hRS7.out⟩
    | succ k1 =>
      have hin : ((i : Int) < (len : Int)) := by omega
      have hNew := GuardCode.new_at (B + 2) wr
      have hfr := hM.fresh
      obtain ⟨g, hgs⟩ : ∃ g, g = wr.heap.size := ⟨_, rfl⟩
      rw [← hgs] at hNew hfr
      have hgH := hid hgs
      clear hgs
      have hBg := hid (show B ≤ g by rw [hBH.out, hgH.out]; exact hb.size)
      go_wp2_with (fail)
      refine hNew.mono ?_
      rintro e w2 ⟨rfl, hG, hb2, hz2⟩
      have hb2' : Below wr.heap.size wr w2 := by rw [← hgH.out]; exact hb2
      have hM2 := (hM.below hb2').push (s := ⟨[], 0, 0, false⟩) hG hfr (fun j hj => by simp at hj)
      have hown2 := own_only hown (Only.none_of_below hb2') (fun _ _ => id)
      have hb3 := hb.trans (hb2'.mono (by rw [hBH.out]; exact hb.size))
      obtain ⟨ab, ao, rfl, hab, hac, h256⟩ := ints_get ha (i := i) (by omega)
      rw [← hb3.cell (p := ⟨ab, ao + i, none⟩) (by rw [hBH.out]; exact hab)] at hac
      obtain ⟨q, hq⟩ : ∃ q, q = (zs.getD i 0).toNat := ⟨_, rfl⟩
      rw [← hq] at hac h256
      have hqH := hid hq
      have hLk := GuardLocks.locks_at q h256 w2
      have hrq := hid (wants_rise zs i (by rw [← hq]; exact h256))
      have hwq : wants zs i = locksL q 6 := by unfold wants; rw [hq]
      have hwqH := hid hwq
      clear hq hwq
      clear hNew hM hown hb hb2 hb2' hz2 hab hfr
      go_wp2_with (fail)
      refine hLk.mono ?_
      rintro e w3 ⟨v, rfl, hv, hb4⟩
      obtain ⟨Av, cv, rfl⟩ := own_form hv
      have hl6 := locks_len q 6
      have hS := (slM_of_own hv (by omega)).1
      rw [← hwqH.out] at hS
      have hM3 := hM2.below hb4
      have hown3 := own_only hown2 (Only.none_of_below hb4) (fun _ _ => id)
      have hb5 := hb3.trans (hb4.mono (by rw [hBH.out]; exact hb3.size))
      have hp : (ps ++ [g])[i]? = some g := by rw [List.getElem?_append_right (by rw [hplH.out]; exact Nat.le_refl _), hplH.out]; simp
      have hss : (fresh zs i ++ [Gs.mk [] 0 0 false]).getD i default = Gs.mk [] 0 0 false := by
        rw [List.getD_eq_getElem?_getD, List.getElem?_append_right (by simp [fresh])]; simp [fresh]
      have hGv := hM3.g i g hp
      rw [hss] at hGv
      have hW := want_at hGv hM3.t hS hrq.out rfl rfl rfl
      rw [show (wants zs i).length = (locksL q 6).length by rw [hwqH.out]] at hW
      have hssH := hid hss
      have hpH := hid hp
      clear hLk hv hM2 hown2 hb3 hb4 hac hss hGv hp
      go_wp2_with (fail)
      refine hW.mono ?_
      rintro e w4 ⟨rfl, hG4, o4⟩
      have hset : (fresh zs i ++ [Gs.mk [] 0 0 false]).set i ⟨wants zs i, 0, 0, false⟩ = fresh zs (i + 1) := by
        rw [fresh_more, List.set_append_right _ _ (by simp [fresh])]; simp [fresh]
      obtain ⟨n1, n2, n3⟩ := (hM3.both hpH.out).ne
      have hM4 := hM3.set hpH.out (s' := ⟨wants zs i, 0, 0, false⟩) ⟨hG4, hM3.t.only o4 (Ne.symm n2) (Ne.symm n3) (Ne.symm n1)⟩ (o4.mono (fun k _ hk => .inl hk)) hM3.sm hrq.out
      rw [hset] at hM4
      have hown4 := own_only hown3 o4 (fun k hk e => by
        subst e
        obtain ⟨us, e2⟩ := own_typ hown3 hk
        obtain ⟨A1, c1, hO1, _⟩ := (hM3.both hpH.out).g.obj
        exact typ_ne hO1 e2 (by decide) rfl)
      have hb6 := o4.below hb5 (by rw [hBH.out]; exact hb5.size) (fun k _ hk => by rw [hk]; exact hBg.out)
      clear hW hM3 hown3 hb5 o4 hG4 hset n1 n2 n3
      have hpt : (ptrs ps).length = ps.length := by simp [ptrs]
      have hptH := hid hpt
      have hbs := hid (show B ≤ w4.heap.size by rw [hBH.out]; exact hb6.size)
      have hl8 := hid (show (ps.length + 1) * 8 ≤ 140737488355328 by rw [hplH.out]; omega)
      have hownH := hid hown4
      have hM4H := hid hM4
      clear hpt
      go_wp2_with (first | ((with_reducible refine gate_builtin (b := .append) (xs := #[.tmp 63, .tmp 65]) rfl ?_); at_builtin; go_loud (refine print_append (w0 := w) B rfl (.tmp 63) (.tmp 65) 28 29 (.pointer none) 8 rfl Try.underlying28 ptr_info rfl (by decide) _ (ptrs ps) (.pointer (some ⟨g, 0, none⟩)) rfl rfl rfl (by rw [hptH.out]; exact hownH.out) hb6 hbs.out (by rw [hptH.out]; exact hl8.out) ?_); intro v1 w5 ho1 hb7 hgr hat))
      go_roundg k1
      case measure => omega
      case rel =>
        have e : (ptrs ps ++ [Value.pointer (some ⟨g, 0, none⟩)]).length = (ps ++ [g]).length := by simp [ptrs]
        rw [e, ← ptrs_app] at ho1
        refine ⟨i + 1, ps ++ [g], by omega, by first | rfl | (congr 1; omega), by rw [List.length_append, hplH.out]; rfl, ho1, ?_, hb7, fun p hp => ?_⟩
        · exact hM4H.out.onlyT (Only.of_grown hgr) (fun k hk => own_typ hownH.out hk)
        · rcases List.mem_append.mp hp with h1 | h1
          · exact hloH.out p h1
          · rw [List.mem_singleton.mp h1]; exact hBg.out
end
end Go.Proofs.Ytabcodjalacdjab.GuardCode
