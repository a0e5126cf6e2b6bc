
/- The document's guard: Want. -/
import Derived.Test.YtabcodjalacdjabRefGive
import Derived.Test.YtabcodjalacdjabGuardWants
namespace Go.Proofs.Ytabcodjalacdjab.RefGuard
open Go Go.RowKit Go.Proofs.Ytabcodjalacdjab.Obj Go.Proofs.Ytabcodjalacdjab.Row Go.Proofs.Ytabcodjalacdjab.RefCells Go.Proofs.YtabcodjalacdjabW.PrintWords Go.Proofs.YtabcodjalacdjabW.PrintMore
open Go.Proofs.Ytabcodjalacdjab.TicketCode (Sm)
open Go.Proofs.Ytabcodjalacdjab.GuardCode (Gs RowM lock_cell not_int Rise Okk okk_pos wantE wantS rise_len lastOf lastOf_succ rowM_of_own)
set_option linter.unusedVariables false
set_option maxRecDepth 100000
theorem info3 : (Try.prog.info? 3).map (fun i => (i.zero, i.size, i.bytes)) = some (some (.int .i64 0), 1, 8) := by kernel_rfl
section
variable {w w' : World} {r y m lo : Nat} {s : Gs} {L : List Nat} {N : Nat} {A : Option Addr} {l : List Int}
theorem rwant_have {v : Value} (h : RB w r y m lo s L N) (hd : s.n ≠ 0 ∨ s.drawn = true) : Calls Try.prog 17 #[.pointer (some ⟨r, 0, none⟩), v] w fun e w' => e = .returned (.int .i64 9) ∧ w' = w := by
  obtain ⟨A0, cap0, hO, hcap0, hR0⟩ := h.g.obj
  by_cases h0 : s.n = 0
  · have hd1 : s.drawn = true := by rcases hd with hd | hd; exact absurd h0 hd; exact hd
    rw [h0, hd1] at hO
    have g2 : w.cell? ⟨r, 2, none⟩ = some (.int .i64 0) := hO.cell 2
    have g4 : w.cell? ⟨r, 4, none⟩ = some (.bool true) := hO.cell 4
    clear h hO hR0 hd
    go_enter Try.func17, Try.ntmps17
    go_wp2_with (fail)
    go_ret
    exact ⟨rfl, rfl⟩
  · have g2 : w.cell? ⟨r, 2, none⟩ = some (.int .i64 (s.n : Int)) := hO.cell 2
    have hp : (s.n : Int) > 0 := by omega
    clear h hO hR0 hd
    go_enter Try.func17, Try.ntmps17
    go_wp2_with (fail)
    go_ret
    exact ⟨rfl, rfl⟩
set_option maxHeartbeats 4000000 in
theorem rwant_good {cap : Nat} (h : RB w r y m lo s L N) (hRd : ReadsInt w .i64 A l.length l) (hw : Nums w .i64 A l) (hr : Rise l) (hn : s.n = 0) (hd : s.drawn = false) :
    Calls Try.prog 17 #[.pointer (some ⟨r, 0, none⟩), .slice A l.length cap] w fun e w' => e = .returned (.int .i64 0) ∧ RB w' r y m lo { s with row := l } L N ∧ Only (RS r m) w w' := by
  obtain ⟨nry, nrm⟩ := h.ne
  obtain ⟨A0, cap0, hO, hcap0, hR0⟩ := h.g.obj
  rw [hn, hd] at hO
  have hrl := hO.lt
  have g0 : w.cell? ⟨r, 0, none⟩ = some (.pointer (some ⟨y, 0, none⟩)) := hO.cell 0
  have g2 : w.cell? ⟨r, 2, none⟩ = some (.int .i64 0) := hO.cell 2
  have g4 : w.cell? ⟨r, 4, none⟩ = some (.bool false) := hO.cell 4
  have hHas := hid (show ∀ (k : Int) n0 n, Calls Try.prog 39 #[.pointer (some ⟨y, 0, none⟩), .int .i64 k] (w.drewN (n0 + n)) fun e w' => e = .returned (.bool (decide (0 ≤ k ∧ k < 6))) ∧ ∃ m, w' = w.drewN (n0 + m) from fun k n0 n => (rhas_at (h.t.drewN (n0 + n)) k).mono fun e w' ⟨a, b⟩ => ⟨a, n, b⟩)
  have hfin := hid (show ∀ n w1 A1 c1, w1.ownsRow w.heap.size 3 1 (.slice A1 l.length c1) l.length (nums .i64 l) → Below w.heap.size (w.drewN n) w1 →
      w1.cell? ⟨r, 1, none⟩ = some (.slice A0 s.row.length cap0) ∧ w1.frozen? ⟨r, 1, none⟩ = false ∧ RB (w1.setCell ⟨r, 1, none⟩ (.slice A1 l.length c1)) r y m lo { s with row := l } L N ∧ Only (RS r m) w (w1.setCell ⟨r, 1, none⟩ (.slice A1 l.length c1)) from fun n w1 A1 c1 ho hb => by
    have hb' : Below w.heap.size w w1 := ⟨hb.os, hb.tape, hb.output, hb.size, hb.block⟩
    have Bg := hO.same (hb'.block _ hrl)
    obtain ⟨R1, _, hle1⟩ := rowM_of_own ho
    have og : Only (fun k => k = r) w1 (w1.setCell ⟨r, 1, none⟩ (.slice A1 l.length c1)) := Only.setCell _ _ _ rfl
    have R2 := R1.only og (fun j hj vs => by subst hj; exact not_int Bg (by decide) vs)
    have G1 := h.g.below hb'
    have T1 := h.t.below hb'
    refine ⟨Bg.cell 1, Bg.frozen 1, ⟨⟨⟨A1, c1, ?_, hle1, R2⟩, by show s.n ≤ l.length; omega, by have := rise_len hr; show l.length ≤ 100000; omega⟩, T1.guard G1 nry nrm og⟩, ?_⟩
    · show Blk _ r _ [_, _, .int .i64 (s.n : Int), _, .bool s.drawn]
      rw [hn, hd]; exact Bg.set 1 _
    · exact ((Only.none_of_below hb').mono (fun _ _ hk => hk.elim)).trans (og.mono (fun j _ hj => .inl hj)))
  have hl6 := rise_len hr
  clear h hO hR0 hn hd hcap0
  go_enter Try.func17, Try.ntmps17
  go_wp2_with (fail)
  go_loopg [5] l.length (fun kq v5 w' => ∃ i n : Nat, kq + i = l.length ∧ v5 = .int .i64 (i : Int) ∧ (∀ j, j < i → Okk l j) ∧ w' = w.drewN n)
  case atStart => exact ⟨0, 0, rfl, rfl, (fun j hj => absurd hj (by omega)), rfl⟩
  case round =>
    obtain ⟨i, nn, hi, rfl, hok, rfl⟩ := hrel
    cases gk with
    | zero =>
      have hin : ¬ ((i : Int) < (l.length : Int)) := by omega
      have hRd2 : ReadsInt (w.drewN nn) .i64 A l.length l := hRd
      have hrl2 : w.heap.size ≤ (w.drewN nn).heap.size := Nat.le_refl _
      have hF := hid (hfin.out nn)
      clear hok hr hw hfin hHas
      go_wp2_with (first | ((with_reducible refine gate_builtin (b := .append) (xs := #[.const (Value.slice none 0 0), .tmp 50]) rfl ?_); at_builtin; go_loud (refine print_append_row (w0 := w.drewN nn) w.heap.size rfl (.const (Value.slice none 0 0)) (.tmp 50) 34 3 .i64 8 rfl Try.underlying34 info3 (by decide) (.slice none 0 0) [] l A l.length cap rfl rfl (own_nil _ _ _ _) hRd2 (Below.refl _ _) hrl2 (by simp; omega) ?_); intro v1 w1 ho hb hgr hat; simp only [List.nil_append] at ho; obtain ⟨A1, c1, rfl⟩ := own_form ho; obtain ⟨k1, k2, k3, k4⟩ := hF.out _ _ _ ho hb))
      go_ret
      exact ⟨rfl, k3, k4⟩
    | succ k1 =>
      have hin : ((i : Int) < (l.length : Int)) := by omega
      have hi0 : (0 : Int) ≤ (i : Int) := by omega
      have hir : i < l.length := by omega
      obtain ⟨rb, ro, rfl, hbl, hrc⟩ := hw.at i hir
      obtain ⟨v, hv⟩ : ∃ v, v = l.getD i 0 := ⟨_, rfl⟩
      rw [← hv] at hrc
      have hH := hHas.out v nn
      have okI : Okk l i := hr i hir
      have h06 : 0 ≤ v ∧ v < 6 := by
        have h1 := okk_pos hr i hir
        have h2 := okI.2
        omega
      rw [decide_eq_true h06] at hH
      have hok2 := hid (show ∀ j, j < i + 1 → Okk l j from fun j hj => by
        rcases Nat.lt_or_ge j i with h1 | h1
        · exact hok j h1
        · obtain rfl : j = i := by omega
          exact okI)
      rcases Nat.eq_zero_or_pos i with rfl | hp
      · have d0 : (0 : Int) < (l.length : Int) := by omega
        have d1 : decide ((0 : Int) < (0 : Int)) = false := rfl
        have d2 : decide (0 < 0) = false := rfl
        rw [Nat.add_zero] at hrc
        clear hok okI hfin hHas hv hRd hw h06 hir hr
        go_wp2_with (fail)
        go_quiet (exact hH _)
        go_wp2_with (fail)
        go_roundg k1
        case rel => exact ⟨1, _, by omega, rfl, hok2.out, rfl⟩
        case measure => omega
      · obtain ⟨p, rfl⟩ : ∃ p, i = p + 1 := ⟨i - 1, by omega⟩
        obtain ⟨b2, o2, e2, hbl2, hrc2⟩ := hw.at p (by omega)
        obtain ⟨rfl, rfl⟩ : b2 = rb ∧ o2 = ro := by simp at e2; omega
        have hzl := okI.1
        rw [lastOf_succ, ← hv] at hzl
        obtain ⟨z, hz⟩ : ∃ z, z = l.getD p 0 := ⟨_, rfl⟩
        rw [← hz] at hrc2 hzl
        have d0 : (p : Int) + 1 < (l.length : Int) := by omega
        have d7 : (0 : Int) ≤ (p : Int) + 1 := by omega
        have d8 : (0 : Int) < (p : Int) + 1 := by omega
        have d1 : decide ((0 : Int) < (p : Int) + 1) = true := decide_eq_true (by omega)
        have d2 : decide (0 < p + 1) = true := rfl
        have d3 : IntKind.i64.wrap ((p : Int) + 1 - 1) = (p : Int) := by rw [IntWalk.i64_in _ (by omega)]; omega
        have d4 : decide (v ≤ z) = false := decide_eq_false (by omega)
        have d5 : (p : Int) < (l.length : Int) := by omega
        have d6 : (0 : Int) ≤ (p : Int) := by omega
        clear hok okI hfin hHas hv hRd hw h06 hir hz hzl hbl2 hr
        go_wp2_with (fail)
        go_quiet (exact hH _)
        go_wp2_with (fail)
        go_roundg k1
        case rel => exact ⟨p + 2, _, by omega, by go_num, hok2.out, rfl⟩
        case measure => omega
set_option maxHeartbeats 4000000 in
theorem rwant_bad {cap : Nat} (h : RB w r y m lo s L N) (hRd : ReadsInt w .i64 A l.length l) (hw : Nums w .i64 A l) (hl : l.length ≤ 1000000) (hr : ¬ Rise l) (hn : s.n = 0) (hd : s.drawn = false) :
    Calls Try.prog 17 #[.pointer (some ⟨r, 0, none⟩), .slice A l.length cap] w fun e w' => e = .returned (.int .i64 2) ∧ ∃ n, w' = w.drewN n := by
  obtain ⟨nry, nrm⟩ := h.ne
  obtain ⟨A0, cap0, hO, hcap0, hR0⟩ := h.g.obj
  rw [hn, hd] at hO
  have hrl := hO.lt
  have g0 : w.cell? ⟨r, 0, none⟩ = some (.pointer (some ⟨y, 0, none⟩)) := hO.cell 0
  have g2 : w.cell? ⟨r, 2, none⟩ = some (.int .i64 0) := hO.cell 2
  have g4 : w.cell? ⟨r, 4, none⟩ = some (.bool false) := hO.cell 4
  have hHas := hid (show ∀ (k : Int) n0 n, Calls Try.prog 39 #[.pointer (some ⟨y, 0, none⟩), .int .i64 k] (w.drewN (n0 + n)) fun e w' => e = .returned (.bool (decide (0 ≤ k ∧ k < 6))) ∧ ∃ m, w' = w.drewN (n0 + m) from fun k n0 n => (rhas_at (h.t.drewN (n0 + n)) k).mono fun e w' ⟨a, b⟩ => ⟨a, n, b⟩)
  have hfin : True := trivial
  clear h hO hR0 hn hd hcap0
  go_enter Try.func17, Try.ntmps17
  go_wp2_with (fail)
  go_loopg [5] l.length (fun kq v5 w' => ∃ i n : Nat, kq + i = l.length ∧ v5 = .int .i64 (i : Int) ∧ (∀ j, j < i → Okk l j) ∧ w' = w.drewN n)
  case atStart => exact ⟨0, 0, rfl, rfl, (fun j hj => absurd hj (by omega)), rfl⟩
  case round =>
    obtain ⟨i, nn, hi, rfl, hok, rfl⟩ := hrel
    cases gk with
    | zero => exact absurd (fun j hj => hok j (by omega)) hr
    | succ k1 =>
      have hin : ((i : Int) < (l.length : Int)) := by omega
      have hi0 : (0 : Int) ≤ (i : Int) := by omega
      have hir : i < l.length := by omega
      obtain ⟨rb, ro, rfl, hbl, hrc⟩ := hw.at i hir
      obtain ⟨v, hv⟩ : ∃ v, v = l.getD i 0 := ⟨_, rfl⟩
      rw [← hv] at hrc
      have hH := hHas.out v nn
      by_cases h06 : 0 ≤ v ∧ v < 6
      · by_cases okI : Okk l i
        · rw [decide_eq_true h06] at hH
          have hok2 := hid (show ∀ j, j < i + 1 → Okk l j from fun j hj => by
            rcases Nat.lt_or_ge j i with h1 | h1
            · exact hok j h1
            · obtain rfl : j = i := by omega
              exact okI)
          rcases Nat.eq_zero_or_pos i with rfl | hp
          · have d0 : (0 : Int) < (l.length : Int) := by omega
            have d1 : decide ((0 : Int) < (0 : Int)) = false := rfl
            have d2 : decide (0 < 0) = false := rfl
            rw [Nat.add_zero] at hrc
            clear hok okI hfin hHas hv hRd hw h06 hir hr
            go_wp2_with (fail)
            go_quiet (exact hH _)
            go_wp2_with (fail)
            go_roundg k1
            case rel => exact ⟨1, _, by omega, rfl, hok2.out, rfl⟩
            case measure => omega
          · obtain ⟨p, rfl⟩ : ∃ p, i = p + 1 := ⟨i - 1, by omega⟩
            obtain ⟨b2, o2, e2, hbl2, hrc2⟩ := hw.at p (by omega)
            obtain ⟨rfl, rfl⟩ : b2 = rb ∧ o2 = ro := by simp at e2; omega
            have hzl := okI.1
            rw [lastOf_succ, ← hv] at hzl
            obtain ⟨z, hz⟩ : ∃ z, z = l.getD p 0 := ⟨_, rfl⟩
            rw [← hz] at hrc2 hzl
            have d0 : (p : Int) + 1 < (l.length : Int) := by omega
            have d7 : (0 : Int) ≤ (p : Int) + 1 := by omega
            have d8 : (0 : Int) < (p : Int) + 1 := by omega
            have d1 : decide ((0 : Int) < (p : Int) + 1) = true := decide_eq_true (by omega)
            have d2 : decide (0 < p + 1) = true := rfl
            have d3 : IntKind.i64.wrap ((p : Int) + 1 - 1) = (p : Int) := by rw [IntWalk.i64_in _ (by omega)]; omega
            have d4 : decide (v ≤ z) = false := decide_eq_false (by omega)
            have d5 : (p : Int) < (l.length : Int) := by omega
            have d6 : (0 : Int) ≤ (p : Int) := by omega
            clear hok okI hfin hHas hv hRd hw h06 hir hz hzl hbl2 hr
            go_wp2_with (fail)
            go_quiet (exact hH _)
            go_wp2_with (fail)
            go_roundg k1
            case rel => exact ⟨p + 2, _, by omega, by go_num, hok2.out, rfl⟩
            case measure => omega
        · rw [decide_eq_true h06] at hH
          have hp : 0 < i := by
            rcases Nat.eq_zero_or_pos i with rfl | hp
            · exact absurd ⟨by rw [show lastOf l 0 = -1 from rfl]; omega, by omega⟩ okI
            · exact hp
          obtain ⟨p, rfl⟩ : ∃ p, i = p + 1 := ⟨i - 1, by omega⟩
          obtain ⟨b2, o2, e2, hbl2, hrc2⟩ := hw.at p (by omega)
          obtain ⟨rfl, rfl⟩ : b2 = rb ∧ o2 = ro := by simp at e2; omega
          obtain ⟨z, hz⟩ : ∃ z, z = l.getD p 0 := ⟨_, rfl⟩
          have hzl : v ≤ z := by
            rcases Int.lt_or_le z v with h1 | h1
            · exact absurd ⟨by rw [lastOf_succ]; omega, by omega⟩ okI
            · exact h1
          rw [← hz] at hrc2
          have d0 : (p : Int) + 1 < (l.length : Int) := by omega
          have d7 : (0 : Int) ≤ (p : Int) + 1 := by omega
          have d8 : (0 : Int) < (p : Int) + 1 := by omega
          have d1 : decide ((0 : Int) < (p : Int) + 1) = true := decide_eq_true (by omega)
          have d2 : decide (0 < p + 1) = true := rfl
          have d3 : IntKind.i64.wrap ((p : Int) + 1 - 1) = (p : Int) := by rw [IntWalk.i64_in _ (by omega)]; omega
          have d4 : decide (v ≤ z) = true := decide_eq_true hzl
          have d5 : (p : Int) < (l.length : Int) := by omega
          have d6 : (0 : Int) ≤ (p : Int) := by omega
          clear hok okI hfin hHas hv hRd hw h06 hir hz hzl hbl2 hr
          go_wp2_with (fail)
          go_quiet (exact hH _)
          go_wp2_with (fail)
          go_ret
          exact ⟨rfl, nn + nq, World.drewN_drewN ..⟩
      · rw [decide_eq_false h06] at hH
        clear hok hfin hHas hv hRd hw h06 hir hi hr
        go_wp2_with (fail)
        go_quiet (exact hH _)
        go_wp2_with (fail)
        go_ret
        exact ⟨rfl, nn + nq, World.drewN_drewN ..⟩
theorem rwant_is {cap : Nat} (h : RB w r y m lo s L N) (hRd : ReadsInt w .i64 A l.length l) (hw : Nums w .i64 A l) (hl : l.length ≤ 1000000) :
    Calls Try.prog 17 #[.pointer (some ⟨r, 0, none⟩), .slice A l.length cap] w fun e w' => e = .returned (.int .i64 (wantE s l)) ∧ RB w' r y m lo (wantS s l) L N ∧ Only (RS r m) w w' := by
  unfold wantE wantS
  by_cases h1 : s.n ≠ 0 ∨ s.drawn = true
  · rw [if_pos h1, if_pos h1]
    exact (rwant_have h h1).mono fun e w' ⟨a, b⟩ => by subst b; exact ⟨a, h, Only.refl _ _⟩
  · rw [if_neg h1, if_neg h1]
    have hn : s.n = 0 := Classical.byContradiction fun k => h1 (.inl k)
    have hd : s.drawn = false := by cases hd : s.drawn with | true => exact absurd (.inr hd) h1 | false => rfl
    by_cases h2 : Rise l
    · rw [if_pos h2, if_pos h2]
      exact rwant_good h hRd hw h2 hn hd
    · rw [if_neg h2, if_neg h2]
      exact (rwant_bad h hRd hw hl h2 hn hd).mono fun e w' ⟨a, n, b⟩ => by subst b; exact ⟨a, h.drewN n, Only.drewN _ _ _⟩
end
end Go.Proofs.Ytabcodjalacdjab.RefGuard
