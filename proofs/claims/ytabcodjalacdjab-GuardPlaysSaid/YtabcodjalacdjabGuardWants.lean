
/- guard: Want, whatever it is asked. -/
import Derived.Test.YtabcodjalacdjabGuardMany
namespace Go.Proofs.Ytabcodjalacdjab.GuardCode
open Go Go.RowKit Go.Proofs.Ytabcodjalacdjab.Obj Go.Proofs.Ytabcodjalacdjab.Row Go.Proofs.Ytabcodjalacdjab.CellCode Go.Proofs.Ytabcodjalacdjab.TicketCode Go.Proofs.YtabcodjalacdjabW.PrintWords Go.Proofs.YtabcodjalacdjabW.PrintMore
set_option linter.unusedVariables false
set_option maxRecDepth 100000
instance decRise (r : List Int) : Decidable (Rise r) := inferInstanceAs (Decidable (∀ i, i < r.length → lastOf r i < r.getD i 0 ∧ r.getD i 0 < 6))
/-- What Want answers, and leaves. -/
def wantE (s : Gs) (r : List Int) : Int := if s.n ≠ 0 ∨ s.drawn = true then 9 else if Rise r then 0 else 2
def wantS (s : Gs) (r : List Int) : Gs := if s.n ≠ 0 ∨ s.drawn = true then s else if Rise r then { s with row := r } else s
def Okk (r : List Int) (i : Nat) : Prop := lastOf r i < r.getD i 0 ∧ r.getD i 0 < 6
theorem okk_pos {r : List Int} {i : Nat} (h : ∀ j, j < i → Okk r j) : ∀ j, j < i → (j : Int) ≤ r.getD j 0 := by
  intro j
  induction j with
  | zero => intro h0; have := (h 0 h0).1; rw [show lastOf r 0 = -1 from rfl] at this; omega
  | succ k ih =>
    intro hk
    have h1 := (h (k + 1) hk).1
    rw [lastOf_succ] at h1
    have := ih (by omega)
    omega
theorem rise_len {r : List Int} (h : Rise r) : r.length ≤ 6 := by
  rcases Nat.eq_zero_or_pos r.length with h0 | h0
  · omega
  · have h1 := okk_pos (r := r) (i := r.length) h (r.length - 1) (by omega)
    have h2 := (h (r.length - 1) (by omega)).2
    omega
section
variable {w w' : World} {g x c lb : Nat} {s : Gs} {L : List Nat} {N : Nat} {A : Option Addr} {r : List Int}
theorem want_have {v : Value} (h : GAt w g x s) (hd : s.n ≠ 0 ∨ s.drawn = true) : Calls Try.prog 9 #[.pointer (some ⟨g, 0, none⟩), v] w fun e w' => e = .returned (.int .i64 9) ∧ w' = w := by
  obtain ⟨A0, cap0, hO, hcap0, hR0⟩ := h.obj
  by_cases h0 : s.n = 0
  · have hd1 : s.drawn = true := by rcases hd with hd | hd; exact absurd h0 hd; exact hd
    rw [h0, hd1] at hO
    have g2 : w.cell? ⟨g, 2, none⟩ = some (.int .i64 0) := hO.cell 2
    have g4 : w.cell? ⟨g, 4, none⟩ = some (.bool true) := hO.cell 4
    clear h hO hR0 hd
    go_enter Try.func9, Try.ntmps9
    go_wp2_with (fail)
    go_step3
    go_wp2_with (fail)
    rw [Exit.noGoto_ret]
    go_ret
    exact ⟨rfl, rfl⟩
  · have g2 : w.cell? ⟨g, 2, none⟩ = some (.int .i64 (s.n : Int)) := hO.cell 2
    have hp : (s.n : Int) > 0 := by omega
    clear h hO hR0 hd
    go_enter Try.func9, Try.ntmps9
    go_wp2_with (fail)
    go_step3
    go_wp2_with (fail)
    rw [Exit.noGoto_ret]
    go_ret
    exact ⟨rfl, rfl⟩
set_option maxHeartbeats 2000000 in
theorem want_bad {cap : Nat} (h : GAt w g x s) (T : TAt w x c lb L N) (hw : Nums w .i64 A r) (hl : r.length ≤ 1000000) (hr : ¬ Rise r) (hn : s.n = 0) (hd : s.drawn = false) :
    Calls Try.prog 9 #[.pointer (some ⟨g, 0, none⟩), .slice A r.length cap] w fun e w' => e = .returned (.int .i64 2) ∧ w' = w := by
  have hLen := len_lock T
  obtain ⟨A0, cap0, hO, hcap0, hR0⟩ := h.obj
  rw [hn, hd] at hO
  have g0 : w.cell? ⟨g, 0, none⟩ = some (.pointer (some ⟨x, 0, none⟩)) := hO.cell 0
  have g2 : w.cell? ⟨g, 2, none⟩ = some (.int .i64 0) := hO.cell 2
  have g4 : w.cell? ⟨g, 4, none⟩ = some (.bool false) := hO.cell 4
  clear h hO T hR0 hn hd hcap0
  go_enter Try.func9, Try.ntmps9
  go_wp2_with (fail)
  go_step3
  go_wp2_with (fail)
  go_step3
  go_wp2_with (fail)
  go_loopg [5, 6, 26] r.length (fun kq v5 v6 v26 w' => ∃ i : Nat, kq + i = r.length ∧ v26 = .int .i64 (i : Int) ∧ v5 = .int .i64 (lastOf r i) ∧ v6 = .int .i64 0 ∧ (∀ j, j < i → Okk r j) ∧ w' = w)
  case atStart => exact ⟨0, rfl, rfl, rfl, rfl, (fun j hj => absurd hj (by omega)), rfl⟩
  case round =>
    obtain ⟨i, hi, rfl, rfl, rfl, hok, rfl⟩ := hrel
    cases gk with
    | zero =>
      exact absurd (fun j hj => hok j (by omega)) hr
    | succ k1 =>
      have hin : ((i : Int) < (r.length : Int)) := by omega
      have hir : i < r.length := by omega
      obtain ⟨rb, ro, rfl, hrl, hrc⟩ := hw.at i hir
      obtain ⟨y, hy⟩ : ∃ y, y = r.getD i 0 := ⟨_, rfl⟩
      rw [← hy] at hrc
      obtain ⟨z, hz⟩ : ∃ z, z = lastOf r i := ⟨_, rfl⟩
      rw [← hz]
      by_cases q1 : y ≤ z
      · clear hy hz hw hr hok
        go_wp2_with (fail)
        rw [Exit.noGoto_ret]
        go_ret
        exact ⟨rfl, rfl⟩
      · by_cases q2 : y ≥ 6
        · clear hy hz hw hr hok
          go_wp2_with (fail)
          refine hLen.mono ?_
          rintro e w3 ⟨rfl, hw⟩
          obtain rfl : wr = w3 := hw.symm
          go_wp2_with (fail)
          rw [Exit.noGoto_ret]
          go_ret
          exact ⟨rfl, rfl⟩
        · have hok2 : ∀ j, j < i + 1 → Okk r j := fun j hj => by
            rcases Nat.lt_or_ge j i with h1 | h1
            · exact hok j h1
            · obtain rfl : j = i := by omega
              exact ⟨by omega, by omega⟩
          have hz' : lastOf r (i + 1) = y := by rw [hy]; simp [lastOf]
          have hy' := hid hy
          have hz2 := hid hz'
          have hok3 := hid hok2
          clear hy hz hz' hw hr hok hok2
          go_wp2_with (fail)
          refine hLen.mono ?_
          rintro e w3 ⟨rfl, hw⟩
          obtain rfl : wr = w3 := hw.symm
          go_wp2_with (fail)
          go_roundg k1
          case rel => exact ⟨i + 1, by omega, rfl, by rw [hz2.out], rfl, hok3.out, rfl⟩
          case measure => omega
/-- A slice of numbers that lies in memory of its own kind; nil: it has none. -/
structure SlW (w : World) (A : Option Addr) (cap : Nat) (r : List Int) : Prop where
  row : RowM w A r
  nil : A = none → r = [] ∧ cap = 0
  le : r.length ≤ cap
  few : r.length ≤ 1000000
theorem SlW.below {cap : Nat} (h : SlW w A cap r) (hb : Below w.heap.size w w') : SlW w' A cap r := ⟨h.row.below hb, h.nil, h.le, h.few⟩
theorem want_is {cap : Nat} (h : Both w g x c lb s L N) (hS : SlW w A cap r) (hi : s.drawn = false → s.mine = 0) :
    Calls Try.prog 9 #[.pointer (some ⟨g, 0, none⟩), .slice A r.length cap] w fun e w' => e = .returned (.int .i64 (wantE s r)) ∧ Both w' g x c lb (wantS s r) L N ∧ Only (GS g c lb) w w' := by
  unfold wantE wantS
  by_cases h1 : s.n ≠ 0 ∨ s.drawn = true
  · rw [if_pos h1, if_pos h1]
    exact (want_have h.g h1).mono fun e w' ⟨a, b⟩ => by subst b; exact ⟨a, h, Only.refl _ _⟩
  · rw [if_neg h1, if_neg h1]
    have hn : s.n = 0 := Classical.byContradiction fun k => h1 (.inl k)
    have hd : s.drawn = false := by cases hd : s.drawn with | true => exact absurd (.inr hd) h1 | false => rfl
    by_cases h2 : Rise r
    · rw [if_pos h2, if_pos h2]
      obtain ⟨n1, n2, n3⟩ := h.ne
      refine (want_at h.g h.t ⟨hS.row, hS.nil, hS.le, by have := rise_len h2; omega⟩ h2 hn hd (hi hd)).mono ?_
      rintro e w' ⟨rfl, h3, h4⟩
      exact ⟨rfl, ⟨h3, h.t.only h4 (Ne.symm n2) (Ne.symm n3) (Ne.symm n1)⟩, h4.mono (fun k _ hk => .inl hk)⟩
    · rw [if_neg h2, if_neg h2]
      exact (want_bad h.g h.t hS.row.nums hS.few h2 hn hd).mono fun e w' ⟨a, b⟩ => by subst b; exact ⟨a, h, Only.refl _ _⟩
end
end Go.Proofs.Ytabcodjalacdjab.GuardCode
