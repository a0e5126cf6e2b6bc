
/- locks.Of, Nil, Least; law 26's may, four. -/
import Derived.Test.YtabcodjalacdjadLocksOrder
namespace Go.Proofs.Ytabcodjalacdjad.LocksCode
open Go Go.RowKit Go.Shelf Go.Maps Go.Proofs.Ytabcodjalacdjad.Obj Go.Proofs.Ytabcodjalacdjad.Iter Go.Proofs.YtabcodjalacdjadW.PrintWords Go.Proofs.YtabcodjalacdjadW.PrintLast Go.Proofs.YtabcodjalacdjadW.PrintMore
set_option linter.unusedVariables false
set_option linter.unusedSimpArgs false
set_option maxRecDepth 100000
section
variable {w : World} {A : Option Addr} {cap : Nat} {d : Bool} {cs : List Cs}
/-- The channels of a site, rising. -/
structure IsOrd (cs : List Cs) (L : List Int) : Prop where
  rise : L.Pairwise (· < ·)
  mem : ∀ k, k ∈ L ↔ k ∈ chL (kcs cs cs.length)
def site (A : Option Addr) (cs : List Cs) (cap : Nat) (d : Bool) : Value := .agg #[.slice A cs.length cap, .bool d]
theorem cover_at (ch : Int) (h : CSl w.heap.size w A cs) (hl : cs.length ≤ 1000) (hcap : cs.length ≤ cap) :
    Calls Try.prog 8 #[.agg #[.slice A cs.length cap, .bool d], .int .i64 ch] w fun e W' => ∃ v, e = .returned v ∧ W'.ownsRow w.heap.size 3 1 v (coverL ch (kcs cs cs.length)).length ((coverL ch (kcs cs cs.length)).map (Value.int .i64)) ∧ Below w.heap.size w W' :=
  callsIn_wide.1 (Cover_in ch h hl hcap)
theorem lof_at (h : CSl w.heap.size w A cs) (hl : cs.length ≤ 1000) (hcap : cs.length ≤ cap) :
    Calls Try.prog 7 #[.agg #[.slice A cs.length cap, .bool d]] w fun e W' => ∃ (v : Value) (L : List Int), e = .returned v ∧ W'.ownsRow w.heap.size 3 1 v L.length (L.map (Value.int .i64)) ∧ IsOrd cs L ∧ Below w.heap.size w W' := by
  have hB1 : Below w.heap.size w ((w.alloc (.cells #[.slice A cs.length cap, .bool d] 24)).alloc (.cells #[.slice A cs.length cap, .bool d] 24)) := ((Below.refl _ w).alloc (Nat.le_refl _) _).alloc (by simp) _
  have hS := Blk.new (w.alloc (.cells #[.slice A cs.length cap, .bool d] 24)) 24 [.slice A cs.length cap, .bool d]
  rw [World.size_alloc] at hS
  have hO := order1_at (d := d) ((h.below hB1).up hB1.size) hS hl hcap
  go_enter Try.func7, Try.ntmps7
  go_wp2_with (fail)
  refine hO.mono ?_
  rintro e w2 ⟨v, L, rfl, h1, h2, h3, h4⟩
  obtain ⟨A2, c2, rfl⟩ := own_form h1
  go_wp2_with (fail)
  go_ret
  exact ⟨_, L, rfl, own_lower h1 (by simp; omega), ⟨h2, h3⟩, hB1.trans (h4.mono (by simp; omega))⟩
theorem lnil_at (h : CSl w.heap.size w A cs) (hl : cs.length ≤ 1000) (hcap : cs.length ≤ cap) :
    Calls Try.prog 9 #[.agg #[.slice A cs.length cap, .bool d]] w fun e W' => e = .returned (.int .u64 (ofN (coverL (-1) (kcs cs cs.length)) : Int)) ∧ Below w.heap.size w W' := by
  have hB1 : Below w.heap.size w (w.alloc (.cells #[.slice A cs.length cap, .bool d] 24)) := (Below.refl _ w).alloc (Nat.le_refl _) _
  have hO := cover_at (d := d) (-1) ((h.below hB1).up hB1.size) hl hcap
  have hlen := coverL_len (-1) (kcs cs cs.length)
  rw [kcs_len] at hlen
  go_enter Try.func9, Try.ntmps9
  go_wp2_with (fail)
  refine hO.mono ?_
  rintro e w2 ⟨v, rfl, h1, h4⟩
  obtain ⟨A2, c2, rfl⟩ := own_form h1
  have hS := of_at (cap := c2) (own_nums h1) (by omega)
  go_wp2_with (fail)
  refine hS.mono ?_
  rintro e w3 ⟨rfl, rfl⟩
  go_wp2_with (fail)
  go_ret
  exact ⟨rfl, hB1.trans (h4.mono (by simp))⟩
theorem least_gen {v : Value} {A' : Option Addr} {m' cap' : Nat} (hv : v = .slice A' m' cap') (P : List Int → Prop) (hO : Calls Try.prog 14 #[v] w fun e W' => ∃ (v : Value) (L : List Int), e = .returned v ∧ W'.ownsRow w.heap.size 3 1 v L.length (L.map (Value.int .i64)) ∧ P L ∧ Below w.heap.size w W') :
    Calls Try.prog 12 #[v] w fun e W' => ∃ L, P L ∧ e = .returned (.tuple #[.int .i64 (L.headD 0), .bool (!L.isEmpty)]) ∧ Below w.heap.size w W' := by
  subst hv
  go_enter Try.func12, Try.ntmps12
  go_wp2_with (fail)
  refine hO.mono ?_
  rintro e w2 ⟨v, L, rfl, h1, h2, h4⟩
  obtain ⟨A2, c2, rfl⟩ := own_form h1
  have hN := own_nums h1
  clear hO h1
  go_wp2_with (fail)
  go_loopg [9] 0 (fun kq v9 w' => v9 = .int .i64 0 ∧ w' = w2)
  case atStart => exact ⟨rfl, rfl⟩
  case round =>
    obtain ⟨rfl, hw⟩ := hrel
    subst hw
    cases L with
    | nil =>
      have hin : ¬ ((0 : Int) < (([] : List Int).length : Int)) := by simp
      go_wp2_with (fail)
      go_ret2
      exact ⟨[], h2, rfl, h4⟩
    | cons x r =>
      have hin : ((0 : Int) < ((x :: r).length : Int)) := by simp
      obtain ⟨b, o, rfl, _, hc⟩ := hN.at 0 (by simp)
      rw [show (x :: r).getD 0 0 = x from rfl, Nat.add_zero] at hc
      go_wp2_with (fail)
      go_ret2
      exact ⟨x :: r, h2, rfl, h4⟩
/-- What the law's sites may be. -/
def MayB (cs : List Cs) : Prop := (∀ i, i < cs.length → -1 ≤ (cs.getD i default).ch ∧ (cs.getD i default).ch < 64) ∧ cs.length ≤ 64
theorem may_at (h : CSl w.heap.size w A cs) (hcap : cs.length ≤ cap) (hm : cap ≤ maxLen) (b : Bool) (hb : b = true ↔ MayB cs) :
    Calls Try.prog 5 #[.agg #[.slice A cs.length cap, .bool d]] w fun e W' => e = .returned (.bool b) ∧ Below w.heap.size w W' := by
  have hB0 : Below w.heap.size w (w.alloc (.cells #[.slice A cs.length cap, .bool d] 24)) := (Below.refl _ w).alloc (Nat.le_refl _) _
  have hS0 := Blk.new w 24 [.slice A cs.length cap, .bool d]
  have hmH := hid hm
  clear hm
  go_enter Try.func5, Try.ntmps5
  go_wp2_with (fail)
  go_loopg [3] cs.length (fun kq v3 w' => ∃ i : Nat, kq + i = cs.length ∧ v3 = .int .i64 (i : Int) ∧ (∀ j, j < i → -1 ≤ (cs.getD j default).ch ∧ (cs.getD j default).ch < 64) ∧ Blk w' w.heap.size 24 [.slice A cs.length cap, .bool d] ∧ Below w.heap.size w w')
  case atStart => exact ⟨0, by omega, rfl, fun j hj => by omega, hS0, hB0⟩
  case round =>
    obtain ⟨i, hi, rfl, hok, hS, hB⟩ := hrel
    have hokH := hid hok
    have hbH := hid hb
    have s0 : wr.cell? ⟨w.heap.size, 0, none⟩ = some (.slice A cs.length cap) := hS.cell 0
    clear hok hb
    cases gk with
    | zero =>
      have hin : ¬ ((i : Int) < (cs.length : Int)) := by omega
      have e : decide ((cs.length : Int) ≤ 64) = b := by
        rw [Bool.eq_iff_iff, decide_eq_true_iff, hbH.out]
        exact ⟨fun h => ⟨fun j hj => hokH.out j (by omega), by omega⟩, fun h => by have := h.2; omega⟩
      go_wp2_with (fail)
      go_ret
      exact ⟨rfl, hB⟩
    | succ k1 =>
      have hin : ((i : Int) < (cs.length : Int)) := by omega
      obtain ⟨q, o, rfl, hq, e0, e1, e2, e3⟩ := (h.below hB) i (by omega)
      obtain ⟨x, hx⟩ : ∃ x, x = (cs.getD i default).ch := ⟨_, rfl⟩
      rw [← hx] at e1
      have hxH := hid hx
      have hwr : IntKind.i64.wrap ((i : Int) + 1) = (i : Int) + 1 := IntWalk.i64_in _ (by have := hmH.out; unfold maxLen at this; omega)
      clear hx h hB0 hS0
      by_cases h1 : x < -1
      · have hf : b = false := by
          cases b with
          | false => rfl
          | true => have := (hbH.out.1 rfl).1 i (by omega); rw [← hxH.out] at this; omega
        subst hf
        go_wp2_with (fail)
        go_ret
        exact ⟨rfl, hB⟩
      · by_cases h2 : 64 ≤ x
        · have hf : b = false := by
            cases b with
            | false => rfl
            | true => have := (hbH.out.1 rfl).1 i (by omega); rw [← hxH.out] at this; omega
          subst hf
          go_wp2_with (fail)
          go_ret
          exact ⟨rfl, hB⟩
        · go_wp2_with (fail)
          go_roundg k1
          case measure => omega
          case rel =>
            refine ⟨i + 1, by omega, by first | rfl | (congr 1; omega), fun j hj => ?_, hS, hB⟩
            by_cases e : j = i
            · subst e; rw [← hxH.out]; omega
            · exact hokH.out j (by omega)
end
end Go.Proofs.Ytabcodjalacdjad.LocksCode
