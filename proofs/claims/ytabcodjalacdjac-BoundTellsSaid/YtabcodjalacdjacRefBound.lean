
/- The document's bound: in, add, mul, May, Hold, Locks, Of. -/
import Derived.Test.YtabcodjalacdjacBoundOf
namespace Go.Proofs.Ytabcodjalacdjac.RefBound
open Go Go.RowKit Go.Proofs.Ytabcodjalacdjac.Obj Go.Proofs.Ytabcodjalacdjac.Row Go.Proofs.Ytabcodjalacdjac.BoundPure Go.Proofs.Ytabcodjalacdjac.BoundCode Go.Proofs.YtabcodjalacdjacW.PrintWords Go.Proofs.YtabcodjalacdjacW.PrintMore
set_option linter.unusedVariables false
set_option maxRecDepth 100000
theorem rin_at (n a b : Int) (w : World) : Calls Try.prog 26 #[.int .i64 n, .int .i64 a, .int .i64 b] w fun e w' => e = .returned (.bool (decide (a ≤ n ∧ n ≤ b))) ∧ w' = w := by
  generalize hd : decide (a ≤ n ∧ n ≤ b) = d
  have h : (a ≤ n ∧ n ≤ b ∧ d = true) ∨ (a ≤ n ∧ ¬ n ≤ b ∧ d = false) ∨ (¬ a ≤ n ∧ d = false) := by
    by_cases h1 : a ≤ n
    · by_cases h2 : n ≤ b
      · exact .inl ⟨h1, h2, by rw [← hd]; exact decide_eq_true ⟨h1, h2⟩⟩
      · exact .inr (.inl ⟨h1, h2, by rw [← hd]; exact decide_eq_false (fun h => h2 h.2)⟩)
    · exact .inr (.inr ⟨h1, by rw [← hd]; exact decide_eq_false (fun h => h1 h.1)⟩)
  clear hd
  rcases h with ⟨h1, h2, rfl⟩ | ⟨h1, h2, rfl⟩ | ⟨h1, rfl⟩
  all_goals
    go_enter Try.func26, Try.ntmps26
    go_wp2
    go_ret
    exact ⟨rfl, rfl⟩
theorem add_at (a b : Nat) (ha : a ≤ MB) (hb : b ≤ MB) (w : World) : Calls Try.prog 28 #[.int .u64 (a : Int), .int .u64 (b : Int)] w fun e w' => e = .returned (.int .u64 (satp a b : Int)) ∧ w' = w := by
  obtain ⟨v, hv⟩ : ∃ v : Nat, v = a + b := ⟨_, rfl⟩
  have hq : IntKind.u64.wrap ((a : Int) + (b : Int)) = (v : Int) := by
    unfold MB at ha hb
    rw [u64_nat (by omega) (by omega)]; omega
  by_cases h : MB < v
  · have hs : satp a b = MB := by unfold satp; omega
    have h' : (4611686018427387904 : Int) < (v : Int) := by unfold MB at h; omega
    have hsH := hid hs
    clear hs ha hb hv h
    go_enter Try.func28, Try.ntmps28
    go_wp2
    go_ret
    exact ⟨by rw [hsH.out]; rfl, rfl⟩
  · have hs : satp a b = v := by unfold satp; omega
    have h' : ¬ ((4611686018427387904 : Int) < (v : Int)) := by unfold MB at h; omega
    have hsH := hid hs
    clear hs ha hb hv h
    go_enter Try.func28, Try.ntmps28
    go_wp2
    go_ret
    exact ⟨by rw [hsH.out]; rfl, rfl⟩
theorem mul_at (a b : Nat) (ha : a ≤ MB) (hb : b ≤ MB) (w : World) : Calls Try.prog 29 #[.int .u64 (a : Int), .int .u64 (b : Int)] w fun e w' => e = .returned (.int .u64 (satt a b : Int)) ∧ w' = w := by
  have hc : satt a b = satt b a := by unfold satt; rw [Nat.mul_comm]
  have hdiv := satt_div (x := a) hb
  by_cases h0 : a = 0
  · have hs : satt a b = 0 := by unfold satt; rw [h0, Nat.zero_mul, Nat.zero_min]
    have hsH := hid hs
    subst h0
    clear hs ha hb hdiv hc
    go_enter Try.func29, Try.ntmps29
    go_wp2
    go_ret
    exact ⟨by rw [hsH.out]; rfl, rfl⟩
  · have hx0 : ((a : Int) != 0) = true := by rw [bne_iff_ne]; omega
    have hdq : (4611686018427387904 : Int) / (a : Int) = ((MB / a : Nat) : Int) := by unfold MB; simp
    by_cases hcmp : MB / a < b
    · have hs : satt a b = MB := by rw [hc, ← hdiv, if_pos ⟨h0, hcmp⟩]
      have hcc : (4611686018427387904 : Int) / (a : Int) < (b : Int) := by rw [hdq]; exact Int.ofNat_lt.2 hcmp
      have hsH := hid hs
      clear hs ha hb hdiv hc hdq hcmp
      go_enter Try.func29, Try.ntmps29
      go_wp2
      go_ret
      exact ⟨by rw [hsH.out]; rfl, rfl⟩
    · have hs : satt a b = b * a := by rw [hc, ← hdiv, if_neg (fun h => hcmp h.2)]
      have hcc : ¬ ((4611686018427387904 : Int) / (a : Int) < (b : Int)) := by rw [hdq]; exact fun h => hcmp (Int.ofNat_lt.1 h)
      have hw : IntKind.u64.wrap ((a : Int) * (b : Int)) = ((satt a b : Nat) : Int) := by
        have h1 := satt_le a b
        rw [hs] at h1 ⊢
        unfold MB at h1
        rw [Int.mul_comm, ← Int.natCast_mul]
        generalize b * a = t at *
        rw [u64_nat (by omega) (by omega)]
      clear hs ha hb hdiv hc hdq hcmp
      go_enter Try.func29, Try.ntmps29
      go_wp2
      go_ret
      exact ⟨rfl, rfl⟩
theorem rhold_at (z : Sz) (hz : May z) (w : World) : Calls Try.prog 19 #[sv z] w fun e w' => e = .returned (.int .u64 (holdV z : Int)) ∧ w' = w.alloc (.cells #[.int .i64 z.W, .int .i64 z.P, .int .i64 z.T, .int .i64 z.C, .int .i64 z.N, .int .i64 z.Q] 23) := by
  have hH := hold_lt hz
  have h0 : (holdV z : Int) = 8 * z.T * z.N + 8 * z.N + 40 := by unfold holdV; omega
  have hN : 1 ≤ z.N ∧ z.N ≤ 6 := hz.2.2.2.2.1
  have hT : 1 ≤ z.T ∧ z.T ≤ 32 := hz.2.2.1
  have hp : 0 ≤ 8 * z.T * z.N := Int.mul_nonneg (by omega) (by omega)
  have q1 : IntKind.i64.wrap (8 * z.T) = 8 * z.T := IntWalk.i64_in _ (by omega)
  have q2 : IntKind.i64.wrap (8 * z.T * z.N) = 8 * z.T * z.N := IntWalk.i64_in _ (by omega)
  have q3 : IntKind.i64.wrap (8 * z.N) = 8 * z.N := IntWalk.i64_in _ (by omega)
  have q4 : IntKind.i64.wrap (8 * z.T * z.N + 8 * z.N) = 8 * z.T * z.N + 8 * z.N := IntWalk.i64_in _ (by omega)
  have q5 : IntKind.i64.wrap (8 * z.T * z.N + 8 * z.N + 40) = 8 * z.T * z.N + 8 * z.N + 40 := IntWalk.i64_in _ (by omega)
  have q6 : IntKind.u64.wrap (8 * z.T * z.N + 8 * z.N + 40) = (holdV z : Int) := by rw [h0]; exact u64_nat (by omega) (by omega)
  clear hH h0 hp hN hT
  go_enter Try.func19, Try.ntmps19
  go_wp2
  go_ret
  exact ⟨rfl, rfl⟩
set_option maxHeartbeats 4000000 in
theorem may_r (z : Sz) (w : World) (res : Bool) (hyes : May z → true = res) (hno : ¬ May z → false = res) : Calls Try.prog 16 #[sv z] w fun e w' => e = .returned (.bool res) ∧ Below w.heap.size w w' := by
  have hb : Below w.heap.size w (w.alloc (.cells #[.int .i64 z.W, .int .i64 z.P, .int .i64 z.T, .int .i64 z.C, .int .i64 z.N, .int .i64 z.Q] 23)) := (Below.refl _ _).alloc (Nat.le_refl _) _
  go_enter Try.func16, Try.ntmps16
  go_wp2_with (fail)
  refine (rin_at z.W 1 1024 _).mono ?_
  rintro e w1 ⟨rfl, rfl⟩
  by_cases n0 : ¬ (1 ≤ z.W ∧ z.W ≤ 1024)
  · rw [decide_eq_false n0]
    have nm := hid (hno (fun h => n0 h.1))
    clear hyes hno n0
    go_wp2_with (fail)
    go_ret
    exact ⟨by rw [← nm.out]; rfl, hb⟩
  have c0 := hid (Decidable.not_not.1 n0)
  rw [decide_eq_true c0.out]
  clear n0
  go_wp2_with (fail)
  refine (rin_at z.P 1 255 _).mono ?_
  rintro e w1 ⟨rfl, rfl⟩
  by_cases n1 : ¬ (1 ≤ z.P ∧ z.P ≤ 255)
  · rw [decide_eq_false n1]
    have nm := hid (hno (fun h => n1 ⟨h.2.1.1, by have := h.2.1.2; omega⟩))
    clear hyes hno n1
    go_wp2_with (fail)
    go_ret
    exact ⟨by rw [← nm.out]; rfl, hb⟩
  have c1 := hid (Decidable.not_not.1 n1)
  rw [decide_eq_true c1.out]
  clear n1
  by_cases n2 : ¬ (z.P ≤ z.W)
  · have nm := hid (hno (fun h => n2 (by have := h.2.1.2; omega)))
    clear hyes hno
    go_wp2_with (fail)
    go_ret
    exact ⟨by rw [← nm.out]; rfl, hb⟩
  have c2 := Decidable.not_not.1 n2
  clear n2
  go_wp2_with (fail)
  refine (rin_at z.T 1 32 _).mono ?_
  rintro e w1 ⟨rfl, rfl⟩
  by_cases n3 : ¬ (1 ≤ z.T ∧ z.T ≤ 32)
  · rw [decide_eq_false n3]
    have nm := hid (hno (fun h => n3 h.2.2.1))
    clear hyes hno n3
    go_wp2_with (fail)
    go_ret
    exact ⟨by rw [← nm.out]; rfl, hb⟩
  have c3 := hid (Decidable.not_not.1 n3)
  rw [decide_eq_true c3.out]
  clear n3
  go_wp2_with (fail)
  refine (rin_at z.C 0 6 _).mono ?_
  rintro e w1 ⟨rfl, rfl⟩
  by_cases n4 : ¬ (0 ≤ z.C ∧ z.C ≤ 6)
  · rw [decide_eq_false n4]
    have nm := hid (hno (fun h => n4 h.2.2.2.1))
    clear hyes hno n4
    go_wp2_with (fail)
    go_ret
    exact ⟨by rw [← nm.out]; rfl, hb⟩
  have c4 := hid (Decidable.not_not.1 n4)
  rw [decide_eq_true c4.out]
  clear n4
  go_wp2_with (fail)
  refine (rin_at z.N 1 6 _).mono ?_
  rintro e w1 ⟨rfl, rfl⟩
  by_cases n5 : ¬ (1 ≤ z.N ∧ z.N ≤ 6)
  · rw [decide_eq_false n5]
    have nm := hid (hno (fun h => n5 h.2.2.2.2.1))
    clear hyes hno n5
    go_wp2_with (fail)
    go_ret
    exact ⟨by rw [← nm.out]; rfl, hb⟩
  have c5 := hid (Decidable.not_not.1 n5)
  rw [decide_eq_true c5.out]
  clear n5
  go_wp2_with (fail)
  refine (rin_at z.Q 1 1000 _).mono ?_
  rintro e w1 ⟨rfl, rfl⟩
  by_cases n6 : ¬ (1 ≤ z.Q ∧ z.Q ≤ 1000)
  · rw [decide_eq_false n6]
    have nm := hid (hno (fun h => n6 h.2.2.2.2.2))
    clear hyes hno n6
    go_wp2_with (fail)
    go_ret
    exact ⟨by rw [← nm.out]; rfl, hb⟩
  have c6 := hid (Decidable.not_not.1 n6)
  rw [decide_eq_true c6.out]
  clear n6
  go_wp2_with (fail)
  go_ret
  exact ⟨by rw [← hyes ⟨c0.out, ⟨c1.out.1, by have := c1.out.2; omega⟩, c3.out, c4.out, c5.out, c6.out⟩]; rfl, hb⟩
theorem rmay_at (z : Sz) (w : World) : Calls Try.prog 16 #[sv z] w fun e w' => e = .returned (.bool (decide (May z))) ∧ Below w.heap.size w w' :=
  may_r z w _ (fun h => (decide_eq_true h).symm) (fun h => (decide_eq_false h).symm)
end Go.Proofs.Ytabcodjalacdjac.RefBound
