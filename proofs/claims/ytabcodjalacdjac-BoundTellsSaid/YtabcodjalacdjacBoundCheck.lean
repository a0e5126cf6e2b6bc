
/- bound: Check. -/
import Derived.Test.YtabcodjalacdjacBoundPure
import Derived.Test.YtabcodjalacdjacRow
import Derived.Test.YtabcodjalacdjacProg
import Derived.WalkKit
import Derived.KernelRfl
import Derived.Deep.QuietTactic
import Derived.Lib.Hide
import Derived.StillTailTactics
import Derived.Deep.RegionHeld3
import Derived.BigQuiet
namespace Go.Proofs.Ytabcodjalacdjac.BoundCode
open Go Go.RowKit Go.Proofs.Ytabcodjalacdjac.Obj Go.Proofs.Ytabcodjalacdjac.Row Go.Proofs.Ytabcodjalacdjac.BoundPure Go.Proofs.YtabcodjalacdjacW.PrintWords Go.Proofs.YtabcodjalacdjacW.PrintMore
set_option linter.unusedVariables false
set_option maxRecDepth 100000
abbrev sv (z : Sz) : Value := .agg #[.int .i64 z.W, .int .i64 z.P, .int .i64 z.T, .int .i64 z.C, .int .i64 z.N, .int .i64 z.Q]
theorem in_at (n a b : Int) (w : World) : Calls Try.prog 27 #[.int .i64 n, .int .i64 a, .int .i64 b] w fun e w' => e = .returned (.bool (decide (a ≤ n ∧ n ≤ b))) ∧ w' = w := by
  generalize hd : decide (a ≤ n ∧ n ≤ b) = d
  have h : (a ≤ n ∧ n ≤ b ∧ d = true) ∨ (a ≤ n ∧ ¬ n ≤ b ∧ d = false) ∨ (¬ a ≤ n ∧ d = false) := by
    by_cases h1 : a ≤ n
    · by_cases h2 : n ≤ b
      · exact .inl ⟨h1, h2, by rw [← hd]; exact decide_eq_true ⟨h1, h2⟩⟩
      · exact .inr (.inl ⟨h1, h2, by rw [← hd]; exact decide_eq_false (fun h => h2 h.2)⟩)
    · exact .inr (.inr ⟨h1, by rw [← hd]; exact decide_eq_false (fun h => h1 h.1)⟩)
  clear hd
  rcases h with ⟨h1, h2, rfl⟩ | ⟨h1, h2, rfl⟩ | ⟨h1, rfl⟩
  all_goals
    go_enter Try.func27, Try.ntmps27
    go_wp2
    go_ret
    exact ⟨rfl, rfl⟩
set_option maxHeartbeats 4000000 in
theorem check_m (z : Sz) (w : World) (m : Int) (hm : (m = z.W ∧ z.W < 255) ∨ (m = 255 ∧ ¬ z.W < 255)) (res : Int) (hyes : May z → (0 : Int) = res) (hno : ¬ May z → (2 : Int) = res) : Calls Try.prog 17 #[sv z] w fun e w' => e = .returned (.int .i64 res) ∧ Below w.heap.size w w' := by
  have hb : Below w.heap.size w (w.alloc (.cells #[.int .i64 z.W, .int .i64 z.P, .int .i64 z.T, .int .i64 z.C, .int .i64 z.N, .int .i64 z.Q] 23)) := (Below.refl _ _).alloc (Nat.le_refl _) _
  have hmin : min 255 z.W = m := by omega
  rcases hm with ⟨rfl, hw⟩ | ⟨rfl, hw⟩
  · go_enter Try.func17, Try.ntmps17
    go_wp2_with (fail)
    refine (in_at z.W 1 1024 _).mono ?_
    rintro e w1 ⟨rfl, rfl⟩
    by_cases n0 : ¬ (1 ≤ z.W ∧ z.W ≤ 1024)
    · rw [decide_eq_false n0]
      have nm := hid (hno (fun h => n0 h.1))
      clear hyes hno n0 hmin
      go_wp2_with (fail)
      go_ret
      exact ⟨by rw [← nm.out]; rfl, hb⟩
    have c0 := hid (Decidable.not_not.1 n0)
    rw [decide_eq_true c0.out]
    clear n0
    go_wp2_with (fail)
    refine (in_at z.P 1 z.W _).mono ?_
    rintro e w1 ⟨rfl, rfl⟩
    by_cases n1 : ¬ (1 ≤ z.P ∧ z.P ≤ z.W)
    · rw [decide_eq_false n1]
      have nm := hid (hno (fun h => n1 ⟨h.2.1.1, by have := h.2.1.2; omega⟩))
      clear hyes hno n1 hmin
      go_wp2_with (fail)
      go_ret
      exact ⟨by rw [← nm.out]; rfl, hb⟩
    have c1 := hid (Decidable.not_not.1 n1)
    rw [decide_eq_true c1.out]
    clear n1
    go_wp2_with (fail)
    refine (in_at z.T 1 32 _).mono ?_
    rintro e w1 ⟨rfl, rfl⟩
    by_cases n2 : ¬ (1 ≤ z.T ∧ z.T ≤ 32)
    · rw [decide_eq_false n2]
      have nm := hid (hno (fun h => n2 h.2.2.1))
      clear hyes hno n2 hmin
      go_wp2_with (fail)
      go_ret
      exact ⟨by rw [← nm.out]; rfl, hb⟩
    have c2 := hid (Decidable.not_not.1 n2)
    rw [decide_eq_true c2.out]
    clear n2
    go_wp2_with (fail)
    refine (in_at z.C 0 6 _).mono ?_
    rintro e w1 ⟨rfl, rfl⟩
    by_cases n3 : ¬ (0 ≤ z.C ∧ z.C ≤ 6)
    · rw [decide_eq_false n3]
      have nm := hid (hno (fun h => n3 h.2.2.2.1))
      clear hyes hno n3 hmin
      go_wp2_with (fail)
      go_ret
      exact ⟨by rw [← nm.out]; rfl, hb⟩
    have c3 := hid (Decidable.not_not.1 n3)
    rw [decide_eq_true c3.out]
    clear n3
    go_wp2_with (fail)
    refine (in_at z.N 1 6 _).mono ?_
    rintro e w1 ⟨rfl, rfl⟩
    by_cases n4 : ¬ (1 ≤ z.N ∧ z.N ≤ 6)
    · rw [decide_eq_false n4]
      have nm := hid (hno (fun h => n4 h.2.2.2.2.1))
      clear hyes hno n4 hmin
      go_wp2_with (fail)
      go_ret
      exact ⟨by rw [← nm.out]; rfl, hb⟩
    have c4 := hid (Decidable.not_not.1 n4)
    rw [decide_eq_true c4.out]
    clear n4
    go_wp2_with (fail)
    refine (in_at z.Q 1 1000 _).mono ?_
    rintro e w1 ⟨rfl, rfl⟩
    by_cases n5 : ¬ (1 ≤ z.Q ∧ z.Q ≤ 1000)
    · rw [decide_eq_false n5]
      have nm := hid (hno (fun h => n5 h.2.2.2.2.2))
      clear hyes hno n5 hmin
      go_wp2_with (fail)
      go_ret
      exact ⟨by rw [← nm.out]; rfl, hb⟩
    have c5 := hid (Decidable.not_not.1 n5)
    rw [decide_eq_true c5.out]
    clear n5
    go_wp2_with (fail)
    go_ret
    exact ⟨by rw [← hyes ⟨c0.out, ⟨c1.out.1, by have := c1.out.2; omega⟩, c2.out, c3.out, c4.out, c5.out⟩]; rfl, hb⟩
  · go_enter Try.func17, Try.ntmps17
    go_wp2_with (fail)
    refine (in_at z.W 1 1024 _).mono ?_
    rintro e w1 ⟨rfl, rfl⟩
    by_cases n0 : ¬ (1 ≤ z.W ∧ z.W ≤ 1024)
    · rw [decide_eq_false n0]
      have nm := hid (hno (fun h => n0 h.1))
      clear hyes hno n0 hmin
      go_wp2_with (fail)
      go_ret
      exact ⟨by rw [← nm.out]; rfl, hb⟩
    have c0 := hid (Decidable.not_not.1 n0)
    rw [decide_eq_true c0.out]
    clear n0
    go_wp2_with (fail)
    refine (in_at z.P 1 255 _).mono ?_
    rintro e w1 ⟨rfl, rfl⟩
    by_cases n1 : ¬ (1 ≤ z.P ∧ z.P ≤ 255)
    · rw [decide_eq_false n1]
      have nm := hid (hno (fun h => n1 ⟨h.2.1.1, by have := h.2.1.2; omega⟩))
      clear hyes hno n1 hmin
      go_wp2_with (fail)
      go_ret
      exact ⟨by rw [← nm.out]; rfl, hb⟩
    have c1 := hid (Decidable.not_not.1 n1)
    rw [decide_eq_true c1.out]
    clear n1
    go_wp2_with (fail)
    refine (in_at z.T 1 32 _).mono ?_
    rintro e w1 ⟨rfl, rfl⟩
    by_cases n2 : ¬ (1 ≤ z.T ∧ z.T ≤ 32)
    · rw [decide_eq_false n2]
      have nm := hid (hno (fun h => n2 h.2.2.1))
      clear hyes hno n2 hmin
      go_wp2_with (fail)
      go_ret
      exact ⟨by rw [← nm.out]; rfl, hb⟩
    have c2 := hid (Decidable.not_not.1 n2)
    rw [decide_eq_true c2.out]
    clear n2
    go_wp2_with (fail)
    refine (in_at z.C 0 6 _).mono ?_
    rintro e w1 ⟨rfl, rfl⟩
    by_cases n3 : ¬ (0 ≤ z.C ∧ z.C ≤ 6)
    · rw [decide_eq_false n3]
      have nm := hid (hno (fun h => n3 h.2.2.2.1))
      clear hyes hno n3 hmin
      go_wp2_with (fail)
      go_ret
      exact ⟨by rw [← nm.out]; rfl, hb⟩
    have c3 := hid (Decidable.not_not.1 n3)
    rw [decide_eq_true c3.out]
    clear n3
    go_wp2_with (fail)
    refine (in_at z.N 1 6 _).mono ?_
    rintro e w1 ⟨rfl, rfl⟩
    by_cases n4 : ¬ (1 ≤ z.N ∧ z.N ≤ 6)
    · rw [decide_eq_false n4]
      have nm := hid (hno (fun h => n4 h.2.2.2.2.1))
      clear hyes hno n4 hmin
      go_wp2_with (fail)
      go_ret
      exact ⟨by rw [← nm.out]; rfl, hb⟩
    have c4 := hid (Decidable.not_not.1 n4)
    rw [decide_eq_true c4.out]
    clear n4
    go_wp2_with (fail)
    refine (in_at z.Q 1 1000 _).mono ?_
    rintro e w1 ⟨rfl, rfl⟩
    by_cases n5 : ¬ (1 ≤ z.Q ∧ z.Q ≤ 1000)
    · rw [decide_eq_false n5]
      have nm := hid (hno (fun h => n5 h.2.2.2.2.2))
      clear hyes hno n5 hmin
      go_wp2_with (fail)
      go_ret
      exact ⟨by rw [← nm.out]; rfl, hb⟩
    have c5 := hid (Decidable.not_not.1 n5)
    rw [decide_eq_true c5.out]
    clear n5
    go_wp2_with (fail)
    go_ret
    exact ⟨by rw [← hyes ⟨c0.out, ⟨c1.out.1, by have := c1.out.2; omega⟩, c2.out, c3.out, c4.out, c5.out⟩]; rfl, hb⟩
theorem check_at (z : Sz) (w : World) : Calls Try.prog 17 #[sv z] w fun e w' => e = .returned (.int .i64 (if May z then 0 else 2)) ∧ Below w.heap.size w w' :=
  check_m z w (min 255 z.W) (by by_cases h : z.W < 255 <;> omega) _ (fun h => by rw [if_pos h]) (fun h => by rw [if_neg h])
end Go.Proofs.Ytabcodjalacdjac.BoundCode
