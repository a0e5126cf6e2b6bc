
/- law 21's locks, of nothing: nil. -/
import Derived.Test.YtabcodjalacdjabGuardLocks
namespace Go.Proofs.Ytabcodjalacdjab.GuardLocks
open Go Go.RowKit Go.Proofs.Ytabcodjalacdjab.Obj Go.Proofs.Ytabcodjalacdjab.Row Go.Proofs.YtabcodjalacdjabW.PrintWords Go.Proofs.YtabcodjalacdjabW.PrintMore
set_option linter.unusedVariables false
set_option maxRecDepth 100000
theorem none_on {b : Nat} (h : locksL b 6 = []) {i : Nat} (hi : i < 6) : isB b i = false := by
  cases e : isB b i with
  | false => rfl
  | true =>
    have : (i : Int) ∈ locksL b 6 := by
      unfold locksL
      simp only [List.mem_map, List.mem_filter, List.mem_range]
      exact ⟨i, ⟨hi, e⟩, rfl⟩
    rw [h] at this
    cases this
set_option maxHeartbeats 2000000 in
theorem locks_none (b : Nat) (hb8 : b < 256) (h0 : locksL b 6 = []) (w : World) : Calls Try.prog 10 #[.int .u8 (b : Int)] w fun e w' => e = .returned (.slice none 0 0) ∧ Below w.heap.size w w' := by
  go_enter Try.func10, Try.ntmps10
  go_wp2_with (fail)
  go_loopg [3, 4] 6 (fun kq v3 v4 w' => ∃ i : Nat, kq + i = 6 ∧ v3 = .slice none 0 0 ∧ v4 = .int .i64 (i : Int) ∧ Below w.heap.size w w')
  case atStart => exact ⟨0, rfl, rfl, rfl, Below.refl _ _⟩
  case round =>
    obtain ⟨i, hi, rfl, rfl, hb⟩ := hrel
    cases gk with
    | zero =>
      have hin : ¬ ((i : Int) < 6) := by omega
      obtain rfl : i = 6 := by omega
      go_wp2_with (fail)
      go_ret
      exact ⟨rfl, hb⟩
    | succ k1 =>
      have hin : ((i : Int) < 6) := by omega
      have hq := bit_eq b i
      rw [none_on h0 (show i < 6 by omega)] at hq
      clear h0
      go_wp2_with (fail)
      go_roundg k1
      case measure => omega
      case rel => exact ⟨i + 1, by omega, rfl, by first | rfl | (congr 1; omega), hb⟩
end Go.Proofs.Ytabcodjalacdjab.GuardLocks
