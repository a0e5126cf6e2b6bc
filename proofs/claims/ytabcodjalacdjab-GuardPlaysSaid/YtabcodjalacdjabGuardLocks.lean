
/- guard's law: locks. -/
import Derived.Test.YtabcodjalacdjabRow
import Derived.Test.YtabcodjalacdjabIter
import Derived.BigQuiet
namespace Go.Proofs.Ytabcodjalacdjab.GuardLocks
open Go Go.RowKit Go.Proofs.Ytabcodjalacdjab.Obj Go.Proofs.Ytabcodjalacdjab.Row Go.Proofs.YtabcodjalacdjabW.PrintWords Go.Proofs.YtabcodjalacdjabW.PrintMore
set_option linter.unusedVariables false
set_option maxRecDepth 100000
/-- The locks whose bits are on, of the first k. -/
def isB (b : Nat) (j : Nat) : Bool := b >>> j % 2 == 1
def locksL (b k : Nat) : List Int := ((List.range k).filter (isB b)).map (fun n : Nat => (n : Int))
theorem locks_yes {b k : Nat} (h : isB b k = true) : locksL b (k + 1) = locksL b k ++ [(k : Int)] := by simp [locksL, List.range_succ, List.filter_append, h]
theorem locks_no {b k : Nat} (h : isB b k = false) : locksL b (k + 1) = locksL b k := by simp [locksL, List.range_succ, List.filter_append, h]
theorem locks_len (b k : Nat) : (locksL b k).length ≤ k := by
  rw [locksL, List.length_map]
  exact Nat.le_trans (List.length_filter_le _ _) (by rw [List.length_range]; exact Nat.le_refl _)
theorem nums_app (L : List Int) (x : Int) : nums .i64 (L ++ [x]) = nums .i64 L ++ [.int .i64 x] := by simp [nums]
theorem info3 : (Try.prog.info? 3).map (fun i => (i.zero, i.size, i.bytes)) = some (some (.int .i64 0), 1, 8) := by kernel_rfl

theorem bit_eq (b i : Nat) : ((((b : Int) / 2 ^ i).tmod 2) == 1) = isB b i := by
  have e1 : ((b : Int) / 2 ^ i) = ((b / 2 ^ i : Nat) : Int) := by simp
  rw [e1, isB, Nat.shiftRight_eq_div_pow]
  generalize b / 2 ^ i = q
  rw [Bool.eq_iff_iff, beq_iff_eq, beq_iff_eq, Int.tmod_eq_emod_of_nonneg (by omega)]
  omega
set_option maxHeartbeats 2000000 in
theorem locks_at (b : Nat) (hb8 : b < 256) (w : World) : Calls Try.prog 10 #[.int .u8 (b : Int)] w fun e w' => ∃ v, e = .returned v ∧ w'.ownsRow w.heap.size 3 1 v (locksL b 6).length (nums .i64 (locksL b 6)) ∧ Below w.heap.size w w' := by
  go_enter Try.func10, Try.ntmps10
  go_wp2_with (fail)
  go_loopg [3, 4] 6 (fun kq v3 v4 w' => ∃ i : Nat, kq + i = 6 ∧ v4 = .int .i64 (i : Int) ∧ w'.ownsRow w.heap.size 3 1 v3 (locksL b i).length (nums .i64 (locksL b i)) ∧ Below w.heap.size w w')
  case atStart => exact ⟨0, rfl, rfl, own_nil _ _ _ _, Below.refl _ _⟩
  case round =>
    obtain ⟨i, hi, rfl, ho, hb⟩ := hrel
    obtain ⟨A0, c0, rfl⟩ := own_form ho
    cases gk with
    | zero =>
      have hin : ¬ ((i : Int) < 6) := by omega
      obtain rfl : i = 6 := by omega
      go_wp2_with (fail)
      go_ret
      exact ⟨_, rfl, ho, hb⟩
    | succ k1 =>
      have hin : ((i : Int) < 6) := by omega
      have hq := bit_eq b i
      have hlen := locks_len b i
      have hnl : (nums .i64 (locksL b i)).length = (locksL b i).length := by simp [nums]
      have hs := hb.size
      cases hyb : isB b i with
      | true =>
        rw [hyb] at hq
        have hyes := hid (locks_yes hyb)
        clear hyb
        go_wp2_with (first | ((with_reducible refine gate_builtin (b := .append) (xs := #[.tmp 15, .tmp 17]) rfl ?_); at_builtin; go_loud (refine print_append (w0 := w) w.heap.size rfl (.tmp 15) (.tmp 17) 34 3 (.int .i64 0) 8 rfl Try.underlying34 info3 rfl (by decide) _ (nums .i64 (locksL b i)) (.int .i64 (i : Int)) rfl rfl rfl (by rw [hnl]; exact ho) hb hs (by rw [hnl]; omega) ?_); intro v1 w1 ho1 hb1 hgr hat))
        go_roundg k1
        case measure => omega
        case rel =>
          refine ⟨i + 1, by omega, by first | rfl | (congr 1; omega), ?_, hb1⟩
          have e : (nums .i64 (locksL b i) ++ [Value.int .i64 (i : Int)]).length = (locksL b i ++ [(i : Int)]).length := by simp [nums]
          rw [e] at ho1
          rw [hyes.out, nums_app]
          exact ho1
      | false =>
        rw [hyb] at hq
        have hno := hid (locks_no hyb)
        clear hyb
        go_wp2_with (fail)
        go_roundg k1
        case measure => omega
        case rel => exact ⟨i + 1, by omega, by first | rfl | (congr 1; omega), by rw [hno.out]; exact ho, hb⟩
end Go.Proofs.Ytabcodjalacdjab.GuardLocks
