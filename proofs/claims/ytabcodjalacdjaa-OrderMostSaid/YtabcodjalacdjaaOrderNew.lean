
/- order.New; set.Has. -/
import Derived.Test.YtabcodjalacdjaaOrder
import Derived.Laws.BitsLemmas
namespace Go.Proofs.Ytabcodjalacdjaa.OrderCode
open Go Go.RowKit Go.Proofs.Ytabcodjalacdjaa.Obj Go.Proofs.Ytabcodjalacdjaa.Row Go.Proofs.YtabcodjalacdjaaW.PrintWords Go.Proofs.YtabcodjalacdjaaW.PrintMore
set_option linter.unusedVariables false
set_option maxRecDepth 100000
def upTo (i : Nat) : List Int := (List.range i).map (fun n : Nat => (n : Int))
theorem upTo_succ (i : Nat) : upTo (i + 1) = upTo i ++ [(i : Int)] := by simp [upTo, List.range_succ]
theorem upTo_len (i : Nat) : (upTo i).length = i := by simp [upTo]
theorem new_out (k : Int) (w : World) (h : k < 1 ∨ k > 6) : Calls Try.prog 7 #[.int .i64 k] w fun e w' => e = .returned (.tuple #[.pointer none, .int .i64 2]) ∧ w' = w := by
  rcases h with h | h
  · go_enter Try.func7, Try.ntmps7
    go_wp2
    go_ret2
    exact ⟨rfl, rfl⟩
  · have h1 : ¬ (k < 1) := by omega
    go_enter Try.func7, Try.ntmps7
    go_wp2
    go_ret2
    exact ⟨rfl, rfl⟩
/-- Under way. -/
structure Mk (w' : World) (o n i : Nat) : Prop where
  row : Blk w' o 60 (nums .i64 (upTo i ++ List.replicate (6 - i) 0) ++ [.int .i64 (n : Int)])
set_option maxHeartbeats 1000000 in
theorem new_at (n : Nat) (h1 : 1 ≤ n) (h2 : n ≤ 6) (w : World) : Calls Try.prog 7 #[.int .i64 (n : Int)] w fun e w' => e = .returned (.tuple #[.pointer (some ⟨w.heap.size,0,none⟩), .int .i64 0]) ∧ Below w.heap.size w w' ∧ OrdAt w' w.heap.size (upTo n) := by
  have a1 : ¬ ((n : Int) < 1) := by omega
  have a2 : ¬ ((6 : Int) < (n : Int)) := by omega
  go_enter Try.func7, Try.ntmps7
  go_wp2
  go_loopg [5, 16] n (fun kq v5 v16 w' => ∃ i : Nat, kq + i = n ∧ v16 = .int .i64 (i : Int) ∧ Below w.heap.size w w' ∧ Mk w' w.heap.size n i)
  case atStart =>
    refine ⟨0, rfl, rfl, (Below.refl _ _).alloc (Nat.le_refl _) _, ⟨?_⟩⟩
    exact Blk.new w 60 [.int .i64 0, .int .i64 0, .int .i64 0, .int .i64 0, .int .i64 0, .int .i64 0, .int .i64 (n : Int)]
  case round =>
    obtain ⟨i, hi, rfl, hb, hM⟩ := hrel
    cases gk with
    | zero =>
      have hin : ¬ ((i : Int) < (n : Int)) := by omega
      obtain rfl : i = n := by omega
      go_wp2
      go_ret2
      exact ⟨rfl, hb, ⟨List.replicate (6 - i) 0, by rw [upTo_len, List.length_replicate]; omega, by rw [upTo_len]; exact hM.row⟩⟩
    | succ k1 =>
      have hin : ((i : Int) < (n : Int)) := by omega
      have hi6 : (i : Int) < 6 := by omega
      have hB := hM.row
      have hq := hB.lt
      have hz := hB.frozen
      obtain ⟨y, hy⟩ : ∃ y, wr.cell? ⟨w.heap.size, i, none⟩ = some y := ⟨_, (hB.cell i).trans (List.getElem?_eq_getElem (by simp [nums, upTo]))⟩
      go_wp2
      go_roundg k1
      case measure => omega
      case rel =>
        refine ⟨i + 1, by omega, by first | rfl | go_num, hb.setCell (Nat.le_refl _) _, ⟨?_⟩⟩
        have := hB.set i (.int .i64 (i : Int))
        rw [show 6 - i = (6 - (i + 1)) + 1 by omega, List.replicate_succ] at this
        have e : (nums .i64 (upTo i ++ (0 :: List.replicate (6 - (i + 1)) 0)) ++ [Value.int .i64 (n : Int)]).set i (.int .i64 (i : Int)) = nums .i64 (upTo (i + 1) ++ List.replicate (6 - (i + 1)) 0) ++ [Value.int .i64 (n : Int)] := by
          rw [upTo_succ]
          have hl : (List.map (Value.int .i64) (upTo i)).length = i := by rw [List.length_map, upTo_len]
          simp only [nums, List.map_append, List.map_cons, List.append_assoc, List.cons_append, List.nil_append]
          rw [List.set_append_right _ _ (by rw [hl]; exact Nat.le_refl _), hl, Nat.sub_self]
          rfl
        rw [e] at this
        exact this
theorem bit_at (k : Nat) (hk : k < 6) (w : World) : Calls Try.prog 41 #[.int .i64 (k : Int)] w fun e w' => e = .returned (.int .u64 ((2 ^ k : Nat) : Int)) ∧ w' = w := by
  have hc : k = 0 ∨ k = 1 ∨ k = 2 ∨ k = 3 ∨ k = 4 ∨ k = 5 := by omega
  rcases hc with rfl | rfl | rfl | rfl | rfl | rfl
  all_goals (
    go_enter Try.func41, Try.ntmps41
    go_wp2
    go_ret
    exact ⟨rfl, rfl⟩)
theorem u64_id : ∀ n : Int, 0 ≤ n → n < 2 ^ 64 → IntKind.u64.wrap n = n := by
  intro n h0 h1
  have e : IntKind.u64.wrap n = n % 18446744073709551616 := by simp [IntKind.wrap, IntKind.bits, IntKind.signed]
  rw [e]; omega
theorem and_bit (s : Nat) (hs : s < 2 ^ 64) (k : Nat) (hk : k < 64) : (bits .and .u64 (s : Int) ((2 ^ k : Nat) : Int) != 0) = s.testBit k := by
  rw [(bits_nat .u64 64 (by decide) u64_id s (2 ^ k) hs (Nat.pow_lt_pow_right (by decide) hk)).1]
  have h : s &&& 2 ^ k = if s.testBit k then 2 ^ k else 0 := by
    apply Nat.eq_of_testBit_eq
    intro i
    rw [Nat.testBit_and, Nat.testBit_two_pow]
    by_cases e : k = i
    · subst e
      cases hb : s.testBit k <;> simp
    · cases hb : s.testBit k
      · simp [e]
      · simp [e]
  rw [h]
  have hp : (2 : Nat) ^ k ≠ 0 := Nat.ne_of_gt (Nat.two_pow_pos k)
  cases hb : s.testBit k
  · simp
  · rw [bne_iff_ne]
    simp only [if_true]
    omega
theorem has_at (s : Nat) (hs : s < 2 ^ 64) (k : Nat) (hk : k < 6) (w : World) : Calls Try.prog 35 #[.int .u64 (s : Int), .int .i64 (k : Int)] w fun e w' => e = .returned (.bool (s.testBit k)) ∧ w' = w := by
  have hB := bit_at k hk w
  go_enter Try.func35, Try.ntmps35
  go_wp2_with (fail)
  refine hB.mono ?_
  rintro e w1 ⟨rfl, rfl⟩
  go_wp2_with (fail)
  go_ret
  have e : ((2 : Int) ^ k) = ((2 ^ k : Nat) : Int) := by simp
  exact ⟨by rw [e, and_bit s hs k (by omega)]; rfl, rfl⟩
end Go.Proofs.Ytabcodjalacdjaa.OrderCode
