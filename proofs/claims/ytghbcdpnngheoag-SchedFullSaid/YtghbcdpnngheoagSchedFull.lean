
/- The walk of SchedFull. -/
import Derived.Test.YtghbcdpnngheoagSchedAlive
namespace Go.Proofs.Ytghbcdpnngheoag.SchedFull
open Go Go.RowKit Go.Proofs.Ytghbcdpnngheoag.Obj Go.Proofs.Ytghbcdpnngheoag.SchedCode
set_option linter.unusedVariables false
set_option maxRecDepth 100000
def first (i : Nat) : List Int := (List.range i).map (fun j : Nat => (j : Int))
def rot (n i : Nat) : List Int := (List.range n).map (fun j : Nat => (((i + j) % n : Nat) : Int))
theorem first_succ (i : Nat) : first (i + 1) = first i ++ [(i : Int)] := by simp [first, List.range_succ]
theorem rot_zero (n : Nat) : rot n 0 = first n := by
  unfold rot first
  refine List.map_congr_left (fun j hj => ?_)
  rw [Nat.zero_add, Nat.mod_eq_of_lt (List.mem_range.1 hj)]
theorem rot_cons (n i : Nat) (hn : 0 < n) : ∃ r, rot n i = ((i % n : Nat) : Int) :: r ∧ rot n (i + 1) = r ++ [((i % n : Nat) : Int)] := by
  obtain ⟨m, rfl⟩ : ∃ m, n = m + 1 := ⟨n - 1, by omega⟩
  refine ⟨(List.range m).map (fun j : Nat => (((i + (j + 1)) % (m + 1) : Nat) : Int)), ?_, ?_⟩
  · unfold rot
    rw [List.range_succ_eq_map, List.map_cons, List.map_map]
    rfl
  · unfold rot
    rw [List.range_succ, List.map_append]
    congr 1
    · refine List.map_congr_left (fun j _ => ?_)
      rw [show i + 1 + j = i + (j + 1) by omega]
    · simp only [List.map_cons, List.map_nil]
      rw [show i + 1 + m = i + (m + 1) by omega, Nat.add_mod_right]
set_option maxHeartbeats 8000000 in
theorem full_walk (m : Int) (w : World) (hm : (Lit.int .u8 m).wf = true) : Calls Try.prog 6 #[.int .u8 m] w fun e w' => e = .returned (.bool true) ∧ Below w.heap.size w w' := by
  obtain ⟨hm0, hm1⟩ := u8_of hm
  go_enter Try.func6, Try.ntmps6
  go_wp2_with (fail)
  obtain ⟨n, hn⟩ : ∃ n : Nat, (1 + m % 32) = (n : Int) := ⟨(1 + m % 32).toNat, by omega⟩
  have hn1 : 1 ≤ n := by omega
  have hn2 : n ≤ 32 := by omega
  simp only [hn]
  clear hn hm
  refine (new_sched n w hn1 hn2).mono ?_
  rintro e w1 ⟨rfl, h0, hb0⟩
  have hs0 := h0.lt
  go_wp2_with (fail)
  go_loopg [6] n (fun kq v6 w' => ∃ i : Nat, kq + i = n ∧ v6 = .int .i64 (i : Int) ∧ Below w.heap.size w w' ∧ SchedAt w' (w.heap.size + 1) w.heap.size ⟨n, i, i, 0, first i⟩)
  case atStart => exact ⟨0, rfl, rfl, hb0, h0⟩
  case round =>
    clear h0 hb0 hs0
    obtain ⟨i, hi, rfl, hb, hS⟩ := hrel
    cases gk with
    | succ k1 =>
      have hin : ((i : Int) < (n : Int)) := by omega
      have hlt : i < n := by omega
      have HM := make_some hS hlt
      go_wp2_with (fail)
      refine HM.mono ?_
      rintro e w2 ⟨rfl, hS2, o2⟩
      have hb2 := up hb (Nat.le_refl _) o2 (fun k h => by omega)
      rw [← first_succ] at hS2
      clear HM hS hb o2
      go_wp2_with (fail)
      go_roundg k1
      case measure => omega
      case rel => exact ⟨i + 1, by omega, by go_num, hb2, hS2⟩
    | zero =>
      have hin : ¬ ((i : Int) < (n : Int)) := by omega
      obtain rfl : i = n := by omega
      have HM := make_full hS (Nat.lt_irrefl _)
      go_wp2_with (fail)
      refine HM.mono ?_
      rintro e w2 ⟨rfl, q, rfl⟩
      have hS2 : SchedAt (wr.drewN q) (w.heap.size + 1) w.heap.size ⟨i, i, i, 0, rot i 0⟩ := by rw [rot_zero]; exact ⟨hS.blk.same rfl, hS.row.same rfl, hS.ok⟩
      have hb2 : Below w.heap.size w (wr.drewN q) := ⟨hb.os, hb.tape, hb.output, hb.size, hb.block⟩
      clear HM hS hb
      go_wp2_with (fail)
      go_loopg [11] (2 * i) (fun kq v6 w' => ∃ j : Nat, kq + j = 2 * i ∧ v6 = .int .i64 (j : Int) ∧ Below w.heap.size w w' ∧ SchedAt w' (w.heap.size + 1) w.heap.size ⟨i, i, i, 0, rot i j⟩)
      case atStart => exact ⟨0, rfl, rfl, hb2, hS2⟩
      case round =>
        clear hS2 hb2
        obtain ⟨j, hj, rfl, hb, hS⟩ := hrel
        cases gk with
        | succ k1 =>
          have hin2 : ((j : Int) < 2 * (i : Int)) := by omega
          obtain ⟨r, hr1, hr2⟩ := rot_cons i j (by omega)
          rw [hr1] at hS
          rw [show ((j % i : Nat) : Int) = (j : Int) % (i : Int) by omega] at hS hr2
          have hnd := List.nodup_cons.1 hS.ok.nodup
          have hrg := hS.ok.rng _ (List.mem_cons_self ..)
          have HN := next_some hS rfl (show 0 < 1000 by decide)
          have hni : (0 : Int) < (i : Int) := by omega
          have h2H := hid hr2
          have h3H := hid (And.intro hnd.1 hrg)
          clear hr1 hr2 hnd hrg
          go_wp2_with (fail)
          refine HN.mono ?_
          rintro e w2 ⟨rfl, hS2, o2⟩
          have hb2 := up hb (Nat.le_refl _) o2 (fun k h => by omega)
          have hc : (⟨i, i, i, 0 + 1, r⟩ : Sc).pushC ((j : Int) % (i : Int)) = 0 := by
            obtain ⟨h4, h5, h6⟩ := h3H.out
            unfold Sc.pushC
            rw [if_neg (by simp only [] at h5 h6 ⊢; omega), if_neg h4]
          have HB : Calls Try.prog 31 #[.pointer (some ⟨w.heap.size + 1, 0, none⟩), .int .i64 ((j : Int) % (i : Int))] w2 fun e w' => e = .returned (.int .i64 0) ∧ SchedAt w' (w.heap.size + 1) w.heap.size ⟨i, i, i, 0, r ++ [(j : Int) % (i : Int)]⟩ ∧ Only (fun k => k = w.heap.size + 1 ∨ k = w.heap.size) w2 w' := by
            have := back_at hS2 ((j : Int) % (i : Int))
            unfold Sc.backC Sc.back at this
            rw [hc] at this
            simpa using this
          rw [← h2H.out] at HB
          clear HN hS hb o2 hS2 hc
          go_wp2_with (fail)
          refine HB.mono ?_
          rintro e w3 ⟨rfl, hS3, o3⟩
          have hb3 := up hb2 (Nat.le_refl _) o3 (fun k h => by omega)
          clear HB o3 hb2
          go_wp2_with (fail)
          go_roundg k1
          case measure => omega
          case rel => exact ⟨j + 1, by omega, by go_num, hb3, hS3⟩
        | zero =>
          have hin2 : ¬ ((j : Int) < 2 * (i : Int)) := by omega
          have L1 := hid (live_at hS)
          have L2 := hid (busy_at hS)
          go_wp2_with (fail)
          refine L1.out.mono ?_
          rintro e w2 ⟨rfl, rfl⟩
          go_wp2_with (fail)
          refine L2.out.mono ?_
          rintro e w2 ⟨rfl, rfl⟩
          go_wp2_with (fail)
          refine (alive_at _).mono ?_
          rintro e w3 ⟨rfl, hb3⟩
          have hb4 := hb.trans (hb3.mono hb.size)
          go_wp2_with (fail)
          go_ret
          exact ⟨rfl, hb4⟩
end Go.Proofs.Ytghbcdpnngheoag.SchedFull
