
/- bound: Fair, Window, Round. -/
import Derived.Test.YtabcodjalacdjacBoundLeast
namespace Go.Proofs.Ytabcodjalacdjac.BoundCode
open Go Go.RowKit Go.Proofs.Ytabcodjalacdjac.Obj Go.Proofs.Ytabcodjalacdjac.Row Go.Proofs.Ytabcodjalacdjac.BoundPure Go.Proofs.Ytabcodjalacdjac.BoundGap Go.Proofs.YtabcodjalacdjacW.PrintWords Go.Proofs.YtabcodjalacdjacW.PrintMore
set_option linter.unusedVariables false
set_option maxRecDepth 100000
theorem ret_i64 {a b : Int} (h : a = b) : Ending.returned (.int .i64 a) = Ending.returned (.int .i64 b) := by rw [h]
theorem fair_at (s : ByteArray) (p v : Int) (hs : s.size ≤ 1000) (w : World) : Calls Try.prog 10 #[.string s, .int .i64 p, .int .i64 v] w fun e w' => e = .returned (.bool (fairV (rs s p.toNat) s.size p v)) ∧ Below w.heap.size w w' := by
  generalize hf : fairV (rs s p.toNat) s.size p v = f
  have hb := Below.refl w.heap.size w
  by_cases h1 : p < 1
  · have hf : f = false := by rw [← hf, fairV, decide_eq_false (by omega)]; rfl
    subst hf
    go_enter Try.func10, Try.ntmps10
    go_wp2_with (fail)
    go_ret
    exact ⟨rfl, hb⟩
  · by_cases h2 : 255 < p
    · have hf : f = false := by rw [← hf, fairV, decide_eq_false (by omega)]; rfl
      subst hf
      go_enter Try.func10, Try.ntmps10
      go_wp2_with (fail)
      go_ret
      exact ⟨rfl, hb⟩
    · by_cases h3 : v < p
      · have hf : f = false := by rw [← hf, fairV, decide_eq_false (by omega)]; rfl
        subst hf
        go_enter Try.func10, Try.ntmps10
        go_wp2_with (fail)
        go_ret
        exact ⟨rfl, hb⟩
      · have hok : decide (1 ≤ p ∧ p ≤ 255 ∧ p ≤ v) = true := decide_eq_true ⟨by omega, by omega, by omega⟩
        rw [fairV, hok, Bool.true_and] at hf
        by_cases h4 : (s.size : Int) < v
        · have hf : f = true := by rw [← hf, decide_eq_true h4]; rfl
          subst hf
          go_enter Try.func10, Try.ntmps10
          go_wp2_with (fail)
          go_ret
          exact ⟨rfl, hb⟩
        · obtain ⟨n, rfl⟩ : ∃ n : Nat, p = (n : Int) := ⟨p.toNat, by omega⟩
          have hL := least_at s n (by omega) (by omega) hs w
          rw [decide_eq_false h4, Bool.false_or] at hf
          rw [show ((n : Int)).toNat = n from rfl] at hf
          generalize leastV (rs s n) s.size n = lv at *
          clear hok
          by_cases h5 : lv ≤ v
          · have hf : f = true := by rw [← hf, decide_eq_true h5]
            subst hf
            go_enter Try.func10, Try.ntmps10
            go_wp2_with (fail)
            refine hL.mono ?_
            rintro e w1 ⟨rfl, hb1⟩
            go_wp2_with (fail)
            go_ret
            exact ⟨rfl, hb1⟩
          · have hf : f = false := by rw [← hf, decide_eq_false h5]
            subst hf
            go_enter Try.func10, Try.ntmps10
            go_wp2_with (fail)
            refine hL.mono ?_
            rintro e w1 ⟨rfl, hb1⟩
            go_wp2_with (fail)
            go_ret
            exact ⟨rfl, hb1⟩
theorem window_at (s : ByteArray) (p : Int) (hs : s.size ≤ 1000) (w : World) : Calls Try.prog 12 #[.string s, .int .i64 p] w fun e w' => e = .returned (.int .i64 (windowV (rs s p.toNat) s.size p)) ∧ Below w.heap.size w w' := by
  generalize hf : windowV (rs s p.toNat) s.size p = f
  have hb := Below.refl w.heap.size w
  by_cases h1 : p < 1
  · have hf : f = 0 := by rw [← hf, windowV, if_neg (by omega)]
    subst hf
    go_enter Try.func12, Try.ntmps12
    go_wp2_with (fail)
    go_ret
    exact ⟨rfl, hb⟩
  · by_cases h2 : 255 < p
    · have hf : f = 0 := by rw [← hf, windowV, if_neg (by omega)]
      subst hf
      go_enter Try.func12, Try.ntmps12
      go_wp2_with (fail)
      go_ret
      exact ⟨rfl, hb⟩
    · obtain ⟨n, rfl⟩ : ∃ n : Nat, p = (n : Int) := ⟨p.toNat, by omega⟩
      have hL := least_at s n (by omega) (by omega) hs w
      rw [windowV, if_pos ⟨by omega, by omega⟩, show ((n : Int)).toNat = n from rfl] at hf
      have hq : IntKind.i64.wrap ((s.size : Int) + 1) = (s.size : Int) + 1 := IntWalk.i64_in _ (by omega)
      generalize leastV (rs s n) s.size n = lv at *
      have hfH := hid hf
      clear hf
      go_enter Try.func12, Try.ntmps12
      go_wp2_with (fail)
      refine hL.mono ?_
      rintro e w1 ⟨rfl, hb1⟩
      go_wp2_with (fail)
      all_goals go_ret
      all_goals (refine ⟨?_, hb1⟩; rw [← hfH.out]; exact ret_i64 (by omega))
theorem bytes_info : (Try.prog.info? 5).map (fun i => (i.zero, i.size, i.bytes)) = some (some (.int .u8 0), 1, 1) := by kernel_rfl
theorem made_bytes (m : Nat) (hm : m ≤ 10000) (W : World) : (Instr.makeSlice 46 (.int .i64 (m : Int)) (.int .i64 (m : Int))).run Try.prog W = .ok (.slice (some ⟨W.heap.size, 0, none⟩) m m) (W.alloc (.cells (nums .u8 (List.replicate m 0)).toArray 5)) := by
  obtain ⟨i0, hi, hz⟩ := Option.map_eq_some_iff.1 bytes_info
  simp only [Prod.mk.injEq] at hz
  obtain ⟨h1, h2, h3⟩ := hz
  have := run_make (P := Try.prog) W 46 5 i0 (.int .u8 0) Try.underlying46 hi h1 .i64 .i64 m m (by omega) (by omega) (by rw [h3]; omega) (by omega)
  have e : madeCells #[Value.int .u8 0] m = (nums .u8 (List.replicate m 0)).toArray := by
    apply Array.ext'
    apply List.ext_getElem?
    intro i
    unfold madeCells
    by_cases h : i < m
    · simp [h, nums, Nat.mod_one]
    · simp [h, nums]
  rw [← e]
  simpa [h2, Value.cells] using this
/-- In turn. -/
def turnL (p n : Nat) : List Int := (List.range n).map (fun i => ((i % p : Nat) : Int))
theorem turnL_len (p n : Nat) : (turnL p n).length = n := by simp [turnL]
theorem turnL_succ (p i : Nat) : turnL p (i + 1) = turnL p i ++ [((i % p : Nat) : Int)] := by simp [turnL, List.range_succ]
def roundV (p n : Int) : ByteArray := if 1 ≤ p ∧ p ≤ 255 ∧ 0 ≤ n ∧ n ≤ 1000000 then strOfNums (turnL p.toNat n.toNat) else ByteArray.empty
theorem round_no (p n : Int) (h : ¬ (1 ≤ p ∧ p ≤ 255 ∧ 0 ≤ n ∧ n ≤ 1000000)) (w : World) : Calls Try.prog 14 #[.int .i64 p, .int .i64 n] w fun e w' => e = .returned (.string ByteArray.empty) ∧ Below w.heap.size w w' := by
  have hc : p < 1 ∨ (¬ p < 1 ∧ 255 < p) ∨ (¬ p < 1 ∧ ¬ 255 < p ∧ n < 0) ∨ (¬ p < 1 ∧ ¬ 255 < p ∧ ¬ n < 0 ∧ 1000000 < n) := by omega
  have hb := Below.refl w.heap.size w
  rcases hc with h1 | ⟨h1, h2⟩ | ⟨h1, h2, h3⟩ | ⟨h1, h2, h3, h4⟩
  all_goals
    clear h
    go_enter Try.func14, Try.ntmps14
    go_wp2_with (fail)
    go_ret
    exact ⟨rfl, hb⟩
set_option maxHeartbeats 2000000 in
theorem round_yes (p n : Nat) (hp : 1 ≤ p) (hp2 : p ≤ 255) (hn : n ≤ 10000) (w : World) : Calls Try.prog 14 #[.int .i64 (p : Int), .int .i64 (n : Int)] w fun e w' => e = .returned (.string (strOfNums (turnL p n))) ∧ Below w.heap.size w w' := by
  have hmk := made_bytes n hn
  have h1 : ¬ ((p : Int) < 1) := by omega
  have h2 : ¬ ((255 : Int) < (p : Int)) := by omega
  have h3 : ¬ ((n : Int) < 0) := by omega
  have h4 : ¬ ((1000000 : Int) < (n : Int)) := by omega
  have hk0 : Blk (w.alloc (.cells (nums .u8 (List.replicate n 0)).toArray 5)) w.heap.size 5 (nums .u8 (turnL p 0 ++ List.replicate (n - 0) 0)) := Blk.new w _ _
  have hb0 : Below w.heap.size w (w.alloc (.cells (nums .u8 (List.replicate n 0)).toArray 5)) := (Below.refl _ _).alloc (Nat.le_refl _) _
  go_enter Try.func14, Try.ntmps14
  go_wp2_with (fail)
  go_loopg [25] n (fun kq v25 w' => ∃ i : Nat, kq + i = n ∧ v25 = .int .i64 (i : Int) ∧ Below w.heap.size w w' ∧ Blk w' w.heap.size 5 (nums .u8 (turnL p i ++ List.replicate (n - i) 0)))
  case atStart => exact ⟨0, by omega, rfl, hb0, hk0⟩
  case round =>
    clear hb0 hk0
    obtain ⟨i, hi, rfl, hb, hB⟩ := hrel
    cases gk with
    | succ m =>
      have hin : ((i : Int) < (n : Int)) := by omega
      have hfz := hB.frozen
      have hnz : ((p : Int) == 0) = false := by rw [beq_eq_false_iff_ne]; omega
      obtain ⟨y, hy⟩ : ∃ y, wr.cell? ⟨w.heap.size, i, none⟩ = some y := ⟨_, (hB.cell i).trans (List.getElem?_eq_getElem (by simp [nums, turnL]; omega))⟩
      have hset := hB.set i (.int .u8 ((i : Int) % (p : Int) % 256))
      have hb1 := hb.setCell (p := ⟨w.heap.size, i, none⟩) (Nat.le_refl _) (.int .u8 ((i : Int) % (p : Int) % 256))
      have e : (nums .u8 (turnL p i ++ List.replicate (n - i) 0)).set i (.int .u8 ((i : Int) % (p : Int) % 256)) = nums .u8 (turnL p (i + 1) ++ List.replicate (n - (i + 1)) 0) := by
        have hv : (i : Int) % (p : Int) % 256 = ((i % p : Nat) : Int) := by
          have := Nat.mod_lt i (show 0 < p by omega)
          rw [← Int.natCast_emod]
          generalize i % p = q at *
          omega
        have hl : (List.map (Value.int .u8) (turnL p i)).length = i := by rw [List.length_map, turnL_len]
        rw [hv, turnL_succ, show n - i = (n - (i + 1)) + 1 by omega, List.replicate_succ]
        simp only [nums, List.map_append, List.map_cons, List.append_assoc, List.cons_append, List.nil_append]
        rw [List.set_append_right _ _ (by rw [hl]; exact Nat.le_refl _), hl, Nat.sub_self]
        rfl
      rw [e] at hset
      clear hb hB e
      go_wp2
      go_roundg m
      case measure => omega
      case rel => exact ⟨i + 1, by omega, by go_num, hb1, hset⟩
    | zero =>
      have hin : ¬ ((i : Int) < (n : Int)) := by omega
      obtain rfl : i = n := by omega
      have hR : ReadsInt wr .u8 (some ⟨w.heap.size, 0, none⟩) i (turnL p i) := by
        refine ⟨turnL_len p i, by omega, fun _ => ⟨⟨w.heap.size, 0, none⟩, rfl, fun j hj => ?_⟩⟩
        have hj : j < (turnL p i).length := by rw [turnL_len]; exact hj
        rw [addr_add0, hB.cell j, nums, List.getElem?_map, List.getElem?_append_left hj, List.getElem?_eq_getElem hj, List.getD_eq_getElem?_getD, List.getElem?_eq_getElem hj]
        rfl
      have hconv := fun c => string_of_reads (c := c) (P := Try.prog) (src := 46) (dst := 9) (e := 5) Try.underlying46 Try.underlying5 Try.underlying9 hR
      go_wp2
      go_ret
      exact ⟨rfl, hb⟩
theorem round_at (p n : Int) (h : n ≤ 10000 ∨ ¬ n ≤ 1000000) (w : World) : Calls Try.prog 14 #[.int .i64 p, .int .i64 n] w fun e w' => e = .returned (.string (roundV p n)) ∧ Below w.heap.size w w' := by
  unfold roundV
  by_cases hc : 1 ≤ p ∧ p ≤ 255 ∧ 0 ≤ n ∧ n ≤ 1000000
  · rw [if_pos hc]
    obtain ⟨a, rfl⟩ : ∃ a : Nat, p = (a : Int) := ⟨p.toNat, by omega⟩
    obtain ⟨b, rfl⟩ : ∃ b : Nat, n = (b : Int) := ⟨n.toNat, by omega⟩
    exact round_yes a b (by omega) (by omega) (by omega) w
  · rw [if_neg hc]
    exact round_no p n hc w
theorem turn_rs (p n i : Nat) (hp2 : p ≤ 255) (hp : 1 ≤ p) (hi : i < n) : rs (strOfNums (turnL p n)) p i = i % p % p := by
  unfold rs strOfNums turnL
  have := Nat.mod_lt i (show 0 < p by omega)
  simp [hi]
  rw [← Int.natCast_emod, Int.toNat_natCast, Nat.mod_eq_of_lt (show i % p < 256 by omega), Nat.mod_eq_of_lt this]
theorem FairP.congr {r r' : Nat → Nat} {n p : Nat} {W : Int} (h : ∀ i, i < n → r i = r' i) (hF : FairP r n p W) : FairP r' n p W := by
  intro k hk a ha
  obtain ⟨j, h1, h2, h3⟩ := hF k hk a ha
  exact ⟨j, h1, h2, by rw [← h j (by omega)]; exact h3⟩
theorem round_size (p n : Nat) : (strOfNums (turnL p n)).size = n := by rw [strOfNums_size, turnL_len]
theorem round_fair (p n : Nat) (hp : 1 ≤ p) (hp2 : p ≤ 255) : FairP (rs (strOfNums (turnL p n)) p) (strOfNums (turnL p n)).size p p := by
  rw [round_size]
  exact FairP.congr (fun i hi => (turn_rs p n i hp2 hp hi).symm) (turn_fair n p hp)
end Go.Proofs.Ytabcodjalacdjac.BoundCode
