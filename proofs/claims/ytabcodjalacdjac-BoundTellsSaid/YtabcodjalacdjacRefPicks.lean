
/- The document's bound: Fair, Window, Round. -/
import Derived.Test.YtabcodjalacdjacRefBound
import Derived.Test.YtabcodjalacdjacBoundFair
namespace Go.Proofs.Ytabcodjalacdjac.RefBound
open Go Go.RowKit Go.Proofs.Ytabcodjalacdjac.Obj Go.Proofs.Ytabcodjalacdjac.Row Go.Proofs.Ytabcodjalacdjac.BoundPure Go.Proofs.Ytabcodjalacdjac.BoundGap Go.Proofs.Ytabcodjalacdjac.BoundCode Go.Proofs.YtabcodjalacdjacW.PrintWords Go.Proofs.YtabcodjalacdjacW.PrintMore
set_option linter.unusedVariables false
set_option maxRecDepth 100000
/-- Is one met, from there on? -/
def Hit (r : Nat → Nat) (W a k : Nat) : Prop := ∃ j : Nat, a ≤ j ∧ j < a + W ∧ r j = k
/-- So far. -/
def seen (r : Nat → Nat) (k a : Nat) : Nat → Bool
  | 0 => false
  | m + 1 => seen r k a m || decide (r (a + m) = k)
theorem seen_iff (r : Nat → Nat) (k a : Nat) : ∀ m, seen r k a m = true ↔ Hit r m a k
  | 0 => by simp [seen, Hit]; intro j h1 h2; omega
  | m + 1 => by
    unfold seen
    rw [Bool.or_eq_true, seen_iff r k a m, decide_eq_true_eq]
    unfold Hit
    constructor
    · rintro (⟨j, h1, h2, h3⟩ | h)
      · exact ⟨j, h1, by omega, h3⟩
      · exact ⟨a + m, by omega, by omega, h⟩
    · rintro ⟨j, h1, h2, h3⟩
      by_cases e : j = a + m
      · subst e; exact .inr h3
      · exact .inl ⟨j, h1, by omega, h3⟩
theorem fair_all {r : Nat → Nat} {m n W : Nat} (hr : ∀ i, r i < n) (hn : 1 ≤ n) (hn2 : n ≤ 255) (hW : n ≤ W) (h : ∀ a, a + W ≤ m → ∀ k, k < n → Hit r W a k) : fairV r m (n : Int) (W : Int) = true := by
  rw [fairV_iff hn hn2]
  refine ⟨by omega, ?_⟩
  right
  rw [least_fair hr hn]
  refine ⟨fun k hk a ha => ?_, by omega⟩
  obtain ⟨j, h1, h2, h3⟩ := h a (by omega) k hk
  exact ⟨j, h1, by omega, h3⟩
theorem fair_none {r : Nat → Nat} {m n W a k : Nat} (hr : ∀ i, r i < n) (hn : 1 ≤ n) (hn2 : n ≤ 255) (ha : a + W ≤ m) (hk : k < n) (h : ¬ Hit r W a k) : fairV r m (n : Int) (W : Int) = false := by
  rw [Bool.eq_false_iff]
  intro hf
  rw [fairV_iff hn hn2] at hf
  rcases hf.2 with h1 | h1
  · omega
  · rw [least_fair hr hn] at h1
    obtain ⟨j, h2, h3, h4⟩ := h1.1 k hk a (by omega)
    exact h ⟨j, h2, by omega, h4⟩
set_option maxHeartbeats 4000000 in
theorem rfair_at (s : ByteArray) (p v : Int) (hs : s.size ≤ 1000) (hv : v ≤ 9223372036854775807) (w : World) : Calls Try.prog 11 #[.string s, .int .i64 p, .int .i64 v] w fun e w' => e = .returned (.bool (fairV (rs s p.toNat) s.size p v)) ∧ w' = w := by
  generalize hf : fairV (rs s p.toNat) s.size p v = f
  have hI := rin_at p 1 255 w
  by_cases h1 : 1 ≤ p ∧ p ≤ 255
  · rw [decide_eq_true h1] at hI
    by_cases h3 : v < p
    · have hf : f = false := by rw [← hf, fairV, decide_eq_false (by omega)]; rfl
      subst hf
      go_enter Try.func11, Try.ntmps11
      go_wp2_with (fail)
      refine hI.mono ?_
      rintro e w1 ⟨rfl, rfl⟩
      go_wp2_with (fail)
      go_ret
      exact ⟨rfl, rfl⟩
    · obtain ⟨n, rfl⟩ : ∃ n : Nat, p = (n : Int) := ⟨p.toNat, by omega⟩
      obtain ⟨W, rfl⟩ : ∃ n : Nat, v = (n : Int) := ⟨v.toNat, by omega⟩
      rw [Int.toNat_natCast] at hf
      have hn1 : 1 ≤ n := by omega
      have hn2 : n ≤ 255 := by omega
      have hnW : n ≤ W := by omega
      have hr := rs_lt s hn1
      have hWn : decide (W < n) = false := decide_eq_false (by omega)
      clear h1
      by_cases h4 : s.size < W
      · have hf : f = true := by rw [← hf]; exact fair_all hr hn1 hn2 hnW (fun a ha => absurd ha (by omega))
        subst hf
        have hq : ¬ ((W : Int) ≤ (s.size : Int)) := by omega
        have hq2 : IntKind.i64.wrap (W : Int) = (W : Int) := IntWalk.i64_in _ (by omega)
        clear hv
        go_enter Try.func11, Try.ntmps11
        go_wp2_with (fail)
        refine hI.mono ?_
        rintro e w1 ⟨rfl, rfl⟩
        go_wp2_with (fail)
        go_loopg [7] 0 (fun kq v7 w' => kq = 0 ∧ v7 = .int .i64 0 ∧ w' = w1)
        case atStart => exact ⟨rfl, rfl, rfl⟩
        case round =>
          obtain ⟨rfl, rfl, rfl⟩ := hrel
          go_wp2
          go_ret
          exact ⟨rfl, rfl⟩
      · have hfH := hid hf
        clear hf hv
        go_enter Try.func11, Try.ntmps11
        go_wp2_with (fail)
        refine hI.mono ?_
        rintro e w1 ⟨rfl, rfl⟩
        clear hI
        go_wp2_with (fail)
        go_loopg [7] (s.size + 1 - W) (fun kq v7 w' => ∃ a : Nat, kq + a = s.size + 1 - W ∧ v7 = .int .i64 (a : Int) ∧ Hid (∀ a', a' < a → ∀ k, k < n → Hit (rs s n) W a' k) ∧ w' = w1)
        case atStart => exact ⟨0, by omega, rfl, fun a' h => absurd h (by omega), rfl⟩
        case round =>
          obtain ⟨a, ha, rfl, hall, rfl⟩ := hrel
          have hq1 : IntKind.i64.wrap ((a : Int) + (W : Int)) = (a : Int) + (W : Int) := IntWalk.i64_in _ (by omega)
          cases gk with
          | zero =>
            have hin : ¬ ((a : Int) + (W : Int) ≤ (s.size : Int)) := by omega
            go_wp2
            go_ret
            exact ⟨by rw [← hfH.out, fair_all hr hn1 hn2 hnW (fun a' h => hall.out a' (by omega))]; rfl, rfl⟩
          | succ m1 =>
            have hin : ((a : Int) + (W : Int) ≤ (s.size : Int)) := by omega
            go_wp2_with (fail)
            go_loopg [8] n (fun kq v8 w' => ∃ k : Nat, kq + k = n ∧ v8 = .int .i64 (k : Int) ∧ Hid (∀ k', k' < k → Hit (rs s n) W a k') ∧ w' = wr)
            case atStart => exact ⟨0, by omega, rfl, fun k' h => absurd h (by omega), rfl⟩
            case round =>
              obtain ⟨k, hk, rfl, hks, rfl⟩ := hrel
              cases gk with
              | zero =>
                have hin2 : ¬ ((k : Int) < (n : Int)) := by omega
                obtain rfl : k = n := by omega
                go_wp2_with (fail)
                go_roundg m1
                case measure => omega
                case rel =>
                  refine ⟨a + 1, by omega, by go_num, ?_, rfl⟩
                  intro a' h k' hk'
                  by_cases e : a' = a
                  · subst e; exact hks.out k' hk'
                  · exact hall.out a' (by omega) k' hk'
              | succ m2 =>
                have hin2 : ((k : Int) < (n : Int)) := by omega
                go_wp2_with (fail)
                go_loopg [9, 10] W (fun kq v9 v10 w' => ∃ i : Nat, kq + i = W ∧ v10 = .int .i64 ((a + i : Nat) : Int) ∧ v9 = .bool (seen (rs s n) k a i) ∧ w' = wr)
                case atStart => exact ⟨0, by omega, rfl, rfl, rfl⟩
                case round =>
                  obtain ⟨i, hi, rfl, rfl, rfl⟩ := hrel
                  cases gk with
                  | zero =>
                    obtain rfl : i = W := by omega
                    have hin3 : ¬ (((a + i : Nat) : Int) < (a : Int) + (i : Int)) := by omega
                    have hsi := hid (seen_iff (rs s n) k a i)
                    cases hsn : seen (rs s n) k a i with
                    | true =>
                      have hh := hid (hsi.out.1 hsn)
                      clear hsn
                      go_wp2_with (fail)
                      go_roundg m2
                      case measure => omega
                      case rel =>
                        refine ⟨k + 1, by omega, by go_num, ?_, rfl⟩
                        intro k' h
                        by_cases e : k' = k
                        · subst e; exact hh.out
                        · exact hks.out k' (by omega)
                    | false =>
                      have hh : Hid (¬ Hit (rs s n) i a k) := hid (fun h => by rw [hsi.out.2 h] at hsn; cases hsn)
                      clear hsn
                      go_wp2_with (fail)
                      go_ret
                      exact ⟨by rw [← hfH.out, fair_none hr hn1 hn2 (by omega) (by omega) hh.out]; rfl, rfl⟩
                  | succ m3 =>
                    have hin3 : (((a + i : Nat) : Int) < (a : Int) + (W : Int)) := by omega
                    have hsz : a + i < s.size := by omega
                    have hsz' : ((a + i : Nat) : Int) < (s.size : Int) := by omega
                    have hnz : ((n : Int) == 0) = false := by rw [beq_eq_false_iff_ne]; omega
                    have hst : seen (rs s n) k a (i + 1) = (seen (rs s n) k a i || decide (rs s n (a + i) = k)) := rfl
                    have hstH := hid hst
                    clear hst
                    have hxb : (s[a + i]'hsz).toNat ≤ 255 := by have := (s[a + i]'hsz).toNat_lt; omega
                    have hxr : rs s n (a + i) = (s[a + i]'hsz).toNat % n := by
                      unfold rs
                      rw [show s.data[a + i]? = some (s[a + i]'hsz) from Array.getElem?_eq_getElem hsz]
                      rfl
                    have hxrH := hid hxr
                    clear hxr
                    generalize hgx : (s[a + i]'hsz).toNat = x at *
                    cases hsn : seen (rs s n) k a i with
                    | true =>
                      rw [hsn] at hstH
                      clear hsn
                      go_wp2_with (fail)
                      go_roundg m3
                      case measure => omega
                      case rel => exact ⟨i + 1, by omega, by congr 1, by rw [hstH.out]; rfl, rfl⟩
                    | false =>
                      rw [hsn] at hstH
                      clear hsn
                      have hbb : ((x : Int) % (n : Int) == (k : Int)) = (false || decide (x % n = k)) := by
                        rw [Bool.false_or, ← Int.natCast_emod, Bool.eq_iff_iff, beq_iff_eq, decide_eq_true_eq]
                        omega
                      have hbbH := hid hbb
                      clear hbb
                      go_wp2_with (fail)
                      go_roundg m3
                      case measure => omega
                      case rel => exact ⟨i + 1, by omega, by congr 1, by rw [hstH.out, hxrH.out, ← hbbH.out], rfl⟩
  · rw [decide_eq_false h1] at hI
    have hf : f = false := by rw [← hf, fairV, decide_eq_false (by omega)]; rfl
    subst hf
    go_enter Try.func11, Try.ntmps11
    go_wp2_with (fail)
    refine hI.mono ?_
    rintro e w1 ⟨rfl, rfl⟩
    go_wp2_with (fail)
    go_ret
    exact ⟨rfl, rfl⟩
set_option maxHeartbeats 4000000 in
theorem rwindow_at (s : ByteArray) (p : Int) (hs : s.size ≤ 1000) (w : World) : Calls Try.prog 13 #[.string s, .int .i64 p] w fun e w' => e = .returned (.int .i64 (windowV (rs s p.toNat) s.size p)) ∧ w' = w := by
  have hI := rin_at p 1 255 w
  by_cases h1 : 1 ≤ p ∧ p ≤ 255
  · rw [decide_eq_true h1] at hI
    obtain ⟨n, rfl⟩ : ∃ n : Nat, p = (n : Int) := ⟨p.toNat, by omega⟩
    rw [Int.toNat_natCast]
    have hn1 : 1 ≤ n := by omega
    have hn2 : n ≤ 255 := by omega
    have hr := rs_lt s hn1
    have hlt := least_top (r := rs s n) (n := s.size) hr hn1
    have hWe := hid (windowV_eq (r := rs s n) (m := s.size) hn1 hn2)
    have hF := fun (u : Nat) (hu : u ≤ 2000) w => rfair_at s (n : Int) (u : Int) hs (by omega) w
    simp only [Int.toNat_natCast] at hF
    have hq0 : IntKind.i64.wrap ((s.size : Int) + 1) = (s.size : Int) + 1 := IntWalk.i64_in _ (by omega)
    clear h1
    go_enter Try.func13, Try.ntmps13
    go_wp2_with (fail)
    refine hI.mono ?_
    rintro e w1 ⟨rfl, rfl⟩
    clear hI
    go_wp2_with (fail)
    go_loopg [5] (s.size + 1 - n) (fun kq v5 w' => ∃ u : Nat, kq + u = s.size + 1 - n + n ∧ n ≤ u ∧ v5 = .int .i64 (u : Int) ∧ (u = n ∨ (u : Int) ≤ leastV (rs s n) s.size n) ∧ w' = w1)
    case atStart => exact ⟨n, by omega, Nat.le_refl _, rfl, .inl rfl, rfl⟩
    case round =>
      obtain ⟨u, hu, hnu, rfl, hlo, rfl⟩ := hrel
      cases gk with
      | zero =>
        have hin : ¬ ((u : Int) ≤ (s.size : Int)) := by omega
        have hval : windowV (rs s n) s.size (n : Int) = max (n : Int) ((s.size : Int) + 1) := by rw [hWe.out]; omega
        have hvalH := hid hval
        clear hval hlo
        by_cases hm : (n : Int) < (s.size : Int) + 1
        · go_wp2_with (fail)
          go_ret
          exact ⟨by rw [hvalH.out]; exact ret_i64 (by omega), rfl⟩
        · go_wp2_with (fail)
          go_ret
          exact ⟨by rw [hvalH.out]; exact ret_i64 (by omega), rfl⟩
      | succ m1 =>
        have hin : ((u : Int) ≤ (s.size : Int)) := by omega
        have hfu := hid (fairV_iff (r := rs s n) (m := s.size) hn1 hn2 (u : Int))
        cases hf : fairV (rs s n) s.size (n : Int) (u : Int) with
        | true =>
          have hval : windowV (rs s n) s.size (n : Int) = (u : Int) := by
            have := hfu.out.1 hf
            rw [hWe.out]; omega
          have hFu := hF u (by omega) wr
          rw [hf] at hFu
          have hvalH := hid hval
          clear hval hlo hf hF
          go_wp2_with (fail)
          refine hFu.mono ?_
          rintro e w2 ⟨rfl, rfl⟩
          go_wp2_with (fail)
          go_ret
          exact ⟨by rw [hvalH.out]; rfl, rfl⟩
        | false =>
          have hno : ¬ (leastV (rs s n) s.size n ≤ (u : Int)) := fun h => by
            rw [hfu.out.2 ⟨by omega, .inr h⟩] at hf
            cases hf
          have hFu := hF u (by omega) wr
          rw [hf] at hFu
          clear hf
          go_wp2_with (fail)
          refine hFu.mono ?_
          rintro e w2 ⟨rfl, hw⟩
          obtain rfl := hw.symm
          go_wp2_with (fail)
          go_roundg m1
          case measure => omega
          case rel => exact ⟨u + 1, by omega, by omega, by go_num, .inr (by omega), rfl⟩
  · rw [decide_eq_false h1] at hI
    have hv : windowV (rs s p.toNat) s.size p = 0 := if_neg h1
    rw [hv]
    go_enter Try.func13, Try.ntmps13
    go_wp2_with (fail)
    refine hI.mono ?_
    rintro e w1 ⟨rfl, rfl⟩
    go_wp2_with (fail)
    go_ret
    exact ⟨rfl, rfl⟩
set_option maxHeartbeats 2000000 in
theorem rround_yes (p n : Nat) (hp : 1 ≤ p) (hp2 : p ≤ 255) (hn : n ≤ 10000) (w : World) : Calls Try.prog 15 #[.int .i64 (p : Int), .int .i64 (n : Int)] w fun e w' => e = .returned (.string (strOfNums (turnL p n))) ∧ Below w.heap.size w w' := by
  have hmk := made_bytes n hn
  have hI1 := rin_at (p : Int) 1 255 w
  have hI2 := rin_at (n : Int) 0 1000000 w
  rw [decide_eq_true ⟨by omega, by omega⟩] at hI1 hI2
  have hk0 : Blk (w.alloc (.cells (nums .u8 (List.replicate n 0)).toArray 5)) w.heap.size 5 (nums .u8 (turnL p 0 ++ List.replicate (n - 0) 0)) := Blk.new w _ _
  have hb0 : Below w.heap.size w (w.alloc (.cells (nums .u8 (List.replicate n 0)).toArray 5)) := (Below.refl _ _).alloc (Nat.le_refl _) _
  go_enter Try.func15, Try.ntmps15
  go_wp2_with (fail)
  refine hI1.mono ?_
  rintro e w1 ⟨rfl, hw⟩
  obtain rfl := hw.symm
  go_wp2_with (fail)
  refine hI2.mono ?_
  rintro e w1 ⟨rfl, hw⟩
  obtain rfl := hw.symm
  go_wp2_with (fail)
  go_loopg [6] n (fun kq v6 w' => ∃ i : Nat, kq + i = n ∧ v6 = .int .i64 (i : Int) ∧ Below w.heap.size w w' ∧ Blk w' w.heap.size 5 (nums .u8 (turnL p i ++ List.replicate (n - i) 0)))
  case atStart => exact ⟨0, by omega, rfl, hb0, hk0⟩
  case round =>
    clear hb0 hk0
    obtain ⟨i, hi, rfl, hb, hB⟩ := hrel
    cases gk with
    | succ m =>
      have hin : ((i : Int) < (n : Int)) := by omega
      have hfz := hB.frozen
      have hnz : ((p : Int) == 0) = false := by rw [beq_eq_false_iff_ne]; omega
      obtain ⟨y, hy⟩ : ∃ y, wr.cell? ⟨w.heap.size, i, none⟩ = some y := ⟨_, (hB.cell i).trans (List.getElem?_eq_getElem (by simp [nums, turnL]; omega))⟩
      have hset := hB.set i (.int .u8 ((i : Int) % (p : Int) % 256))
      have hb1 := hb.setCell (p := ⟨w.heap.size, i, none⟩) (Nat.le_refl _) (.int .u8 ((i : Int) % (p : Int) % 256))
      have e : (nums .u8 (turnL p i ++ List.replicate (n - i) 0)).set i (.int .u8 ((i : Int) % (p : Int) % 256)) = nums .u8 (turnL p (i + 1) ++ List.replicate (n - (i + 1)) 0) := by
        have hv : (i : Int) % (p : Int) % 256 = ((i % p : Nat) : Int) := by
          have := Nat.mod_lt i (show 0 < p by omega)
          rw [← Int.natCast_emod]
          generalize i % p = q at *
          omega
        have hl : (List.map (Value.int .u8) (turnL p i)).length = i := by rw [List.length_map, turnL_len]
        rw [hv, turnL_succ, show n - i = (n - (i + 1)) + 1 by omega, List.replicate_succ]
        simp only [nums, List.map_append, List.map_cons, List.append_assoc, List.cons_append, List.nil_append]
        rw [List.set_append_right _ _ (by rw [hl]; exact Nat.le_refl _), hl, Nat.sub_self]
        rfl
      rw [e] at hset
      clear hb hB e
      go_wp2
      go_roundg m
      case measure => omega
      case rel => exact ⟨i + 1, by omega, by go_num, hb1, hset⟩
    | zero =>
      have hin : ¬ ((i : Int) < (n : Int)) := by omega
      obtain rfl : i = n := by omega
      have hR : ReadsInt wr .u8 (some ⟨w.heap.size, 0, none⟩) i (turnL p i) := by
        refine ⟨turnL_len p i, by omega, fun _ => ⟨⟨w.heap.size, 0, none⟩, rfl, fun j hj => ?_⟩⟩
        have hj : j < (turnL p i).length := by rw [turnL_len]; exact hj
        rw [addr_add0, hB.cell j, nums, List.getElem?_map, List.getElem?_append_left hj, List.getElem?_eq_getElem hj, List.getD_eq_getElem?_getD, List.getElem?_eq_getElem hj]
        rfl
      have hconv := fun c => string_of_reads (c := c) (P := Try.prog) (src := 46) (dst := 9) (e := 5) Try.underlying46 Try.underlying5 Try.underlying9 hR
      go_wp2
      go_ret
      exact ⟨rfl, hb⟩
theorem rround_at (p n : Int) (h : n ≤ 10000 ∨ ¬ n ≤ 1000000) (w : World) : Calls Try.prog 15 #[.int .i64 p, .int .i64 n] w fun e w' => e = .returned (.string (roundV p n)) ∧ Below w.heap.size w w' := by
  unfold roundV
  by_cases hc : 1 ≤ p ∧ p ≤ 255 ∧ 0 ≤ n ∧ n ≤ 1000000
  · rw [if_pos hc]
    obtain ⟨a, rfl⟩ : ∃ a : Nat, p = (a : Int) := ⟨p.toNat, by omega⟩
    obtain ⟨b, rfl⟩ : ∃ b : Nat, n = (b : Int) := ⟨n.toNat, by omega⟩
    exact rround_yes a b (by omega) (by omega) (by omega) w
  · rw [if_neg hc]
    have hb := Below.refl w.heap.size w
    have hI1 := rin_at p 1 255 w
    have hI2 := rin_at n 0 1000000 w
    by_cases h1 : 1 ≤ p ∧ p ≤ 255
    · rw [decide_eq_true h1] at hI1
      rw [decide_eq_false (fun h2 => hc ⟨h1.1, h1.2, h2.1, h2.2⟩)] at hI2
      clear hc h h1
      go_enter Try.func15, Try.ntmps15
      go_wp2_with (fail)
      refine hI1.mono ?_
      rintro e w1 ⟨rfl, hw⟩
      obtain rfl := hw.symm
      go_wp2_with (fail)
      refine hI2.mono ?_
      rintro e w1 ⟨rfl, hw⟩
      obtain rfl := hw.symm
      go_wp2_with (fail)
      go_ret
      exact ⟨rfl, hb⟩
    · rw [decide_eq_false h1] at hI1
      clear hc h h1
      go_enter Try.func15, Try.ntmps15
      go_wp2_with (fail)
      refine hI1.mono ?_
      rintro e w1 ⟨rfl, hw⟩
      obtain rfl := hw.symm
      go_wp2_with (fail)
      go_ret
      exact ⟨rfl, hb⟩
end Go.Proofs.Ytabcodjalacdjac.RefBound
