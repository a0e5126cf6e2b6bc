
/- bound: plus, times, hold, locks, Of, Hold, Lock. -/
import Derived.Test.YtabcodjalacdjacBoundCheck
import Derived.Test.YtabcodjalacdjacRow
import Derived.Test.YtabcodjalacdjacProg
import Derived.WalkKit
import Derived.KernelRfl
import Derived.Deep.QuietTactic
import Derived.Lib.Hide
import Derived.StillTailTactics
import Derived.Laws.ResultCell
import Derived.Deep.RegionHeld3
import Derived.BigQuiet
namespace Go.Proofs.Ytabcodjalacdjac.BoundCode
open Go Go.RowKit Go.Proofs.Ytabcodjalacdjac.Obj Go.Proofs.Ytabcodjalacdjac.Row Go.Proofs.Ytabcodjalacdjac.BoundPure Go.Proofs.YtabcodjalacdjacW.PrintWords Go.Proofs.YtabcodjalacdjacW.PrintMore
set_option linter.unusedVariables false
set_option maxRecDepth 100000
/-- A slice that reads as these numbers. -/
abbrev N64 (w : World) (A : Option Addr) (l : List Nat) : Prop := Nums w .u64 A (l.map (fun n : Nat => (n : Int)))
theorem N64.at {w : World} {A : Option Addr} {l : List Nat} (h : N64 w A l) (i : Nat) (hi : i < l.length) : ∃ b o, A = some ⟨b, o, none⟩ ∧ b < w.heap.size ∧ w.cell? ⟨b, o + i, none⟩ = some (.int .u64 (l[i] : Int)) := by
  obtain ⟨b, o, e, hb, hc⟩ := Nums.at h i (by rw [List.length_map]; exact hi)
  refine ⟨b, o, e, hb, ?_⟩
  rw [hc]
  simp [List.getD_eq_getElem?_getD, hi]
theorem take_foldl {f : Nat → Nat → Nat} {s : Nat} {l : List Nat} {i : Nat} (hi : i < l.length) : (l.take (i + 1)).foldl f s = f ((l.take i).foldl f s) l[i] := by
  rw [List.take_add_one, List.getElem?_eq_getElem hi, List.foldl_append]
  rfl
theorem fold_le (f : Nat → Nat → Nat) (hf : ∀ a b, f a b ≤ MB) : ∀ (l : List Nat) (s : Nat), s ≤ MB → l.foldl f s ≤ MB
  | [], s, h => h
  | a :: r, s, _ => fold_le f hf r _ (hf _ _)
theorem u64_nat {n : Int} (h0 : 0 ≤ n) (h1 : n < 18446744073709551616) : IntKind.u64.wrap n = n := by
  have e : IntKind.u64.wrap n = n % 18446744073709551616 := by simp [IntKind.wrap, IntKind.bits, IntKind.signed]
  rw [e]; omega
set_option maxHeartbeats 1000000 in
theorem plus_at (A : Option Addr) (c : Nat) (l : List Nat) (hl : l.length ≤ 10) (hx : Hid (∀ x ∈ l, x ≤ MB)) (w : World) (hN : N64 w A l) : Calls Try.prog 22 #[.slice A l.length c] w fun e w' => e = .returned (.int .u64 (plusL l : Int)) ∧ w' = w := by
  go_enter Try.func22, Try.ntmps22
  go_wp2
  go_loopg [2, 7] l.length (fun kq v2 v7 w' => ∃ i : Nat, kq + i = l.length ∧ v7 = .int .i64 (i : Int) ∧ v2 = .int .u64 (((l.take i).foldl satp 0 : Nat) : Int) ∧ w' = w)
  case atStart => exact ⟨0, by omega, rfl, rfl, rfl⟩
  case round =>
    obtain ⟨i, hi, rfl, rfl, rfl⟩ := hrel
    cases gk with
    | zero =>
      have hin : ¬ ((i : Int) < (l.length : Int)) := by omega
      go_wp2
      go_ret
      exact ⟨by rw [List.take_of_length_le (by omega)]; rfl, rfl⟩
    | succ m =>
      have hin : ((i : Int) < (l.length : Int)) := by omega
      obtain ⟨b, o, rfl, _, hc⟩ := hN.at i (by omega)
      have hstep := hid (take_foldl (f := satp) (s := 0) (show i < l.length by omega))
      have hxx := hid (hx.out _ (List.getElem_mem (show i < l.length by omega)))
      have hsm := hid (fold_le satp satp_le (l.take i) 0 (Nat.zero_le _))
      generalize l[i] = x at *
      generalize hs : (l.take i).foldl satp 0 = s at *
      clear hs
      obtain ⟨v, hv⟩ : ∃ v : Nat, v = s + x := ⟨_, rfl⟩
      have hq : IntKind.u64.wrap ((s : Int) + (x : Int)) = (v : Int) := by
        have h1 := hsm.out
        have h2 := hxx.out
        unfold MB at h1 h2
        rw [u64_nat (by omega) (by omega)]; omega
      have hvH := hid hv
      clear hv
      go_wp2
      all_goals (clear hq; go_roundg m)
      case measure => omega
      case measure => omega
      case rel => exact ⟨i + 1, by omega, by go_num, by rw [hstep.out]; congr 1; have := hvH.out; unfold satp MB; omega, rfl⟩
      case rel => exact ⟨i + 1, by omega, by go_num, by rw [hstep.out]; congr 1; have := hvH.out; unfold satp MB; omega, rfl⟩
set_option maxHeartbeats 1000000 in
theorem times_at (A : Option Addr) (c : Nat) (l : List Nat) (hl : l.length ≤ 10) (hx : Hid (∀ x ∈ l, x ≤ MB)) (w : World) (hN : N64 w A l) : Calls Try.prog 24 #[.slice A l.length c] w fun e w' => e = .returned (.int .u64 (timesL l : Int)) ∧ w' = w := by
  go_enter Try.func24, Try.ntmps24
  go_wp2
  go_loopg [3, 8] l.length (fun kq v3 v8 w' => ∃ i : Nat, kq + i = l.length ∧ v8 = .int .i64 (i : Int) ∧ v3 = .int .u64 (((l.take i).foldl satt 1 : Nat) : Int) ∧ w' = w)
  case atStart => exact ⟨0, by omega, rfl, rfl, rfl⟩
  case round =>
    obtain ⟨i, hi, rfl, rfl, rfl⟩ := hrel
    cases gk with
    | zero =>
      have hin : ¬ ((i : Int) < (l.length : Int)) := by omega
      go_wp2
      go_ret
      exact ⟨by rw [List.take_of_length_le (by omega)]; rfl, rfl⟩
    | succ m =>
      have hin : ((i : Int) < (l.length : Int)) := by omega
      obtain ⟨b, o, rfl, _, hc⟩ := hN.at i (by omega)
      have hstep := hid (take_foldl (f := satt) (s := 1) (show i < l.length by omega))
      have hxx := hid (hx.out _ (List.getElem_mem (show i < l.length by omega)))
      have hsm := hid (fold_le satt satt_le (l.take i) 1 (by decide))
      generalize l[i] = x at *
      generalize hs : (l.take i).foldl satt 1 = s at *
      clear hs
      have hdiv := hid (satt_div (x := x) hsm.out)
      by_cases h0 : x = 0
      · subst h0
        go_wp2
        go_roundg m
        case measure => omega
        case rel => exact ⟨i + 1, by omega, by go_num, by rw [hstep.out]; unfold satt; rw [Nat.mul_zero, Nat.zero_min]; rfl, rfl⟩
      · have hx0 : ((x : Int) != 0) = true := by rw [bne_iff_ne]; omega
        have hdq : (4611686018427387904 : Int) / (x : Int) = ((MB / x : Nat) : Int) := by unfold MB; simp
        by_cases hcmp : MB / x < s
        · have hm : satt s x = MB := by rw [← hdiv.out, if_pos ⟨h0, hcmp⟩]
          have hcc : (4611686018427387904 : Int) / (x : Int) < (s : Int) := by rw [hdq]; exact Int.ofNat_lt.2 hcmp
          have hmH := hid hm
          clear hdq hcmp hm
          go_wp2
          go_roundg m
          case measure => omega
          case rel => exact ⟨i + 1, by omega, by go_num, by rw [hstep.out, hmH.out]; rfl, rfl⟩
        · have hm : satt s x = s * x := by rw [← hdiv.out, if_neg (fun h => hcmp h.2)]
          have hcc : ¬ ((4611686018427387904 : Int) / (x : Int) < (s : Int)) := by rw [hdq]; exact fun h => hcmp (Int.ofNat_lt.1 h)
          have hw : IntKind.u64.wrap ((s : Int) * (x : Int)) = ((s * x : Nat) : Int) := by
            have h1 := satt_le s x
            rw [hm] at h1
            unfold MB at h1
            rw [← Int.natCast_mul]
            generalize s * x = t at *
            rw [u64_nat (by omega) (by omega)]
          have hmH := hid hm
          clear hdq hcmp hm
          go_wp2
          go_roundg m
          case measure => omega
          case rel => exact ⟨i + 1, by omega, by go_num, by rw [hstep.out, hmH.out, Int.natCast_mul], rfl⟩
theorem hold_at (z : Sz) (hz : May z) (w : World) : Calls Try.prog 23 #[sv z] w fun e w' => e = .returned (.int .u64 (holdV z : Int)) ∧ w' = w.alloc (.cells #[.int .i64 z.W, .int .i64 z.P, .int .i64 z.T, .int .i64 z.C, .int .i64 z.N, .int .i64 z.Q] 23) := by
  have hH := hold_lt hz
  have h0 : (holdV z : Int) = 8 * z.T * z.N + 8 * z.N + 40 := by unfold holdV; omega
  have hN : 1 ≤ z.N ∧ z.N ≤ 6 := hz.2.2.2.2.1
  have hT : 1 ≤ z.T ∧ z.T ≤ 32 := hz.2.2.1
  have hp : 0 ≤ 8 * z.T * z.N := Int.mul_nonneg (by omega) (by omega)
  have q1 : IntKind.i64.wrap (8 * z.T) = 8 * z.T := IntWalk.i64_in _ (by omega)
  have q2 : IntKind.i64.wrap (8 * z.T * z.N) = 8 * z.T * z.N := IntWalk.i64_in _ (by omega)
  have q3 : IntKind.i64.wrap (8 * z.N) = 8 * z.N := IntWalk.i64_in _ (by omega)
  have q4 : IntKind.i64.wrap (8 * z.T * z.N + 8 * z.N) = 8 * z.T * z.N + 8 * z.N := IntWalk.i64_in _ (by omega)
  have q5 : IntKind.i64.wrap (8 * z.T * z.N + 8 * z.N + 40) = 8 * z.T * z.N + 8 * z.N + 40 := IntWalk.i64_in _ (by omega)
  have q6 : IntKind.u64.wrap (8 * z.T * z.N + 8 * z.N + 40) = (holdV z : Int) := by rw [h0]; exact u64_nat (by omega) (by omega)
  clear hH h0 hp hN hT
  go_enter Try.func23, Try.ntmps23
  go_wp2
  go_ret
  exact ⟨rfl, rfl⟩
/-- The channels' numbers, behind so many rounds. -/
def arr (H P C i : Nat) : List Nat := (List.range 6).map fun k => if C - i ≤ k ∧ k < C then lockV H P (C - 1 - k) else 0
def u64s (l : List Nat) : List Value := l.map (fun n : Nat => Value.int .u64 (n : Int))
theorem arr_get (H P C i k : Nat) (hk : k < 6) : (arr H P C i)[k]? = some (if C - i ≤ k ∧ k < C then lockV H P (C - 1 - k) else 0) := by
  unfold arr
  rw [List.getElem?_map, List.getElem?_range hk]; rfl
theorem arr_len (H P C i : Nat) : (arr H P C i).length = 6 := by simp [arr]
theorem arr_step (H P C i : Nat) (hi : i < C) (hC : C ≤ 6) : arr H P C (i + 1) = (arr H P C i).set (C - 1 - i) (lockV H P i) := by
  apply List.ext_getElem?
  intro k
  rw [List.getElem?_set, arr_len]
  by_cases hk : k < 6
  · rw [arr_get _ _ _ _ _ hk, arr_get _ _ _ _ _ hk]
    by_cases e : C - 1 - i = k
    · subst e
      rw [if_pos rfl, if_pos hk, if_pos (by omega), show C - 1 - (C - 1 - i) = i by omega]
    · rw [if_neg e]
      congr 1
      by_cases h : C - i ≤ k ∧ k < C
      · rw [if_pos h, if_pos (by omega)]
      · rw [if_neg h, if_neg (by omega)]
  · rw [List.getElem?_eq_none (by rw [arr_len]; omega), List.getElem?_eq_none (by rw [arr_len]; omega)]
    split
    · rw [if_neg (by omega)]
    · rfl
theorem n64_two {w : World} {b x y : Nat} (h0 : w.cell? ⟨b, 0, none⟩ = some (.int .u64 (x : Int))) (h1 : w.cell? ⟨b, 1, none⟩ = some (.int .u64 (y : Int))) : N64 w (some ⟨b, 0, none⟩) [x, y] :=
  ⟨fun i hi => ⟨_, rfl, by
    rw [addr_add0]
    match i, hi with
    | 0, _ => exact h0
    | 1, _ => exact h1⟩⟩
theorem n64_three {w : World} {b x y z : Nat} (h0 : w.cell? ⟨b, 0, none⟩ = some (.int .u64 (x : Int))) (h1 : w.cell? ⟨b, 1, none⟩ = some (.int .u64 (y : Int))) (h2 : w.cell? ⟨b, 2, none⟩ = some (.int .u64 (z : Int))) : N64 w (some ⟨b, 0, none⟩) [x, y, z] :=
  ⟨fun i hi => ⟨_, rfl, by
    rw [addr_add0]
    match i, hi with
    | 0, _ => exact h0
    | 1, _ => exact h1
    | 2, _ => exact h2⟩⟩
abbrev szs (z : Sz) : List Value := [.int .i64 z.W, .int .i64 z.P, .int .i64 z.T, .int .i64 z.C, .int .i64 z.N, .int .i64 z.Q]
structure Lk (w : World) (b : Nat) (z : Sz) (H P C i : Nat) : Prop where
  size : Blk w b 23 (szs z)
  row : Blk w (b + 1) 41 (u64s (arr H P C i))
theorem n64_new {w : World} {n : Nat} (l : List Nat) (hn : n = w.heap.size) : N64 (w.alloc (.cells (u64s l).toArray 25)) (some ⟨n, 0, none⟩) l := by
  subst hn
  refine ⟨fun i hi => ⟨_, rfl, ?_⟩⟩
  rw [addr_add0, (Blk.new w 25 (u64s l)).cell i]
  rw [List.length_map] at hi
  simp [u64s, List.getD_eq_getElem?_getD, hi]
theorem n64_alloc {w : World} {A : Option Addr} {l : List Nat} (o : Obj) (h : N64 w A l) : N64 (w.alloc o) A l := Nums.below h ((Below.refl _ _).alloc (Nat.le_refl _) _)
theorem n64_drew {w : World} {A : Option Addr} {l : List Nat} (h : N64 w A l) : N64 w.drew A l := Nums.drew h
theorem bl_alloc {w w' : World} (h : Below w.heap.size w w') (o : Obj) : Below w.heap.size w (w'.alloc o) := h.alloc h.size _
theorem bl_drew {w w' : World} (h : Below w.heap.size w w') : Below w.heap.size w w'.drew := ⟨h.os, h.tape, h.output, h.size, h.block⟩
theorem bl_drewN {w w' : World} {n : Nat} (h : Below w.heap.size w w') : Below w.heap.size w (w'.drewN n) := ⟨h.os, h.tape, h.output, h.size, h.block⟩
/-- A block stays as it is. -/
structure Fr (b : Nat) (w w' : World) : Prop where
  lt : b < w.heap.size
  size : w.heap.size ≤ w'.heap.size
  eq : w'.heap[b]? = w.heap[b]?
theorem Fr.refl {b : Nat} {w : World} (h : b < w.heap.size) : Fr b w w := ⟨h, Nat.le_refl _, rfl⟩
theorem Fr.alloc {b : Nat} {w w' : World} (h : Fr b w w') (o : Obj) : Fr b w (w'.alloc o) := ⟨h.lt, Nat.le_trans h.size (by simp), (Below.heap_alloc _ _ _ (Nat.lt_of_lt_of_le h.lt h.size)).trans h.eq⟩
theorem Fr.drew {b : Nat} {w w' : World} (h : Fr b w w') : Fr b w w'.drew := ⟨h.lt, h.size, h.eq⟩
theorem Fr.drewN {b n : Nat} {w w' : World} (h : Fr b w w') : Fr b w (w'.drewN n) := ⟨h.lt, h.size, h.eq⟩
theorem Fr.set1 {b : Nat} {w w' : World} {i : Nat} {v : Value} (h : Fr b w w') : Fr b w (w'.setCell ⟨b + 1, i, none⟩ v) := ⟨h.lt, by simpa [World.setCell] using h.size, (Below.heap_setCell _ _ _ _ (by show b ≠ b + 1; omega)).trans h.eq⟩
theorem six {l : List Nat} (h : l.length = 6) : ∃ a b c d e f, l = [a, b, c, d, e, f] := by
  match l, h with
  | [a, b, c, d, e, f], _ => exact ⟨a, b, c, d, e, f, rfl⟩
theorem lk_step {wr : World} {b H P C i j : Nat} {z : Sz} (hL : Lk wr b z H P C i) (hi : i < C) (hC : C ≤ 6) (hj : j = C - 1 - i) (o1 o2 o3 : Obj) : Lk ((((wr.alloc o1).alloc o2).alloc o3).setCell ⟨b + 1, j, none⟩ (.int .u64 (lockV H P i : Int))).drew b z H P C (i + 1) := by
  refine ⟨(((hL.size.alloc _).alloc _).alloc _).set_other _ _ (by show b ≠ b + 1; omega), ?_⟩
  have := (((hL.row.alloc o1).alloc o2).alloc o3).set j (.int .u64 (lockV H P i : Int))
  rw [arr_step H P C i hi hC, ← hj]
  unfold u64s at *
  rw [List.map_set]
  exact this
theorem n64_new3 {w : World} (x y z : Nat) : N64 (w.alloc (.cells #[.int .u64 (x : Int), .int .u64 (y : Int), .int .u64 (z : Int)] 25)) (some ⟨w.heap.size, 0, none⟩) [x, y, z] := n64_new [x, y, z] rfl
set_option maxHeartbeats 4000000 in
theorem locks_at (z : Sz) (hz : May z) (w : World) : Calls Try.prog 21 #[sv z] w fun e w' => e = .returned (.tuple #[.agg (u64s (arr (holdV z) z.P.toNat z.C.toNat z.C.toNat)).toArray, .int .u64 (sumV (holdV z) z.P.toNat z.C.toNat : Int)]) ∧ Below w.heap.size w w' := by
  obtain ⟨zW, zP, zT, zC, zN, zQ⟩ := z
  obtain ⟨C, rfl⟩ : ∃ C : Nat, zC = (C : Int) := ⟨zC.toNat, by have : 0 ≤ zC := hz.2.2.2.1.1; omega⟩
  obtain ⟨P, rfl⟩ : ∃ P : Nat, zP = (P : Int) := ⟨zP.toNat, by have : 1 ≤ zP := hz.2.1.1; omega⟩
  have hC6 : C ≤ 6 := by have : (C : Int) ≤ 6 := hz.2.2.2.1.2; omega
  have hP255 : P ≤ 255 := by have : (P : Int) ≤ min 255 zW := hz.2.1.2; omega
  have hH := hold_at _ hz
  have hHl : holdV ⟨zW, P, zT, C, zN, zQ⟩ ≤ 1624 := by have := hold_lt hz; unfold holdV; omega
  simp only [Int.toNat_natCast]
  generalize holdV ⟨zW, P, zT, C, zN, zQ⟩ = H at *
  go_enter Try.func21, Try.ntmps21
  go_wp2
  go_loopg [3, 8] C (fun kq v3 v8 w' => ∃ i : Nat, kq + i = C ∧ v8 = .int .i64 (i : Int) ∧ v3 = .int .u64 (sumV H P i : Int) ∧ Below w.heap.size w w' ∧ Lk w' w.heap.size ⟨zW, P, zT, C, zN, zQ⟩ H P C i)
  case atStart =>
    refine ⟨0, by omega, rfl, rfl, ((Below.refl _ _).alloc (Nat.le_refl _) _).alloc (by simp) _, ⟨?_, ?_⟩⟩
    · exact (Blk.new w 23 (szs ⟨zW, P, zT, C, zN, zQ⟩)).alloc _
    · have e : u64s (arr H P C 0) = [.int .u64 0, .int .u64 0, .int .u64 0, .int .u64 0, .int .u64 0, .int .u64 0] := by
        unfold u64s arr
        simp only [List.range, List.range.loop, List.map_cons, List.map_nil]
        repeat rw [if_neg (by omega)]
        rfl
      rw [e]
      have := Blk.new (w.alloc (.cells (szs ⟨zW, P, zT, C, zN, zQ⟩).toArray 23)) 41 [.int .u64 0, .int .u64 0, .int .u64 0, .int .u64 0, .int .u64 0, .int .u64 0]
      rw [World.size_alloc] at this
      exact this
  case round =>
    obtain ⟨i, hi, rfl, rfl, hb, hL⟩ := hrel
    cases gk with
    | zero =>
      have hin : ¬ ((i : Int) < (C : Int)) := by omega
      obtain rfl : i = C := by omega
      obtain ⟨a0, a1, a2, a3, a4, a5, ha⟩ := six (arr_len H P i i)
      have hR := hL.row
      rw [ha] at hR
      have k0 : wr.cell? ⟨w.heap.size + 1, 0, none⟩ = some (.int .u64 (a0 : Int)) := hR.cell 0
      have k1 : wr.cell? ⟨w.heap.size + 1, 1, none⟩ = some (.int .u64 (a1 : Int)) := hR.cell 1
      have k2 : wr.cell? ⟨w.heap.size + 1, 2, none⟩ = some (.int .u64 (a2 : Int)) := hR.cell 2
      have k3 : wr.cell? ⟨w.heap.size + 1, 3, none⟩ = some (.int .u64 (a3 : Int)) := hR.cell 3
      have k4 : wr.cell? ⟨w.heap.size + 1, 4, none⟩ = some (.int .u64 (a4 : Int)) := hR.cell 4
      have k5 : wr.cell? ⟨w.heap.size + 1, 5, none⟩ = some (.int .u64 (a5 : Int)) := hR.cell 5
      have hz := hR.frozen
      clear hR hL hH
      have hb5 := (((((hb.setCell (p := ⟨w.heap.size + 1, 0, none⟩) (Nat.le_succ _) (.int .u64 (a0 : Int))).setCell (p := ⟨w.heap.size + 1, 1, none⟩) (Nat.le_succ _) (.int .u64 (a1 : Int))).setCell (p := ⟨w.heap.size + 1, 2, none⟩) (Nat.le_succ _) (.int .u64 (a2 : Int))).setCell (p := ⟨w.heap.size + 1, 3, none⟩) (Nat.le_succ _) (.int .u64 (a3 : Int))).setCell (p := ⟨w.heap.size + 1, 4, none⟩) (Nat.le_succ _) (.int .u64 (a4 : Int))).setCell (p := ⟨w.heap.size + 1, 5, none⟩) (Nat.le_succ _) (.int .u64 (a5 : Int))
      have haH := hid ha
      clear ha hb
      go_wp2
      refine bodyPost_ret (v := .tuple #[.agg #[.int .u64 (a0 : Int), .int .u64 (a1 : Int), .int .u64 (a2 : Int), .int .u64 (a3 : Int), .int .u64 (a4 : Int), .int .u64 (a5 : Int)], .int .u64 (sumV H P i : Int)]) (by rw [results_cell_tmp rfl]; go_simp) rfl ?_
      exact ⟨by rw [haH.out]; rfl, hb5⟩
    | succ m =>
      have hin : ((i : Int) < (C : Int)) := by omega
      have z0 : wr.cell? ⟨w.heap.size, 0, none⟩ = some (.int .i64 zW) := hL.size.cell 0
      have z1 : wr.cell? ⟨w.heap.size, 1, none⟩ = some (.int .i64 (P : Int)) := hL.size.cell 1
      have z2 : wr.cell? ⟨w.heap.size, 2, none⟩ = some (.int .i64 zT) := hL.size.cell 2
      have z3 : wr.cell? ⟨w.heap.size, 3, none⟩ = some (.int .i64 (C : Int)) := hL.size.cell 3
      have z4 : wr.cell? ⟨w.heap.size, 4, none⟩ = some (.int .i64 zN) := hL.size.cell 4
      have z5 : wr.cell? ⟨w.heap.size, 5, none⟩ = some (.int .i64 zQ) := hL.size.cell 5
      have q1 : IntKind.i64.wrap ((C : Int) - 1) = (C : Int) - 1 := IntWalk.i64_in _ (by omega)
      have q2 : IntKind.i64.wrap ((C : Int) - 1 - (i : Int)) = ((C - 1 - i : Nat) : Int) := by rw [IntWalk.i64_in _ (by omega)]; omega
      have q3 : IntKind.u64.wrap (P : Int) = (P : Int) := by rw [u64_nat (by omega) (by omega)]
      have q4 : C - 1 - i < 6 := by omega
      have x2 : Hid (∀ x ∈ [H, sumV H P i], x ≤ MB) := by
        intro x hx
        rcases List.mem_cons.1 hx with rfl | hx
        · unfold MB; omega
        · rcases List.mem_cons.1 hx with rfl | hx
          · exact sumV_le _ _ _
          · simp at hx
      have x3 : Hid (∀ x ∈ [P, plusL [H, sumV H P i]], x ≤ MB) := by
        intro x hx
        rcases List.mem_cons.1 hx with rfl | hx
        · unfold MB; omega
        · rcases List.mem_cons.1 hx with rfl | hx
          · exact plusL_le _
          · simp at hx
      obtain ⟨j, hj⟩ : ∃ j, j = C - 1 - i := ⟨_, rfl⟩
      rw [← hj] at q2 q4
      have j1 : (0 : Int) ≤ (j : Int) := by omega
      have j2 : (j : Int) < 6 := by omega
      obtain ⟨y, hy⟩ : ∃ y, wr.cell? ⟨w.heap.size + 1, j, none⟩ = some y := ⟨_, (hL.row.cell j).trans (List.getElem?_eq_getElem (by rw [u64s, List.length_map, arr_len]; exact q4))⟩
      have hfr := hL.row.frozen (i := j)
      have hall := hid (show ∀ W, Fr w.heap.size wr W → W.cell? ⟨w.heap.size, 0, none⟩ = some (.int .i64 zW) ∧ W.cell? ⟨w.heap.size, 1, none⟩ = some (.int .i64 (P : Int)) ∧ W.cell? ⟨w.heap.size, 2, none⟩ = some (.int .i64 zT) ∧ W.cell? ⟨w.heap.size, 3, none⟩ = some (.int .i64 (C : Int)) ∧ W.cell? ⟨w.heap.size, 4, none⟩ = some (.int .i64 zN) ∧ W.cell? ⟨w.heap.size, 5, none⟩ = some (.int .i64 zQ) from fun W hB => by
        have hB' := hL.size.same hB.eq
        exact ⟨hB'.cell 0, hB'.cell 1, hB'.cell 2, hB'.cell 3, hB'.cell 4, hB'.cell 5⟩)
      have hFr := Fr.refl hL.size.lt
      have hy3 : (((wr.alloc (.cells (szs ⟨zW, P, zT, C, zN, zQ⟩).toArray 23)).alloc (.cells (u64s [H, sumV H P i]).toArray 25)).alloc (.cells (u64s [P, plusL [H, sumV H P i]]).toArray 25)).cell? ⟨w.heap.size + 1, j, none⟩ = some y := by
        rw [← hy, (((hL.row.alloc _).alloc _).alloc _).cell, hL.row.cell]
      have hf3 : (((wr.alloc (.cells (szs ⟨zW, P, zT, C, zN, zQ⟩).toArray 23)).alloc (.cells (u64s [H, sumV H P i]).toArray 25)).alloc (.cells (u64s [P, plusL [H, sumV H P i]]).toArray 25)).frozen? ⟨w.heap.size + 1, j, none⟩ = false := (((hL.row.alloc _).alloc _).alloc _).frozen j
      have hjH := hid hj
      clear hj
      go_wp2_with (fail)
      go_region_held3 (fun W : World => W.cell? ⟨w.heap.size, 0, none⟩ = some (.int .i64 zW) ∧ W.cell? ⟨w.heap.size, 1, none⟩ = some (.int .i64 (P : Int)) ∧ W.cell? ⟨w.heap.size, 2, none⟩ = some (.int .i64 zT) ∧ W.cell? ⟨w.heap.size, 3, none⟩ = some (.int .i64 (C : Int)) ∧ W.cell? ⟨w.heap.size, 4, none⟩ = some (.int .i64 zN) ∧ W.cell? ⟨w.heap.size, 5, none⟩ = some (.int .i64 zQ)) (first | (refine ⟨?_, ?_, ?_, ?_, ?_, ?_⟩ <;> assumption) | (refine hall.out _ ?_; repeat (first | exact hFr | apply Fr.drew | apply Fr.drewN | apply Fr.alloc | apply Fr.set1)) | go_keep) (first
        | (go_at_call 23; refine (hH _).mono ?_; rintro e w2 ⟨rfl, rfl⟩)
        | (go_at_call 24; refine (times_at _ 2 [P, plusL [H, sumV H P i]] (by simp) x3 _ (Nums.drew (n64_new [P, plusL [H, sumV H P i]] ?_))).mono ?_; simp; rintro e w3 ⟨rfl, rfl⟩)
        | (go_at_call 22; refine (plus_at _ 2 [H, sumV H P i] (by simp) x2 _ (Nums.drew (n64_new [H, sumV H P i] ?_))).mono ?_; simp; rintro e w3 ⟨rfl, rfl⟩))
      obtain ⟨W5, hW5⟩ : ∃ W5, W5 = ((((wr.alloc (.cells (szs ⟨zW, P, zT, C, zN, zQ⟩).toArray 23)).alloc (.cells (u64s [H, sumV H P i]).toArray 25)).alloc (.cells (u64s [P, plusL [H, sumV H P i]]).toArray 25)).setCell ⟨w.heap.size + 1, j, none⟩ (.int .u64 (timesL [P, plusL [H, sumV H P i]] : Int))).drew := ⟨_, rfl⟩
      have hL5 : Lk W5 w.heap.size ⟨zW, P, zT, C, zN, zQ⟩ H P C (i + 1) := by rw [hW5]; exact lk_step hL (by omega) hC6 hjH.out _ _ _
      have hb5 : Below w.heap.size w W5 := by
        rw [hW5]
        have := (((hb.alloc hb.size (.cells (szs ⟨zW, P, zT, C, zN, zQ⟩).toArray 23)).alloc (Nat.le_trans hb.size (by simp)) (.cells (u64s [H, sumV H P i]).toArray 25)).alloc (Nat.le_trans hb.size (by simp; omega)) (.cells (u64s [P, plusL [H, sumV H P i]]).toArray 25)).setCell (p := ⟨w.heap.size + 1, j, none⟩) (Nat.le_succ _) (.int .u64 (timesL [P, plusL [H, sumV H P i]] : Int))
        exact ⟨this.os, this.tape, this.output, this.size, this.block⟩
      rw [← hW5]
      clear hW5 hy3 hf3 hall hFr hL hb z0 z1 z2 z3 z4 z5 hy hfr x2 x3
      have x4 : Hid (∀ x ∈ [sumV H P i, lockV H P i, 2], x ≤ MB) := by
        intro x hx
        rcases List.mem_cons.1 hx with rfl | hx
        · exact sumV_le _ _ _
        · rcases List.mem_cons.1 hx with rfl | hx
          · exact lockV_le _ _ _
          · rcases List.mem_cons.1 hx with rfl | hx
            · decide
            · simp at hx
      have hcj : W5.cell? ⟨w.heap.size + 1, j, none⟩ = some (.int .u64 (lockV H P i : Int)) := by
        rw [hL5.row.cell, u64s, List.getElem?_map, arr_get _ _ _ _ _ q4, if_pos (by have := hjH.out; omega)]
        have : C - 1 - j = i := by have := hjH.out; omega
        rw [this]; rfl
      go_wp2_with (fail)
      refine (plus_at _ 3 [sumV H P i, lockV H P i, 2] (by simp) x4 _ (n64_new3 _ _ _)).mono ?_
      rintro e w6 ⟨rfl, rfl⟩
      have hL6 : Lk (W5.alloc (.cells #[.int .u64 (sumV H P i : Int), .int .u64 (lockV H P i : Int), .int .u64 2] 25)) w.heap.size ⟨zW, P, zT, C, zN, zQ⟩ H P C (i + 1) := ⟨hL5.size.alloc _, hL5.row.alloc _⟩
      have hb6 : Below w.heap.size w (W5.alloc (.cells #[.int .u64 (sumV H P i : Int), .int .u64 (lockV H P i : Int), .int .u64 2] 25)) := hb5.alloc hb5.size _
      clear hL5 hb5 hcj x4
      go_wp2_with (fail)
      go_roundg m
      case measure => omega
      case rel => exact ⟨i + 1, by omega, by go_num, rfl, hb6, hL6⟩
end Go.Proofs.Ytabcodjalacdjac.BoundCode
