
/- What the methods of package pool do to memory: a pool is a block of three cells, and a block of slots, seven cells each. -/
import Derived.Test.YtmhnfcodppfaiaaProg
import Derived.Test.YtmhnfcodppfaiaaWWords
import Derived.WalkKit
import Derived.KernelRfl
import Derived.Deep.QuietTactic
import Derived.BigQuiet
import Derived.Deep.RegionHeld3
namespace Go.Proofs.Ytmhnfcodppfaiaa.PoolCode
open Go.RowKit
set_option maxRecDepth 100000
set_option linter.unusedVariables false
/-- A sudog. -/
structure Sg where
  (t c : Int) (s : Bool) (v u : Int)
deriving DecidableEq
def Sg.cells (x : Sg) : List Value := [.int .i64 x.t, .int .i64 x.c, .bool x.s, .int .i64 x.v, .int .u64 x.u]
def Sg.val (x : Sg) : Value := .agg #[.int .i64 x.t, .int .i64 x.c, .bool x.s, .int .i64 x.v, .int .u64 x.u]
def Sg.zero : Sg := ⟨0, 0, false, 0, 0⟩
/-- A slot. -/
structure Slot where
  (is : Bool) (x : Sg) (next : Int)
def Slot.cells (y : Slot) : List Value := [.bool y.is, .int .i64 y.x.t, .int .i64 y.x.c, .bool y.x.s, .int .i64 y.x.v, .int .u64 y.x.u, .int .i64 y.next]
def row : List Slot → List Value
  | [] => []
  | y :: l => y.cells ++ row l
theorem row_len : ∀ l : List Slot, (row l).length = l.length * 7
  | [] => rfl
  | y :: l => by rw [row, List.length_append, row_len l]; simp only [Slot.cells, List.length_cons, List.length_nil]; omega
theorem row_append : ∀ l r : List Slot, row (l ++ r) = row l ++ row r
  | [], _ => rfl
  | y :: l, r => by rw [List.cons_append, row, row_append l r, row, List.append_assoc]
theorem row_at (l : List Slot) (pad : List Value) (i j : Nat) (y : Slot) (h : l[i]? = some y) (hj : j < 7) : (row l ++ pad)[i * 7 + j]? = y.cells[j]? := by
  obtain ⟨hi, rfl⟩ := List.getElem?_eq_some_iff.1 h
  have e : l = l.take i ++ (l[i] :: l.drop (i + 1)) := by rw [← List.drop_eq_getElem_cons hi, List.take_append_drop]
  have e2 : row l = row (l.take i) ++ ((l[i]).cells ++ row (l.drop (i + 1))) := by
    conv => lhs; rw [e]
    rw [row_append, row]
  rw [e2, List.append_assoc, List.getElem?_append_right (by rw [row_len, List.length_take]; omega), row_len, List.length_take, Nat.min_eq_left (by omega), Nat.add_sub_cancel_left, List.append_assoc, List.getElem?_append_left (by simpa [Slot.cells] using hj)]
theorem row_set (l : List Slot) (pad : List Value) (i : Nat) (y : Slot) (h : i < l.length) : row (l.set i y) ++ pad = (row l ++ pad).take (i * 7) ++ y.cells ++ (row l ++ pad).drop (i * 7 + 7) := by
  have e : l = l.take i ++ (l[i] :: l.drop (i + 1)) := by rw [← List.drop_eq_getElem_cons h, List.take_append_drop]
  have e2 : row l = row (l.take i) ++ ((l[i]).cells ++ row (l.drop (i + 1))) := by
    conv => lhs; rw [e]
    rw [row_append, row]
  have e3 : row (l.set i y) = row (l.take i) ++ (y.cells ++ row (l.drop (i + 1))) := by
    rw [List.set_eq_take_append_cons_drop, if_pos h, row_append, row]
  have n1 : (row (l.take i)).length = i * 7 := by rw [row_len, List.length_take, Nat.min_eq_left (by omega)]
  rw [e3, e2]
  simp only [List.append_assoc]
  rw [List.take_left' n1, List.drop_append, n1, List.drop_of_length_le (by omega : (row (l.take i)).length ≤ i * 7 + 7), Nat.add_sub_cancel_left]
  simp [Slot.cells]
/-- A pool in memory. -/
structure PoolAt (w : World) (p q : Nat) (l : List Slot) (pad : List Value) (cp : Nat) (f n : Int) : Prop where
  head : w.heap[p]? = some (.cells #[.slice (some ⟨q, 0, none⟩) l.length cp, .int .i64 f, .int .i64 n] 52 (0, 0))
  slots : ∃ C, w.heap[q]? = some (.cells C 54 (0, 0)) ∧ C.toList = row l ++ pad
  ne : q ≠ p
/-- But blocks p and q the world is as it was. -/
structure Else (p q : Nat) (w w' : World) : Prop where
  os : w'.os = w.os
  tape : w'.tape = w.tape
  output : w'.output = w.output
  size : w.heap.size ≤ w'.heap.size
  block : ∀ k, k < w.heap.size → k ≠ p → k ≠ q → w'.heap[k]? = w.heap[k]?
theorem Else.below {B p q : Nat} {w0 w w' : World} (h : Else p q w w') (hb : Below B w0 w) (hB : B ≤ w.heap.size) (hp : B ≤ p) (hq : B ≤ q) : Below B w0 w' :=
  ⟨h.os.trans hb.os, h.tape.trans hb.tape, h.output.trans hb.output, Nat.le_trans hb.size h.size, fun k hk => (h.block k (by omega) (by omega) (by omega)).trans (hb.block k hk)⟩
theorem heap_lt {w : World} {b : Nat} {o : Obj} (h : w.heap[b]? = some o) : b < w.heap.size := by
  rcases Nat.lt_or_ge b w.heap.size with h1 | h1
  · exact h1
  · rw [Array.getElem?_eq_none h1] at h; cases h
theorem cell_of {w : World} {b i : Nat} {c : Array Value} {e : TypeId} (h : w.heap[b]? = some (.cells c e (0, 0))) : w.cell? ⟨b, i, none⟩ = c[i]? := by
  unfold World.cell?; simp only [h]; rfl
theorem frozen_of {w : World} {b i : Nat} {c : Array Value} {e : TypeId} (h : w.heap[b]? = some (.cells c e (0, 0))) : w.frozen? ⟨b, i, none⟩ = false := by
  unfold World.frozen?; simp only [h]; simp
theorem heap_set {w : World} {b i : Nat} {v : Value} {c : Array Value} {e : TypeId} {fr : Nat × Nat} (h : w.heap[b]? = some (.cells c e fr)) : (w.setCell ⟨b, i, none⟩ v).heap[b]? = some (.cells (c.setIfInBounds i v) e fr) := by
  unfold World.setCell
  simp only [Array.getElem?_modify, h]
  simp
theorem heap_drew {w : World} : w.drew.heap = w.heap := rfl
theorem heap_drewN {w : World} {n : Nat} : (w.drewN n).heap = w.heap := rfl
section
variable {w : World} {p q cp : Nat} {l : List Slot} {pad : List Value} {f n : Int}
theorem PoolAt.lp (h : PoolAt w p q l pad cp f n) : p < w.heap.size := heap_lt h.head
theorem PoolAt.lq (h : PoolAt w p q l pad cp f n) : q < w.heap.size := heap_lt h.slots.choose_spec.1
theorem PoolAt.c0 (h : PoolAt w p q l pad cp f n) : w.cell? ⟨p, 0, none⟩ = some (.slice (some ⟨q, 0, none⟩) l.length cp) := cell_of h.head
theorem PoolAt.c1 (h : PoolAt w p q l pad cp f n) : w.cell? ⟨p, 1, none⟩ = some (.int .i64 f) := cell_of h.head
theorem PoolAt.c2 (h : PoolAt w p q l pad cp f n) : w.cell? ⟨p, 2, none⟩ = some (.int .i64 n) := cell_of h.head
theorem PoolAt.fp (h : PoolAt w p q l pad cp f n) (i : Nat) : w.frozen? ⟨p, i, none⟩ = false := frozen_of h.head
theorem PoolAt.fq (h : PoolAt w p q l pad cp f n) (i : Nat) : w.frozen? ⟨q, i, none⟩ = false := frozen_of h.slots.choose_spec.1
theorem PoolAt.at (h : PoolAt w p q l pad cp f n) {i j : Nat} {y : Slot} (hy : l[i]? = some y) (hj : j < 7) : w.cell? ⟨q, i * 7 + j, none⟩ = y.cells[j]? := by
  obtain ⟨C, h1, h2⟩ := h.slots
  rw [cell_of h1, ← Array.getElem?_toList, h2, row_at l pad i j y hy hj]
/-- Its world grows, or draws: it stands. -/
theorem PoolAt.else {w' : World} (h : PoolAt w p q l pad cp f n) (hp : w'.heap[p]? = w.heap[p]?) (hq : w'.heap[q]? = w.heap[q]?) : PoolAt w' p q l pad cp f n :=
  ⟨hp.trans h.head, by obtain ⟨C, h1, h2⟩ := h.slots; exact ⟨C, hq.trans h1, h2⟩, h.ne⟩
end
theorem len_raw (p : Nat) (n : Int) (w : World) (h : w.cell? ⟨p, 2, none⟩ = some (.int .i64 n)) :
   Calls Try.prog 12 #[.pointer (some ⟨p,0,none⟩)] w fun e w' => e = .returned (.int .i64 n) ∧ w' = w := by
  go_enter Try.func12, Try.ntmps12
  go_wp2
  go_ret
  exact ⟨rfl, rfl⟩
theorem free_raw (p : Nat) (A : Option Addr) (l c : Nat) (n : Int) (w : World) (h0 : w.cell? ⟨p, 0, none⟩ = some (.slice A l c)) (h : w.cell? ⟨p, 2, none⟩ = some (.int .i64 n)) :
   Calls Try.prog 9 #[.pointer (some ⟨p,0,none⟩)] w fun e w' => e = .returned (.int .i64 (wrap64 ((l : Int) - n))) ∧ ∃ k, w' = w.drewN k := by
  go_enter Try.func9, Try.ntmps9
  go_wp2_with (go_quiet (fail))
  go_ret
  exact ⟨rfl, _, rfl⟩
theorem take_full_raw (p : Nat) (f t c v u : Int) (s : Bool) (w : World) (hp : p < w.heap.size) (hf : f < 0) (h1 : w.cell? ⟨p, 1, none⟩ = some (.int .i64 f)) :
   Calls Try.prog 8 #[.pointer (some ⟨p,0,none⟩), .agg #[.int .i64 t, .int .i64 c, .bool s, .int .i64 v, .int .u64 u]] w fun e w' => e = .returned (.tuple #[.int .i64 0, .int .i64 4]) ∧ w' = w.alloc (.cells #[.int .i64 t, .int .i64 c, .bool s, .int .i64 v, .int .u64 u] 32) := by
  go_enter Try.func8, Try.ntmps8
  go_wp2
  go_ret2
  exact ⟨rfl, rfl⟩
theorem take_raw (p q l cp i : Nat) (f g n t c v u : Int) (s : Bool) (y0 y1 y2 y3 y4 y5 : Value) (w : World) (hp : p < w.heap.size) (hq : q < w.heap.size) (hpq : q ≠ p) (hf : 0 ≤ f) (hfl : f < l) (hi : f.toNat = i) (h1 : w.cell? ⟨p, 1, none⟩ = some (.int .i64 f)) (h0 : w.cell? ⟨p, 0, none⟩ = some (.slice (some ⟨q,0,none⟩) l cp)) (h2 : w.cell? ⟨p, 2, none⟩ = some (.int .i64 n))
   (h30 : w.cell? ⟨q, i * 7, none⟩ = some y0) (h31 : w.cell? ⟨q, i * 7 + 1, none⟩ = some y1) (h32 : w.cell? ⟨q, i * 7 + 2, none⟩ = some y2) (h33 : w.cell? ⟨q, i * 7 + 3, none⟩ = some y3) (h34 : w.cell? ⟨q, i * 7 + 4, none⟩ = some y4) (h35 : w.cell? ⟨q, i * 7 + 5, none⟩ = some y5) (h36 : w.cell? ⟨q, i * 7 + 6, none⟩ = some (.int .i64 g)) (hz0 : ∀ i, w.frozen? ⟨p, i, none⟩ = false) (hz1 : ∀ i, w.frozen? ⟨q, i, none⟩ = false) :
   Calls Try.prog 8 #[.pointer (some ⟨p,0,none⟩), .agg #[.int .i64 t, .int .i64 c, .bool s, .int .i64 v, .int .u64 u]] w fun e w' => e = .returned (.tuple #[.int .i64 f, .int .i64 0]) ∧
     w' = ((((w.setCell ⟨p, 1, none⟩ (.int .i64 g)).setCells q (i * 7) [.bool true, .int .i64 t, .int .i64 c, .bool s, .int .i64 v, .int .u64 u, .int .i64 0]).setCell ⟨p, 2, none⟩ (.int .i64 (wrap64 (n + 1)))).alloc (.cells #[.int .i64 t, .int .i64 c, .bool s, .int .i64 v, .int .u64 u] 32)).drew := by
  subst hi
  go_enter Try.func8, Try.ntmps8
  go_wp2
  go_region_with (fail)
  all_goals (go_wp2)
  all_goals go_ret2
  all_goals exact ⟨rfl, rfl⟩
section
variable {w : World} {p q cp : Nat} {l : List Slot} {pad : List Value} {f n : Int}
/-- What the writes of Take and Give leave. -/
theorem PoolAt.wrote (h : PoolAt w p q l pad cp f n) (i : Nat) (hi : i < l.length) (y : Slot) (g m : Int) {w1 : World} (h0 : PoolAt w1 p q l pad cp g n) : PoolAt ((w1.setCells q (i * 7) y.cells).setCell ⟨p, 2, none⟩ (.int .i64 m)) p q (l.set i y) pad cp g m := by
  obtain ⟨C, h1, h2⟩ := h0.slots
  have hlen : C.size = l.length * 7 + pad.length := by rw [← Array.length_toList, h2, List.length_append, row_len]
  obtain ⟨C', h3, h4, h5⟩ := Go.Proofs.YtmhnfcodppfaiaaW.PrintWords.setCells_row y.cells (i * 7) w1 C h1 (by simp only [Slot.cells, List.length_cons, List.length_nil]; omega)
  have hp : (w1.setCells q (i * 7) y.cells).heap[p]? = w1.heap[p]? := Go.Proofs.YtmhnfcodppfaiaaW.PrintWords.setCells_far _ _ _ (fun e => h0.ne e.symm)
  refine ⟨?_, ⟨C', ?_, ?_⟩, h0.ne⟩
  · rw [heap_set (hp.trans h0.head), List.length_set]; rfl
  · rw [Below.heap_setCell _ _ _ _ h0.ne]; exact h3
  · rw [h5, h2]; exact (row_set l pad i y hi).symm
end
section
variable {w w1 W : World} {p q cp : Nat} {l : List Slot} {pad : List Value} {f n : Int}
theorem PoolAt.more (h : PoolAt W p q l pad cp f n) {o : Obj} : PoolAt (W.alloc o).drew p q l pad cp f n := by
  refine h.else ?_ ?_
  · rw [heap_drew]; exact Below.heap_alloc _ _ _ h.lp
  · rw [heap_drew]; exact Below.heap_alloc _ _ _ h.lq
theorem size_alloc (w : World) (o : Obj) : w.heap.size ≤ (w.alloc o).heap.size := by simp
theorem Else.more (h : Else p q w W) {o : Obj} : Else p q w (W.alloc o).drew := by
  refine ⟨h.os, h.tape, h.output, ?_, fun k hk hp hq => ?_⟩
  · rw [heap_drew]; exact Nat.le_trans h.size (size_alloc _ _)
  · rw [heap_drew, Below.heap_alloc _ _ k (Nat.lt_of_lt_of_le hk h.size)]; exact h.block k hk hp hq
theorem os_set (w : World) (a : Addr) (v : Value) : (w.setCell a v).os = w.os := rfl
theorem tape_set (w : World) (a : Addr) (v : Value) : (w.setCell a v).tape = w.tape := rfl
theorem output_set (w : World) (a : Addr) (v : Value) : (w.setCell a v).output = w.output := rfl
theorem size_set (w : World) (a : Addr) (v : Value) : (w.setCell a v).heap.size = w.heap.size := by simp [World.setCell]
theorem PoolAt.wrote2 (h : PoolAt w p q l pad cp f n) (i : Nat) (hi : i < l.length) (y : Slot) (g m : Int) (h0 : PoolAt w1 p q l pad cp g n) (e : Else p q w w1) :
    PoolAt ((w1.setCells q (i * 7) y.cells).setCell ⟨p, 2, none⟩ (.int .i64 m)) p q (l.set i y) pad cp g m ∧ Else p q w ((w1.setCells q (i * 7) y.cells).setCell ⟨p, 2, none⟩ (.int .i64 m)) := by
  have hs := Go.Proofs.YtmhnfcodppfaiaaW.PrintWords.setCells_same q y.cells (i * 7) w1
  refine ⟨h.wrote i hi y g m h0, ⟨by rw [os_set, hs.1]; exact e.os, by rw [tape_set, hs.2.1]; exact e.tape, by rw [output_set, hs.2.2.1]; exact e.output, ?_, fun k hk hkp hkq => ?_⟩⟩
  · rw [size_set, hs.2.2.2]; exact e.size
  · rw [Below.heap_setCell _ _ _ _ hkp, Go.Proofs.YtmhnfcodppfaiaaW.PrintWords.setCells_far _ _ _ hkq]; exact e.block k hk hkp hkq
end
theorem Else.refl (p q : Nat) (w : World) : Else p q w w := ⟨rfl, rfl, rfl, Nat.le_refl _, fun _ _ _ _ => rfl⟩
/-- What the writes of Give leave. -/
theorem PoolAt.wrote1 {w : World} {p q cp : Nat} {l : List Slot} {pad : List Value} {f n : Int} (h : PoolAt w p q l pad cp f n) (i : Nat) (hi : i < l.length) (y : Slot) (g m : Int) :
    PoolAt (((w.setCells q (i * 7) y.cells).setCell ⟨p, 1, none⟩ (.int .i64 g)).setCell ⟨p, 2, none⟩ (.int .i64 m)) p q (l.set i y) pad cp g m ∧ Else p q w (((w.setCells q (i * 7) y.cells).setCell ⟨p, 1, none⟩ (.int .i64 g)).setCell ⟨p, 2, none⟩ (.int .i64 m)) := by
  obtain ⟨C, h1, h2⟩ := h.slots
  have hlen : C.size = l.length * 7 + pad.length := by rw [← Array.length_toList, h2, List.length_append, row_len]
  obtain ⟨C', h3, h4, h5⟩ := Go.Proofs.YtmhnfcodppfaiaaW.PrintWords.setCells_row y.cells (i * 7) w C h1 (by simp only [Slot.cells, List.length_cons, List.length_nil]; omega)
  have hp : (w.setCells q (i * 7) y.cells).heap[p]? = w.heap[p]? := Go.Proofs.YtmhnfcodppfaiaaW.PrintWords.setCells_far _ _ _ (fun e => h.ne e.symm)
  have hs := Go.Proofs.YtmhnfcodppfaiaaW.PrintWords.setCells_same q y.cells (i * 7) w
  refine ⟨⟨?_, ⟨C', ?_, ?_⟩, h.ne⟩, ⟨by rw [os_set, os_set, hs.1], by rw [tape_set, tape_set, hs.2.1], by rw [output_set, output_set, hs.2.2.1], ?_, fun k hk hkp hkq => ?_⟩⟩
  · rw [heap_set (heap_set (hp.trans h.head)), List.length_set]; rfl
  · rw [Below.heap_setCell _ _ _ _ h.ne, Below.heap_setCell _ _ _ _ h.ne]; exact h3
  · rw [h5, h2]; exact (row_set l pad i y hi).symm
  · rw [size_set, size_set, hs.2.2.2]; exact Nat.le_refl _
  · rw [Below.heap_setCell _ _ _ _ hkp, Below.heap_setCell _ _ _ _ hkp, Go.Proofs.YtmhnfcodppfaiaaW.PrintWords.setCells_far _ _ _ hkq]
theorem cells_some {y : Slot} {w : World} {q i : Nat} (h : ∀ j, j < 7 → w.cell? ⟨q, i * 7 + j, none⟩ = y.cells[j]?) :
    w.cell? ⟨q, i * 7, none⟩ = some (.bool y.is) ∧ w.cell? ⟨q, i * 7 + 1, none⟩ = some (.int .i64 y.x.t) ∧ w.cell? ⟨q, i * 7 + 2, none⟩ = some (.int .i64 y.x.c) ∧ w.cell? ⟨q, i * 7 + 3, none⟩ = some (.bool y.x.s) ∧ w.cell? ⟨q, i * 7 + 4, none⟩ = some (.int .i64 y.x.v) ∧ w.cell? ⟨q, i * 7 + 5, none⟩ = some (.int .u64 y.x.u) ∧ w.cell? ⟨q, i * 7 + 6, none⟩ = some (.int .i64 y.next) :=
  ⟨h 0 (by decide), h 1 (by decide), h 2 (by decide), h 3 (by decide), h 4 (by decide), h 5 (by decide), h 6 (by decide)⟩
section
variable {w : World} {p q cp : Nat} {l : List Slot} {pad : List Value} {f n : Int}
theorem len_at (h : PoolAt w p q l pad cp f n) : Calls Try.prog 12 #[.pointer (some ⟨p,0,none⟩)] w fun e w' => e = .returned (.int .i64 n) ∧ w' = w := len_raw p n w h.c2
theorem free_at (h : PoolAt w p q l pad cp f n) : Calls Try.prog 9 #[.pointer (some ⟨p,0,none⟩)] w fun e w' => e = .returned (.int .i64 (wrap64 ((l.length : Int) - n))) ∧ ∃ k, w' = w.drewN k := free_raw p _ _ _ n w h.c0 h.c2
theorem take_full_at (h : PoolAt w p q l pad cp f n) (x : Sg) (hf : f < 0) : Calls Try.prog 8 #[.pointer (some ⟨p,0,none⟩), x.val] w fun e w' => e = .returned (.tuple #[.int .i64 0, .int .i64 4]) ∧ PoolAt w' p q l pad cp f n ∧ Else p q w w' := by
  refine (take_full_raw p f x.t x.c x.v x.u x.s w h.lp hf h.c1).mono ?_
  rintro e w' ⟨rfl, rfl⟩
  exact ⟨rfl, h.else (Below.heap_alloc _ _ _ h.lp) (Below.heap_alloc _ _ _ h.lq), ⟨rfl, rfl, rfl, by simp, fun k hk _ _ => Below.heap_alloc _ _ _ hk⟩⟩
theorem take_at (h : PoolAt w p q l pad cp f n) (x : Sg) (i : Nat) (y : Slot) (hi : f = (i : Int)) (hy : l[i]? = some y) : Calls Try.prog 8 #[.pointer (some ⟨p,0,none⟩), x.val] w fun e w' => e = .returned (.tuple #[.int .i64 (i : Int), .int .i64 0]) ∧
    PoolAt w' p q (l.set i ⟨true, x, 0⟩) pad cp y.next (wrap64 (n + 1)) ∧ Else p q w w' := by
  subst hi
  obtain ⟨hil, _⟩ := List.getElem?_eq_some_iff.1 hy
  obtain ⟨c0, c1, c2, c3, c4, c5, c6⟩ := cells_some fun j hj => h.at hy hj
  refine (take_raw p q l.length cp i (i : Int) y.next n x.t x.c x.v x.u x.s _ _ _ _ _ _ w h.lp h.lq h.ne (by omega) (by omega) (Int.toNat_natCast i) h.c1 h.c0 h.c2 c0 c1 c2 c3 c4 c5 c6 h.fp h.fq).mono ?_
  rintro e w' ⟨rfl, rfl⟩
  have h1 : PoolAt (w.setCell ⟨p, 1, none⟩ (.int .i64 y.next)) p q l pad cp y.next n :=
    ⟨by rw [heap_set h.head]; rfl, by obtain ⟨C, k1, k2⟩ := h.slots; exact ⟨C, by rw [Below.heap_setCell _ _ _ _ h.ne]; exact k1, k2⟩, h.ne⟩
  obtain ⟨h2, e2⟩ := h.wrote2 i hil ⟨true, x, 0⟩ y.next (wrap64 (n + 1)) h1 ⟨rfl, rfl, rfl, by simp [World.setCell], fun k _ hkp _ => Below.heap_setCell _ _ _ _ hkp⟩
  obtain ⟨W2, hW2⟩ : ∃ W2, W2 = ((w.setCell ⟨p, 1, none⟩ (.int .i64 y.next)).setCells q (i * 7) [.bool true, .int .i64 x.t, .int .i64 x.c, .bool x.s, .int .i64 x.v, .int .u64 x.u, .int .i64 0]).setCell ⟨p, 2, none⟩ (.int .i64 (wrap64 (n + 1))) := ⟨_, rfl⟩
  rw [← hW2]
  replace h2 : PoolAt W2 p q (l.set i ⟨true, x, 0⟩) pad cp y.next (wrap64 (n + 1)) := by rw [hW2]; exact h2
  replace e2 : Else p q w W2 := by rw [hW2]; exact e2
  exact ⟨rfl, h2.more, e2.more⟩
end
theorem give_out_raw (p q l cp : Nat) (k : Int) (w : World) (hk : k < 0 ∨ k ≥ l) (h0 : w.cell? ⟨p, 0, none⟩ = some (.slice (some ⟨q,0,none⟩) l cp)) :
   Calls Try.prog 10 #[.pointer (some ⟨p,0,none⟩), .int .i64 k] w fun e w' => e = .returned (.int .i64 3) ∧ w' = w := by
  go_enter Try.func10, Try.ntmps10
  rcases hk with hk | hk
  · go_wp2_with (go_quiet (fail))
    go_ret
    exact ⟨rfl, rfl⟩
  · by_cases h0 : k < 0
    · exact absurd hk (by omega)
    · go_wp2_with (go_quiet (fail))
      go_ret
      exact ⟨rfl, rfl⟩
theorem give_not_raw (p q l cp i : Nat) (w : World) (hil : i < l) (h0 : w.cell? ⟨p, 0, none⟩ = some (.slice (some ⟨q,0,none⟩) l cp)) (h3 : w.cell? ⟨q, i * 7, none⟩ = some (.bool false)) :
   Calls Try.prog 10 #[.pointer (some ⟨p,0,none⟩), .int .i64 (i : Int)] w fun e w' => e = .returned (.int .i64 3) ∧ w' = w := by
  go_enter Try.func10, Try.ntmps10
  go_wp2_with (go_quiet (fail))
  go_ret
  exact ⟨rfl, rfl⟩
theorem give_raw (p q l cp i : Nat) (f n : Int) (y1 y2 y3 y4 y5 y6 : Value) (w : World) (hp : p < w.heap.size) (hq : q < w.heap.size) (hpq : q ≠ p) (hil : i < l) (h1 : w.cell? ⟨p, 1, none⟩ = some (.int .i64 f)) (h0 : w.cell? ⟨p, 0, none⟩ = some (.slice (some ⟨q,0,none⟩) l cp)) (h2 : w.cell? ⟨p, 2, none⟩ = some (.int .i64 n))
   (h30 : w.cell? ⟨q, i * 7, none⟩ = some (.bool true)) (h31 : w.cell? ⟨q, i * 7 + 1, none⟩ = some y1) (h32 : w.cell? ⟨q, i * 7 + 2, none⟩ = some y2) (h33 : w.cell? ⟨q, i * 7 + 3, none⟩ = some y3) (h34 : w.cell? ⟨q, i * 7 + 4, none⟩ = some y4) (h35 : w.cell? ⟨q, i * 7 + 5, none⟩ = some y5) (h36 : w.cell? ⟨q, i * 7 + 6, none⟩ = some y6) (hz0 : ∀ i, w.frozen? ⟨p, i, none⟩ = false) (hz1 : ∀ i, w.frozen? ⟨q, i, none⟩ = false) :
   Calls Try.prog 10 #[.pointer (some ⟨p,0,none⟩), .int .i64 (i : Int)] w fun e w' => e = .returned (.int .i64 0) ∧
     w' = (((w.setCells q (i * 7) [.bool false, .int .i64 0, .int .i64 0, .bool false, .int .i64 0, .int .u64 0, .int .i64 f]).setCell ⟨p, 1, none⟩ (.int .i64 i)).setCell ⟨p, 2, none⟩ (.int .i64 (wrap64 (n - 1)))).drew := by
  go_enter Try.func10, Try.ntmps10
  go_wp2_with (go_quiet (fail))
  go_region_with (fail)
  all_goals (go_wp2)
  all_goals go_ret
  all_goals exact ⟨rfl, rfl⟩
theorem of_out_raw (p q l cp : Nat) (k : Int) (w : World) (hp : p < w.heap.size) (hk : k < 0 ∨ k ≥ l) (h0 : w.cell? ⟨p, 0, none⟩ = some (.slice (some ⟨q,0,none⟩) l cp)) :
   Calls Try.prog 11 #[.pointer (some ⟨p,0,none⟩), .int .i64 k] w fun e w' => e = .returned (.tuple #[.agg #[.int .i64 0, .int .i64 0, .bool false, .int .i64 0, .int .u64 0], .bool false]) ∧ w' = w.alloc (.cells #[.int .i64 0, .int .i64 0, .bool false, .int .i64 0, .int .u64 0] 32) := by
  go_enter Try.func11, Try.ntmps11
  rcases hk with hk | hk
  · go_wp2_with (go_quiet (fail))
    refine bodyPost_ret (v := .tuple #[.agg #[.int .i64 0, .int .i64 0, .bool false, .int .i64 0, .int .u64 0], .bool false]) (by rw [results_cell_tmp rfl]; go_simp) rfl ?_
    exact ⟨rfl, rfl⟩
  · by_cases h0 : k < 0
    · exact absurd hk (by omega)
    · go_wp2_with (go_quiet (fail))
      refine bodyPost_ret (v := .tuple #[.agg #[.int .i64 0, .int .i64 0, .bool false, .int .i64 0, .int .u64 0], .bool false]) (by rw [results_cell_tmp rfl]; go_simp) rfl ?_
      exact ⟨rfl, rfl⟩
set_option maxHeartbeats 4000000 in
theorem of_raw (p q l cp i : Nat) (x1 x2 x4 x5 : Int) (b x3 : Bool) (w : World) (hp : p < w.heap.size) (hq : q < w.heap.size) (hil : i < l) (h0 : w.cell? ⟨p, 0, none⟩ = some (.slice (some ⟨q,0,none⟩) l cp)) 
   (h30 : w.cell? ⟨q, i * 7, none⟩ = some (.bool b)) (h31 : w.cell? ⟨q, i * 7 + 1, none⟩ = some (.int .i64 x1)) (h32 : w.cell? ⟨q, i * 7 + 2, none⟩ = some (.int .i64 x2)) (h33 : w.cell? ⟨q, i * 7 + 3, none⟩ = some (.bool x3)) (h34 : w.cell? ⟨q, i * 7 + 4, none⟩ = some (.int .i64 x4)) (h35 : w.cell? ⟨q, i * 7 + 5, none⟩ = some (.int .u64 x5)) :
   Calls Try.prog 11 #[.pointer (some ⟨p,0,none⟩), .int .i64 (i : Int)] w fun e w' => e = .returned (.tuple #[.agg #[.int .i64 x1, .int .i64 x2, .bool x3, .int .i64 x4, .int .u64 x5], .bool b]) ∧ w' = (w.alloc (.cells #[.int .i64 x1, .int .i64 x2, .bool x3, .int .i64 x4, .int .u64 x5] 32)).drew := by
  have LD : (loadVar 32 ⟨w.heap.size, 0, none⟩).run Try.prog (w.alloc (.cells #[.int .i64 x1, .int .i64 x2, .bool x3, .int .i64 x4, .int .u64 x5] 32)).drew = .ok (.agg #[.int .i64 x1, .int .i64 x2, .bool x3, .int .i64 x4, .int .u64 x5]) (w.alloc (.cells #[.int .i64 x1, .int .i64 x2, .bool x3, .int .i64 x4, .int .u64 x5] 32)).drew := by go_simp
  go_enter Try.func11, Try.ntmps11
  go_wp2_with (go_quiet (fail))
  go_region_with (fail)
  all_goals (go_wp2)
  all_goals refine bodyPost_ret (v := .tuple #[.agg #[.int .i64 x1, .int .i64 x2, .bool x3, .int .i64 x4, .int .u64 x5], .bool b]) ?_ rfl ⟨rfl, rfl⟩
  all_goals (rw [results_cell_tmp rfl]; simp [Act.put, asAddr, Result.andThen, LD]; done)
section
variable {w : World} {p q cp : Nat} {l : List Slot} {pad : List Value} {f n : Int}
theorem give_out_at (h : PoolAt w p q l pad cp f n) (k : Int) (hk : k < 0 ∨ k ≥ l.length) : Calls Try.prog 10 #[.pointer (some ⟨p,0,none⟩), .int .i64 k] w fun e w' => e = .returned (.int .i64 3) ∧ w' = w := give_out_raw p q l.length cp k w hk h.c0
theorem give_not_at (h : PoolAt w p q l pad cp f n) (i : Nat) (y : Slot) (hy : l[i]? = some y) (hb : y.is = false) : Calls Try.prog 10 #[.pointer (some ⟨p,0,none⟩), .int .i64 (i : Int)] w fun e w' => e = .returned (.int .i64 3) ∧ w' = w := by
  obtain ⟨hil, _⟩ := List.getElem?_eq_some_iff.1 hy
  obtain ⟨c0, _⟩ := cells_some fun j hj => h.at hy hj
  rw [hb] at c0
  exact give_not_raw p q l.length cp i w hil h.c0 c0
theorem give_at (h : PoolAt w p q l pad cp f n) (i : Nat) (y : Slot) (hy : l[i]? = some y) (hb : y.is = true) : Calls Try.prog 10 #[.pointer (some ⟨p,0,none⟩), .int .i64 (i : Int)] w fun e w' => e = .returned (.int .i64 0) ∧
    PoolAt w' p q (l.set i ⟨false, Sg.zero, f⟩) pad cp (i : Int) (wrap64 (n - 1)) ∧ Else p q w w' := by
  obtain ⟨hil, _⟩ := List.getElem?_eq_some_iff.1 hy
  obtain ⟨c0, c1, c2, c3, c4, c5, c6⟩ := cells_some fun j hj => h.at hy hj
  rw [hb] at c0
  refine (give_raw p q l.length cp i f n _ _ _ _ _ _ w h.lp h.lq h.ne hil h.c1 h.c0 h.c2 c0 c1 c2 c3 c4 c5 c6 h.fp h.fq).mono ?_
  rintro e w' ⟨rfl, rfl⟩
  obtain ⟨h2, e2⟩ := h.wrote1 i hil ⟨false, Sg.zero, f⟩ (i : Int) (wrap64 (n - 1))
  obtain ⟨W2, hW2⟩ : ∃ W2, W2 = ((w.setCells q (i * 7) [.bool false, .int .i64 0, .int .i64 0, .bool false, .int .i64 0, .int .u64 0, .int .i64 f]).setCell ⟨p, 1, none⟩ (.int .i64 (i : Int))).setCell ⟨p, 2, none⟩ (.int .i64 (wrap64 (n - 1))) := ⟨_, rfl⟩
  rw [← hW2]
  replace h2 : PoolAt W2 p q (l.set i ⟨false, Sg.zero, f⟩) pad cp (i : Int) (wrap64 (n - 1)) := by rw [hW2]; exact h2
  replace e2 : Else p q w W2 := by rw [hW2]; exact e2
  exact ⟨rfl, ⟨h2.head, h2.slots, h2.ne⟩, ⟨e2.os, e2.tape, e2.output, e2.size, e2.block⟩⟩
theorem of_out_at (h : PoolAt w p q l pad cp f n) (k : Int) (hk : k < 0 ∨ k ≥ l.length) : Calls Try.prog 11 #[.pointer (some ⟨p,0,none⟩), .int .i64 k] w fun e w' => e = .returned (.tuple #[Sg.zero.val, .bool false]) ∧ PoolAt w' p q l pad cp f n ∧ Else p q w w' := by
  refine (of_out_raw p q l.length cp k w h.lp hk h.c0).mono ?_
  rintro e w' ⟨rfl, rfl⟩
  exact ⟨rfl, h.else (Below.heap_alloc _ _ _ h.lp) (Below.heap_alloc _ _ _ h.lq), ⟨rfl, rfl, rfl, size_alloc _ _, fun k hk _ _ => Below.heap_alloc _ _ _ hk⟩⟩
theorem of_at (h : PoolAt w p q l pad cp f n) (i : Nat) (y : Slot) (hy : l[i]? = some y) : Calls Try.prog 11 #[.pointer (some ⟨p,0,none⟩), .int .i64 (i : Int)] w fun e w' => e = .returned (.tuple #[y.x.val, .bool y.is]) ∧ PoolAt w' p q l pad cp f n ∧ Else p q w w' := by
  obtain ⟨hil, _⟩ := List.getElem?_eq_some_iff.1 hy
  obtain ⟨c0, c1, c2, c3, c4, c5, c6⟩ := cells_some fun j hj => h.at hy hj
  refine (of_raw p q l.length cp i _ _ _ _ _ _ w h.lp h.lq hil h.c0 c0 c1 c2 c3 c4 c5).mono ?_
  rintro e w' ⟨rfl, rfl⟩
  exact ⟨rfl, h.more, (Else.refl p q w).more⟩
end
end Go.Proofs.Ytmhnfcodppfaiaa.PoolCode
