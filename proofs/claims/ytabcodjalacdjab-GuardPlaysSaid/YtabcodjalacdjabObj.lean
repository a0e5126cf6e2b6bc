
/- Words on memory: what a call leaves as it is; blocks; rows of numbers; arguments that are slices of structs. -/
import Derived.WalkKit
import Derived.KernelRfl
import Derived.Below
import Derived.Deep.Slices
import Derived.Deep.Fields
import Derived.ChangeSame
import Derived.Laws.AppendOwn
import Derived.Deep.Quiet
import Derived.Deep.QuietTactic
import Derived.Deep.LoopGhost
import Derived.Deep.CutBlock
import Derived.Deep.DeepCutAuto
import Derived.Deep.RegionHeld3
import Derived.BigQuiet
namespace Go.Proofs.Ytabcodjalacdjab.Obj
open Go Go.RowKit Go.ChangeShapes Go.WideShapes Go.Deep
set_option linter.unusedVariables false
theorem hid {p : Prop} (h : p) : Hid p := h
/-- But the blocks of S the world is as it was. -/
structure Only (S : Nat → Prop) (w w' : World) : Prop where
  os : w'.os = w.os
  tape : w'.tape = w.tape
  output : w'.output = w.output
  size : w.heap.size ≤ w'.heap.size
  block : ∀ k, k < w.heap.size → ¬ S k → w'.heap[k]? = w.heap[k]?
theorem Only.refl (S : Nat → Prop) (w : World) : Only S w w := ⟨rfl, rfl, rfl, Nat.le_refl _, fun _ _ _ => rfl⟩
theorem Only.trans {S : Nat → Prop} {a b c : World} (h : Only S a b) (k : Only S b c) : Only S a c :=
  ⟨k.os.trans h.os, k.tape.trans h.tape, k.output.trans h.output, Nat.le_trans h.size k.size, fun i hi hs => (k.block i (Nat.lt_of_lt_of_le hi h.size) hs).trans (h.block i hi hs)⟩
theorem Only.mono {S T : Nat → Prop} {a b : World} (h : Only S a b) (hs : ∀ k, k < a.heap.size → S k → T k) : Only T a b :=
  ⟨h.os, h.tape, h.output, h.size, fun i hi ht => h.block i hi (fun s => ht (hs i hi s))⟩
/-- Then, of another set: blocks that are new at b may be written too. -/
theorem Only.trans' {S T : Nat → Prop} {a b c : World} (h : Only S a b) (k : Only T b c) (hs : ∀ k, k < a.heap.size → T k → S k) : Only S a c :=
  ⟨k.os.trans h.os, k.tape.trans h.tape, k.output.trans h.output, Nat.le_trans h.size k.size, fun i hi hn => (k.block i (Nat.lt_of_lt_of_le hi h.size) (fun t => hn (hs i hi t))).trans (h.block i hi hn)⟩
theorem Only.of_below {B : Nat} {w w' : World} (h : Below B w w') : Only (fun k => B ≤ k) w w' := ⟨h.os, h.tape, h.output, h.size, fun k _ hk => h.block k (by omega)⟩
theorem Only.none_of_below {w w' : World} (h : Below w.heap.size w w') : Only (fun _ => False) w w' := ⟨h.os, h.tape, h.output, h.size, fun k hk _ => h.block k hk⟩
theorem Only.of_grown {w w' : World} {r : Option Nat} (h : w.grownBy w' r) : Only (fun k => r = some k) w w' := ⟨h.os, h.tape, h.output, h.size, fun k hk hn => h.block k hk (fun e => hn e.symm)⟩
theorem Only.below {S : Nat → Prop} {B : Nat} {a w w' : World} (h : Only S w w') (hb : Below B a w) (hB : B ≤ w.heap.size) (hS : ∀ k, k < w.heap.size → S k → B ≤ k) : Below B a w' :=
  ⟨h.os.trans hb.os, h.tape.trans hb.tape, h.output.trans hb.output, Nat.le_trans hb.size h.size, fun k hk => (h.block k (by omega) (fun s => by have := hS k (by omega) s; omega)).trans (hb.block k hk)⟩
theorem Only.alloc (S : Nat → Prop) (w : World) (o : Obj) : Only S w (w.alloc o) := ⟨rfl, rfl, rfl, by simp, fun k hk _ => Below.heap_alloc _ _ _ hk⟩
theorem Only.drew (S : Nat → Prop) (w : World) : Only S w w.drew := ⟨rfl, rfl, rfl, Nat.le_refl _, fun _ _ _ => rfl⟩
theorem Only.drewN (S : Nat → Prop) (w : World) (n : Nat) : Only S w (w.drewN n) := ⟨rfl, rfl, rfl, Nat.le_refl _, fun _ _ _ => rfl⟩
theorem size_set (w : World) (a : Addr) (v : Value) : (w.setCell a v).heap.size = w.heap.size := by simp [World.setCell]
theorem Only.setCell {S : Nat → Prop} (w : World) (a : Addr) (v : Value) (hs : S a.block) : Only S w (w.setCell a v) :=
  ⟨rfl, rfl, rfl, by rw [size_set]; exact Nat.le_refl _, fun k hk hn => Below.heap_setCell _ _ _ _ (fun e => hn (by rw [e]; exact hs))⟩
theorem heap_lt {w : World} {b : Nat} {o : Obj} (h : w.heap[b]? = some o) : b < w.heap.size := by
  rcases Nat.lt_or_ge b w.heap.size with h1 | h1
  · exact h1
  · rw [Array.getElem?_eq_none h1] at h; cases h
theorem cell_lt {W : World} {a : Addr} {v : Value} (h : W.cell? a = some v) : a.block < W.heap.size := by
  rcases Nat.lt_or_ge a.block W.heap.size with h1 | h1
  · exact h1
  · unfold World.cell? at h; rw [Array.getElem?_eq_none h1] at h; cases h
theorem cell_spot {W : World} {a : Addr} {v : Value} (h : W.cell? a = some v) : a.spot = none := by
  unfold World.cell? at h
  split at h
  · cases hs : a.spot with
    | none => rfl
    | some x => rw [hs] at h; simp at h
  · cases h
theorem cell_same {w w' : World} {a : Addr} (h : w'.heap[a.block]? = w.heap[a.block]?) : w'.cell? a = w.cell? a := by
  unfold World.cell?; rw [h]
theorem frozen_same {w w' : World} {a : Addr} (h : w'.heap[a.block]? = w.heap[a.block]?) : w'.frozen? a = w.frozen? a := by
  unfold World.frozen?; rw [h]
/-- A block: its cells, none of them frozen. -/
def Blk (w : World) (p : Nat) (t : TypeId) (vs : List Value) : Prop := w.heap[p]? = some (.cells vs.toArray t (0, 0))
section
variable {w w' : World} {p : Nat} {t : TypeId} {vs : List Value}
theorem Blk.lt (h : Blk w p t vs) : p < w.heap.size := heap_lt h
theorem Blk.cell (h : Blk w p t vs) (i : Nat) : w.cell? ⟨p, i, none⟩ = vs[i]? := by
  unfold World.cell?; rw [show w.heap[(⟨p, i, none⟩ : Addr).block]? = _ from h]; simp
theorem Blk.frozen (h : Blk w p t vs) (i : Nat) : w.frozen? ⟨p, i, none⟩ = false := by
  unfold World.frozen?; rw [show w.heap[(⟨p, i, none⟩ : Addr).block]? = _ from h]; simp
theorem Blk.same (h : Blk w p t vs) (e : w'.heap[p]? = w.heap[p]?) : Blk w' p t vs := Eq.trans e h
theorem Blk.only {S : Nat → Prop} (h : Blk w p t vs) (o : Only S w w') (hs : ¬ S p) : Blk w' p t vs := h.same (o.block p h.lt hs)
theorem Blk.alloc (h : Blk w p t vs) (o : Obj) : Blk (w.alloc o) p t vs := h.same (Below.heap_alloc _ _ _ h.lt)
theorem Blk.set (h : Blk w p t vs) (i : Nat) (v : Value) : Blk (w.setCell ⟨p, i, none⟩ v) p t (vs.set i v) := by
  unfold Blk World.setCell
  simp only [Array.getElem?_modify]
  rw [show w.heap[p]? = _ from h]
  simp
theorem Blk.set_other (h : Blk w p t vs) (a : Addr) (v : Value) (hn : p ≠ a.block) : Blk (w.setCell a v) p t vs := h.same (Below.heap_setCell _ _ _ _ hn)
theorem Blk.new (w : World) (t : TypeId) (vs : List Value) : Blk (w.alloc (.cells vs.toArray t)) w.heap.size t vs := by
  unfold Blk
  show (w.heap.push _)[w.heap.size]? = _
  simp
end
/-- A slice that reads as these numbers. -/
structure Nums (w : World) (k : IntKind) (a : Option Addr) (l : List Int) : Prop where
  cell : ∀ i, i < l.length → ∃ x, a = some x ∧ w.cell? (x.add i) = some (.int k (l.getD i 0))
section
variable {w w' : World} {k : IntKind} {a : Option Addr} {l : List Int}
theorem Nums.nil (w : World) (k : IntKind) (a : Option Addr) : Nums w k a [] := ⟨fun i h => absurd h (by simp)⟩
theorem Nums.same (h : Nums w k a l) (e : ∀ x, a = some x → w'.heap[x.block]? = w.heap[x.block]?) : Nums w' k a l :=
  ⟨fun i hi => by obtain ⟨x, h1, h2⟩ := h.cell i hi; exact ⟨x, h1, by rw [← h2]; apply cell_same; have := e x h1; unfold Addr.add; split <;> exact this⟩⟩
theorem add_block (x : Addr) (i : Nat) : (x.add i).block = x.block := by unfold Addr.add; split <;> rfl
theorem Nums.lt (h : Nums w k a l) (hl : l ≠ []) : ∃ x, a = some x ∧ x.block < w.heap.size ∧ x.spot = none := by
  obtain ⟨x, h1, h2⟩ := h.cell 0 (List.length_pos_iff.2 hl)
  have := cell_lt h2
  rw [add_block] at this
  exact ⟨x, h1, this, cell_spot h2⟩
end
theorem splice_at {α : Type} (A B : List α) (k n i : Nat) (hB : B.length = n) (hk : k + n ≤ A.length) :
    (A.take k ++ B ++ A.drop (k + n))[i]? = if i < k then A[i]? else if i < k + n then B[i - k]? else A[i]? := by
  have hl : (A.take k).length = k := by rw [List.length_take]; omega
  by_cases h1 : i < k
  · rw [if_pos h1, List.append_assoc, List.getElem?_append_left (by omega), List.getElem?_take_of_lt h1]
  · rw [if_neg h1, List.append_assoc, List.getElem?_append_right (by omega), hl]
    by_cases h2 : i < k + n
    · rw [if_pos h2, List.getElem?_append_left (by omega)]
    · rw [if_neg h2, List.getElem?_append_right (by omega), List.getElem?_drop, hB, show k + n + (i - k - n) = i by omega]
theorem u8_of {a : Int} (h : (Lit.int .u8 a).wf = true) : 0 ≤ a ∧ a ≤ 255 := by
  simp only [Lit.wf, Bool.and_eq_true, decide_eq_true_eq] at h
  have h1 : IntKind.u8.min = 0 := by decide
  have h2 : IntKind.u8.max = 255 := by decide
  omega
theorem i64_of {a : Int} (h : (Lit.int .i64 a).wf = true) : -9223372036854775808 ≤ a ∧ a ≤ 9223372036854775807 := by
  simp only [Lit.wf, Bool.and_eq_true, decide_eq_true_eq] at h
  have h1 : IntKind.i64.min = -9223372036854775808 := by decide
  have h2 : IntKind.i64.max = 9223372036854775807 := by decide
  omega
theorem u64_of {a : Int} (h : (Lit.int .u64 a).wf = true) : 0 ≤ a ∧ a ≤ 18446744073709551615 := by
  simp only [Lit.wf, Bool.and_eq_true, decide_eq_true_eq] at h
  have h1 : IntKind.u64.min = 0 := by decide
  have h2 : IntKind.u64.max = 18446744073709551615 := by decide
  omega
theorem Nums.at {w : World} {k : IntKind} {a : Option Addr} {l : List Int} (h : Nums w k a l) (i : Nat) (hi : i < l.length) : ∃ b o, a = some ⟨b, o, none⟩ ∧ b < w.heap.size ∧ w.cell? ⟨b, o + i, none⟩ = some (.int k (l.getD i 0)) := by
  obtain ⟨⟨b, o, sp⟩, rfl, h0⟩ := h.cell 0 (by omega)
  have hs := cell_spot h0
  have hb := cell_lt h0
  simp only [Addr.add, if_true] at hs hb
  subst hs
  obtain ⟨x, e, h1⟩ := h.cell i hi
  obtain rfl := Option.some.inj e
  refine ⟨b, o, rfl, hb, ?_⟩
  rw [← h1]
  unfold Addr.add
  split
  · rename_i h0; rw [h0, Nat.add_zero]
  · rfl
theorem Nums.drew {w : World} {k : IntKind} {a : Option Addr} {l : List Int} (h : Nums w k a l) : Nums w.drew k a l := ⟨h.cell⟩
theorem Nums.drewN {w : World} {k : IntKind} {a : Option Addr} {l : List Int} (h : Nums w k a l) (n : Nat) : Nums (w.drewN n) k a l := ⟨h.cell⟩
theorem Nums.below {w w' : World} {k : IntKind} {a : Option Addr} {l : List Int} (h : Nums w k a l) (hb : Below w.heap.size w w') : Nums w' k a l :=
  ⟨fun i hi => by obtain ⟨x, h1, h2⟩ := h.cell i hi; exact ⟨x, h1, by rw [← h2]; exact cell_same (hb.block _ (cell_lt h2))⟩⟩
/-- A row of one's own reads as its numbers; so does a part of it. -/
theorem own_nums {w : World} {base n : Nat} {e : TypeId} {k : IntKind} {a : Option Addr} {m c : Nat} {xs : List Int} (h : w.ownsRow base e 1 (.slice a m c) n (xs.map (Value.int k))) : Nums w k a xs := by
  refine ⟨fun i hi => ?_⟩
  rcases h.2 with ⟨hv, h0⟩ | ⟨g, cap, cur, hv, _, hh, _, _, _, hc⟩
  · have := h.1
    rw [List.length_map] at this
    omega
  · simp only [Value.slice.injEq] at hv
    obtain ⟨rfl, rfl, rfl⟩ := hv
    refine ⟨_, rfl, ?_⟩
    have e1 : (⟨g, 0, none⟩ : Addr).add i = ⟨g, i, none⟩ := by unfold Addr.add; split <;> simp_all
    have e2 : cur[i]? = some (Value.int k (xs.getD i 0)) := by
      have hn := h.1
      rw [List.length_map] at hn
      have : (cur.toList.take (m * 1))[i]? = (xs.map (Value.int k))[i]? := by rw [hc]
      rw [List.getElem?_take_of_lt (by omega), List.getElem?_map, List.getElem?_eq_getElem hi] at this
      rw [← Array.getElem?_toList, this]
      simp [List.getD, List.getElem?_eq_getElem hi]
    rw [e1, ← e2]
    unfold World.cell?
    simp [hh]
theorem Nums.take {w : World} {k : IntKind} {a : Option Addr} {l r : List Int} (h : Nums w k a (l ++ r)) : Nums w k a l :=
  ⟨fun i hi => by obtain ⟨x, h1, h2⟩ := h.cell i (by rw [List.length_append]; omega); exact ⟨x, h1, by rw [h2]; simp [List.getD, List.getElem?_append_left hi]⟩⟩
theorem Nums.drop {w : World} {k : IntKind} {x : Addr} {l r : List Int} (h : Nums w k (some x) (l ++ r)) : Nums w k (some (x.add l.length)) r :=
  ⟨fun i hi => by
    obtain ⟨y, h1, h2⟩ := h.cell (l.length + i) (by rw [List.length_append]; omega)
    obtain rfl := Option.some.inj h1
    exact ⟨_, rfl, by rw [Go.Deep.add_add, h2]; simp [List.getD, List.getElem?_append_right]⟩⟩
theorem own_form {w : World} {base e size n : Nat} {v : Value} {xs : List Value} (h : w.ownsRow base e size v n xs) : ∃ A c, v = .slice A n c := by
  rcases h.2 with ⟨rfl, rfl⟩ | ⟨g, cap, cur, rfl, _⟩ <;> exact ⟨_, _, rfl⟩
theorem addr_add0 (g n : Nat) : (⟨g, 0, none⟩ : Addr).add n = ⟨g, n, none⟩ := by
  unfold Addr.add
  split
  · rename_i h; subst h; rfl
  · simp
theorem own_cases {w : World} {base e n m c : Nat} {a : Option Addr} {xs : List Value} (h : w.ownsRow base e 1 (.slice a m c) n xs) : (a = none ∧ n = 0 ∧ c = 0) ∨ ∃ g, a = some ⟨g, 0, none⟩ ∧ base ≤ g ∧ g < w.heap.size ∧ n ≤ c := by
  rcases h.2 with ⟨hv, h0⟩ | ⟨g, q, cur, hv, hg, hh, hq, _⟩
  · simp only [Value.slice.injEq] at hv
    exact .inl ⟨hv.1, h0, hv.2.2⟩
  · simp only [Value.slice.injEq] at hv
    obtain ⟨rfl, _, rfl⟩ := hv
    exact .inr ⟨g, rfl, hg, heap_lt hh, hq⟩
theorem own_block_ge {w : World} {base e size n : Nat} {v : Value} {xs : List Value} (h : w.ownsRow base e size v n xs) {k : Nat} (hk : v.ownBlock = some k) : base ≤ k ∧ k < w.heap.size := by
  rcases h.2 with ⟨rfl, _⟩ | ⟨g, cap, cur, rfl, hg, hh, _⟩
  · cases hk
  · have e : g = k := by simpa [Value.ownBlock] using hk
    subst e
    exact ⟨hg, heap_lt hh⟩
theorem own_only {w w' : World} {S : Nat → Prop} {base e size n : Nat} {v : Value} {xs : List Value} (h : w.ownsRow base e size v n xs) (o : Only S w w') (hs : ∀ k, v.ownBlock = some k → ¬ S k) : w'.ownsRow base e size v n xs := by
  obtain ⟨h1, h2⟩ := h
  refine ⟨h1, ?_⟩
  rcases h2 with h2 | ⟨g, cap, cur, rfl, hg, hh, r⟩
  · exact .inl h2
  · exact .inr ⟨g, cap, cur, rfl, hg, (o.block g (heap_lt hh) (hs g rfl)).trans hh, r⟩
/-- A field's value is of its kind: a number of a kind, or a bool. -/
inductive Kd where
  | int (k : IntKind)
  | bool
def Kd.ok : Kd → Value → Prop
  | .int k, v => ∃ n, v = .int k n ∧ (Lit.int k n).wf = true
  | .bool, v => ∃ b, v = .bool b
/-- An argument that is a slice of numbers. -/
def Ints (k : IntKind) (w : World) (a : Option Addr) (len cap : Nat) (zs : List Int) : Prop :=
  (a = none ∧ len = 0 ∧ cap = 0 ∧ zs = []) ∨
  ∃ x, a = some x ∧ len ≤ cap ∧ cap ≤ maxLen ∧ zs.length = cap ∧ (∀ i, i < zs.length → w.cell? (x.add i) = some (.int k (zs.getD i 0))) ∧ ∀ n ∈ zs, (Lit.int k n).wf = true
/-- A slice of structs, whose fields are of these kinds. -/
def Rows (w : World) (ks : List Kd) (a : Option Addr) (len cap : Nat) : Prop :=
  (a = none ∧ len = 0 ∧ cap = 0) ∨ ∃ x, a = some x ∧ len ≤ cap ∧ cap ≤ maxLen ∧ ∀ i, i < len → ∀ (j : Nat) (k : Kd), ks[j]? = some k → ∃ v, w.cell? (x.add (i * ks.length + j)) = some v ∧ k.ok v
theorem Rows.at {w : World} {ks : List Kd} {a : Option Addr} {len cap : Nat} (h : Rows w ks a len cap) (hn : 0 < ks.length) (i : Nat) (hi : i < len) :
    ∃ b o, a = some ⟨b, o, none⟩ ∧ b < w.heap.size ∧ ∀ j k, ks[j]? = some k → ∃ v, w.cell? ⟨b, o + i * ks.length + j, none⟩ = some v ∧ k.ok v := by
  rcases h with ⟨_, h0, _⟩ | ⟨⟨b, o, sp⟩, rfl, _, _, hx⟩
  · omega
  · obtain ⟨v, h1, _⟩ := hx 0 (by omega) 0 ks[0] (List.getElem?_eq_getElem hn)
    have hs := cell_spot h1
    have hb := cell_lt h1
    simp only [Nat.zero_mul, Nat.add_zero, Addr.add, if_true] at hs hb
    subst hs
    refine ⟨b, o, rfl, hb, fun j k hj => ?_⟩
    obtain ⟨v, h1, h2⟩ := hx i hi j k hj
    refine ⟨v, ?_, h2⟩
    rw [← h1, Nat.add_assoc]
    unfold Addr.add
    split
    · rename_i h0; rw [h0, Nat.add_zero]
    · rfl
section
variable {H : Type} {enc : TypeId × Value → H} {P : Program} {w : World} {base : Nat} {spare : Nat → Bool} {held : Bool}
/-- The kinds of a type's cells, where it is numbers, bools, and structs of such. -/
def fieldsFlat (P : Program) (g : TypeId → Option (List Kd)) : List Field → Nat → Option (List Kd)
  | [], _ => some []
  | f :: r, off => if f.offset = off then (match g f.type with
    | some a => if P.cellsOf f.type = a.length then (match fieldsFlat P g r (off + a.length) with
      | some b => some (a ++ b)
      | none => none) else none
    | none => none) else none
def flat (P : Program) : Nat → TypeId → Option (List Kd)
  | 0, _ => none
  | n + 1, t => match P.underlying t with
    | some (.int k) => some [.int k]
    | some .bool => some [.bool]
    | some (.struct fs) => fieldsFlat P (flat P n) fs.toList 0
    | _ => none
theorem fields_ok (g : TypeId → Option (List Kd)) (cs : List Value) (hg : ∀ t ks, g t = some ks → ∀ fuel (cs : List Value) (x : DataW H × List MemPlace), DataW.trod enc P w base spare held fuel t cs = some x → cs.length = ks.length → ∀ (j : Nat) (k : Kd), ks[j]? = some k → ∃ v, cs[j]? = some v ∧ k.ok v) :
    ∀ (l : List Field) (off : Nat) (ks : List Kd), fieldsFlat P g l off = some ks → (∀ f ∈ l, ∃ fuel x, DataW.trod enc P w base spare held fuel f.type ((cs.drop f.offset).take (P.cellsOf f.type)) = some x) → off + ks.length ≤ cs.length → ∀ (j : Nat) (k : Kd), ks[j]? = some k → ∃ v, cs[off + j]? = some v ∧ k.ok v
  | [], off, ks, h, _, _, j, k, hj => by
    simp only [fieldsFlat, Option.some.injEq] at h
    subst h
    simp at hj
  | f :: r, off, ks, h, hf, hl, j, k, hj => by
    simp only [fieldsFlat] at h
    split at h
    · rename_i ho
      split at h
      · rename_i a ha
        split at h
        · rename_i hc
          split at h
          · rename_i b hb
            simp only [Option.some.injEq] at h
            subst h
            rw [List.length_append] at hl
            by_cases hja : j < a.length
            · rw [List.getElem?_append_left hja] at hj
              obtain ⟨fuel, x, hx⟩ := hf f (List.mem_cons_self ..)
              obtain ⟨v, hv, hk⟩ := hg _ _ ha fuel _ x hx (by rw [List.length_take, List.length_drop, hc]; omega) j k hj
              refine ⟨v, ?_, hk⟩
              rw [List.getElem?_take_of_lt (by omega), List.getElem?_drop, ho] at hv
              exact hv
            · rw [List.getElem?_append_right (by omega)] at hj
              obtain ⟨v, hv, hk⟩ := fields_ok g cs hg r (off + a.length) b hb (fun f h => hf f (List.mem_cons_of_mem _ h)) (by omega) (j - a.length) k hj
              refine ⟨v, ?_, hk⟩
              rw [show off + j = off + a.length + (j - a.length) by omega]
              exact hv
          · cases h
        · cases h
      · cases h
    · cases h
theorem flat_ok : ∀ (n : Nat) (t : TypeId) (ks : List Kd), flat P n t = some ks → ∀ fuel (cs : List Value) (x : DataW H × List MemPlace), DataW.trod enc P w base spare held fuel t cs = some x → cs.length = ks.length → ∀ (j : Nat) (k : Kd), ks[j]? = some k → ∃ v, cs[j]? = some v ∧ k.ok v
  | 0, t, ks, h => by simp [flat] at h
  | n + 1, t, ks, h => by
    intro fuel cs x hx hl j k hj
    simp only [flat] at h
    split at h
    · rename_i q hu
      simp only [Option.some.injEq] at h
      subst h
      obtain ⟨z, rfl, _, hw⟩ := DataW.trod_int hu hx
      cases j with
      | zero => simp at hj; subst hj; exact ⟨_, rfl, z, rfl, hw⟩
      | succ j => simp at hj
    · rename_i hu
      simp only [Option.some.injEq] at h
      subst h
      obtain ⟨z, rfl, _⟩ := DataW.trod_bool hu hx
      cases j with
      | zero => simp at hj; subst hj; exact ⟨_, rfl, z, rfl⟩
      | succ j => simp at hj
    · rename_i fs hu
      obtain ⟨xs, m, _, _, _, hlen, hf⟩ := DataW.trod_struct hu hx
      obtain ⟨v, hv, hk⟩ := fields_ok (flat P n) cs (fun t ks h => flat_ok n t ks h) fs.toList 0 ks h (fun f hm => by
        obtain ⟨i, hi, rfl⟩ := List.mem_iff_getElem.1 hm
        have hi' : i < fs.size := by simpa using hi
        refine ⟨m, xs[i]'(by omega), ?_⟩
        rw [Array.getElem_toList, hf i fs[i] (Array.getElem?_eq_getElem hi')]
        exact List.getElem?_eq_getElem _) (by omega) j k hj
      exact ⟨v, by simpa using hv, hk⟩
    · cases h
/-- An argument that is a slice of structs of numbers and bools. -/
theorem open_rows {t e : TypeId} {a : Option Addr} {len cap fuel n : Nat} {x : DataW H × List MemPlace} (ks : List Kd) (ht : P.underlying t = some (.slice e)) (hk : flat P n e = some ks) (hC : P.cellsOf e = ks.length)
    (h : DataW.trod enc P w base spare held fuel t [.slice a len cap] = some x) : Rows w ks a len cap := by
  rcases open_slice ht h with ⟨hcs, _⟩ | ⟨x, l, c, m, n', D, Pl, hcs, _, hl, hm, hmm, _, hi⟩
  · simp at hcs
    exact .inl hcs
  · simp at hcs
    obtain ⟨rfl, rfl, rfl⟩ := hcs
    refine .inr ⟨x, rfl, hl, hm, fun i hil j k hj => ?_⟩
    have him : i < m := by rw [hmm]; split <;> omega
    obtain ⟨cs', h1, h2⟩ := hi i him
    rw [hC] at h1
    obtain ⟨_, hcl, hat⟩ := World.cells?_some h1
    obtain ⟨v, hv, hk'⟩ := flat_ok n e ks hk n' cs' _ h2 hcl j k hj
    have hjl : j < ks.length := (List.getElem?_eq_some_iff.1 hj).1
    exact ⟨v, by rw [← Go.Deep.add_add, hat j hjl, hv], hk'⟩
end
end Go.Proofs.Ytabcodjalacdjab.Obj
