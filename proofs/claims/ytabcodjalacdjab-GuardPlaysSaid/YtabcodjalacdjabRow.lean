
/- A row of numbers of one's own that may begin inside its block: read, cut ahead, appended to. -/
import Derived.Deep.RegionLaw
import Derived.Test.YtabcodjalacdjabObj
import Derived.Test.YtabcodjalacdjabWWords
import Derived.Test.YtabcodjalacdjabWMore
namespace Go.Proofs.Ytabcodjalacdjab.Row
open Go Go.RowKit Go.Proofs.Ytabcodjalacdjab.Obj Go.Proofs.YtabcodjalacdjabW.PrintWords Go.Proofs.YtabcodjalacdjabW.PrintMore
set_option linter.unusedVariables false
def IRow (e : TypeId) (k : IntKind) (w : World) (B : Nat) (v : Value) (xs : List Int) : Prop := QRow w B e 1 v xs.length (nums k xs)
section
variable {e : TypeId} {k : IntKind} {w w' : World} {B : Nat} {v : Value} {xs : List Int}
theorem IRow.nil (e : TypeId) (k : IntKind) (w : World) (B : Nat) : IRow e k w B (.slice none 0 0) [] := q_of_own (own_nil _ _ _ _)
theorem IRow.of_own (h : w.ownsRow B e 1 v xs.length (xs.map (Value.int k))) : IRow e k w B v xs := q_of_own h
theorem IRow.form (h : IRow e k w B v xs) : ∃ A c, v = .slice A xs.length c ∧ xs.length ≤ c := q_slice h
theorem IRow.lower {B' : Nat} (h : IRow e k w B v xs) (hb : B' ≤ B) : IRow e k w B' v xs := q_lower h hb
theorem IRow.block (h : IRow e k w B v xs) {g : Nat} (hg : v.ownBlock = some g) : B ≤ g ∧ g < w.heap.size := ⟨(q_typed h g hg).1, q_lt h g hg⟩
theorem IRow.typed (h : IRow e k w B v xs) {g : Nat} (hg : v.ownBlock = some g) : ∃ cells, w.heap[g]? = some (.cells cells e (0, 0)) := (q_typed h g hg).2
theorem IRow.only {S : Nat → Prop} (h : IRow e k w B v xs) (o : Only S w w') (hs : ∀ g, v.ownBlock = some g → ¬ S g) : IRow e k w' B v xs := q_move h (fun g hg => o.block g (q_lt h g hg) (hs g hg))
theorem IRow.far {S : Nat → Prop} (h : IRow e k w B v xs) (o : Only S w w') (hs : ∀ g, B ≤ g → g < w.heap.size → ¬ S g) : IRow e k w' B v xs := h.only o (fun g hg => hs g (h.block hg).1 (h.block hg).2)
theorem IRow.below (h : IRow e k w B v xs) (hb : Below w.heap.size w w') : IRow e k w' B v xs := h.only (Only.none_of_below hb) (fun _ _ => id)
theorem IRow.drewN (h : IRow e k w B v xs) (n : Nat) : IRow e k (w.drewN n) B v xs := h
theorem IRow.drew (h : IRow e k w B v xs) : IRow e k w.drew B v xs := h
theorem IRow.alloc (h : IRow e k w B v xs) (o : Obj) : IRow e k (w.alloc o) B v xs := h.far (Only.alloc (fun _ => False) w o) (fun _ _ _ => id)
theorem IRow.nums {A : Option Addr} {n c : Nat} (h : IRow e k w B (.slice A n c) xs) : Nums w k A xs := by
  refine ⟨fun i hi => ?_⟩
  obtain ⟨A', c', e1, _⟩ := h.form
  simp only [Value.slice.injEq] at e1
  obtain ⟨rfl, rfl, rfl⟩ := e1
  obtain ⟨ad, h1, h2⟩ := q_cells h (by omega)
  exact ⟨ad, h1, h2 i _ (by simp [Go.Proofs.YtabcodjalacdjabW.PrintWords.nums, List.getElem?_map, List.getD, List.getElem?_eq_getElem hi])⟩
theorem IRow.head {n c : Nat} {A : Option Addr} (h : IRow e k w B (.slice A n c) xs) (hn : 0 < xs.length) : ∃ g o, A = some ⟨g, o, none⟩ ∧ B ≤ g ∧ g < w.heap.size ∧ 0 < c ∧ n = xs.length ∧ n ≤ c ∧ ∀ i, i < xs.length → w.cell? ⟨g, o + i, none⟩ = some (.int k (xs.getD i 0)) := by
  obtain ⟨b, o, rfl, hb, _⟩ := h.nums.at 0 hn
  obtain ⟨A', c', e1, hc⟩ := h.form
  simp only [Value.slice.injEq] at e1
  obtain ⟨_, rfl, rfl⟩ := e1
  refine ⟨b, o, rfl, (h.block (by simp [Value.ownBlock])).1, hb, by omega, rfl, hc, fun i hi => ?_⟩
  obtain ⟨b', o', e2, _, h2⟩ := h.nums.at i hi
  simp only [Option.some.injEq, Addr.mk.injEq] at e2
  obtain ⟨rfl, rfl, _⟩ := e2
  exact h2
theorem IRow.tail1 {g o n c : Nat} {x : Int} {r : List Int} (h : IRow e k w B (.slice (some ⟨g, o, none⟩) n c) (x :: r)) (hc : c ≠ 1) : IRow e k w B (.slice (some ⟨g, o + 1, none⟩) r.length (c - 1)) r := by
  obtain ⟨A', c', e1, hnc⟩ := h.form
  simp only [Value.slice.injEq] at e1
  obtain ⟨rfl, rfl, rfl⟩ := e1
  have := q_drop h (k := 1) (by simp)
  rw [if_neg hc] at this
  simpa [IRow, Addr.add, Go.Proofs.YtabcodjalacdjabW.PrintWords.nums] using this
theorem IRow.tail0 {g o n : Nat} {x : Int} {r : List Int} (h : IRow e k w B (.slice (some ⟨g, o, none⟩) n 1) (x :: r)) : r = [] ∧ IRow e k w B (.slice (some ⟨g, o, none⟩) 0 0) [] := by
  obtain ⟨A', c', e1, hnc⟩ := h.form
  simp only [Value.slice.injEq] at e1
  obtain ⟨rfl, rfl, rfl⟩ := e1
  obtain rfl : r = [] := by simpa using hnc
  have := q_drop h (k := 1) (by simp)
  simp at this
  exact ⟨rfl, by simpa [IRow, Go.Proofs.YtabcodjalacdjabW.PrintWords.nums] using this⟩
end
section
variable {P : Program} {ops : Array Oper} {rest : List Oper} {o : Oper} {a : Act} {Q : Exit → Act → World → Prop}
/-- append(v, x) of one number; behind at_builtin. -/
theorem irow_append {W : World} (B : Nat) (hgd : o.guard = none) (s x : Operand) (t e : TypeId) (k : IntKind) (bytes : Nat)
    (ho : o.op = .call { callee := .builtin .append, args := #[s, x], argTypes := #[t, t] })
    (ht : P.underlying t = some (.slice e)) (hinfo : (P.info? e).map (fun i => (i.zero, i.size, i.bytes)) = some (some (.int k 0), 1, bytes)) (hb0 : 0 < bytes)
    (v : Value) (xs : List Int) (y : Int) (hs : a.eval s = v) (hx : a.eval x = .slice (some ⟨W.heap.size, 0, none⟩) 1 1)
    (HO : IRow e k W B v xs) (hbase : B ≤ W.heap.size) (hl : (xs.length + 1) * bytes ≤ 140737488355328)
    (h : ∀ v1 w1, IRow e k w1 B v1 (xs ++ [y]) → Below B W w1 → W.grownBy w1 v.ownBlock → (v1.ownBlock = v.ownBlock ∨ ∃ b, v1.ownBlock = some b ∧ W.heap.size ≤ b) → wpList P ops Q rest (a.put o.dst v1) w1) :
    wpList P ops Q (o :: rest) a (W.alloc (.cells #[.int k y] e)) := by
  obtain ⟨i0, hi, hzz⟩ := Option.map_eq_some_iff.1 hinfo
  simp only [Prod.mk.injEq] at hzz
  obtain ⟨hz0, hz1, hz2⟩ := hzz
  have hlen : xs.length + 1 ≤ 140737488355328 := Nat.le_trans (Nat.le_mul_of_pos_right _ hb0) hl
  have hq : QRow (W.alloc (.cells #[.int k y] e)) B e 1 v xs.length (nums k xs) := HO.alloc _
  obtain ⟨v1, w1, hrun, hq1, hg1, hat⟩ := q_append (P := P) (W.alloc (.cells #[.int k y] e)) B t o.type e i0 (.int k 0) 1 bytes ht hi hz0 hz1 hz2 rfl (by decide) v xs.length (nums k xs) hq ⟨W.heap.size, 0, none⟩ 1 1 [.int k y] rfl
    (by simpa using World.news_of_block (cs := #[.int k y]) (t := e) (fr := (0, 0)) (heap_alloc_new W (.cells #[.int k y] e))) (by simp [Value.oneCell']) (by omega) (by simp only [maxLen]; omega) hl (by simp; omega)
  have hg : W.grownBy w1 v.ownBlock := World.grownBy.trans (World.grownBy_alloc W _ _) hg1
  refine wpList_plain hgd fun K hK => ?_
  unfold Oper.wp execOp
  simp only [ho, resolve, invoke, builtin, Sem.run_bind, Sem.run_pure, Result.andThen_ok, List.map_toArray, List.map_cons, List.map_nil, hs, hx, hrun]
  refine hK _ _ (h v1 w1 ?_ ((Below.refl _ _).grown hg hbase (fun g hk => (HO.block hk).1)) hg ?_)
  · unfold IRow; rw [List.length_append, nums_append]; exact hq1
  · rcases hat with hat | ⟨b, hb, hle⟩
    · exact .inl hat
    · exact .inr ⟨b, hb, by rw [World.size_alloc] at hle; omega⟩
end
section
variable {P : Program} {ops : Array Oper} {rest : List Oper} {o : Oper} {a : Act} {Q : Exit → Act → World → Prop}
/-- What append(v, ys...) comes to. -/
theorem rows_run {W : World} (base : Nat) (t ty e : TypeId) (k : IntKind) (bytes : Nat) (ht : P.underlying t = some (.slice e)) (hinfo : (P.info? e).map (fun i => (i.zero, i.size, i.bytes)) = some (some (.int k 0), 1, bytes)) (hb0 : 0 < bytes)
    (v : Value) (xs ys : List Int) (A : Option Addr) (m c : Nat) (HO : W.ownsRow base e 1 v xs.length (nums k xs)) (HR : ReadsInt W k A m ys) (hbase : base ≤ W.heap.size) (hl : (xs.length + m) * bytes ≤ 140737488355328) :
    ∃ v1 w1, (Builtin.append_ #[t, t] ty #[v, .slice A m c]).run P W = .ok v1 w1 ∧ w1.ownsRow base e 1 v1 (xs ++ ys).length (nums k (xs ++ ys)) ∧ W.grownBy w1 v.ownBlock ∧ (v1.ownBlock = v.ownBlock ∨ ∃ b, v1.ownBlock = some b ∧ W.heap.size ≤ b) := by
  obtain ⟨i0, hi, hzz⟩ := Option.map_eq_some_iff.1 hinfo
  simp only [Prod.mk.injEq] at hzz
  obtain ⟨hz0, hz1, hz2⟩ := hzz
  have hm : ys.length = m := HR.1
  have hlen : xs.length + m ≤ 140737488355328 := Nat.le_trans (Nat.le_mul_of_pos_right _ hb0) hl
  by_cases h0 : m = 0
  · subst h0
    obtain rfl : ys = [] := List.eq_nil_of_length_eq_zero hm
    refine ⟨v, W, ?_, by simpa using HO, World.grownBy.refl W _, .inl rfl⟩
    rcases HO.2 with ⟨rfl, hn⟩ | ⟨g, cap, cur, rfl, _, _, hnc, _⟩ <;> cases A <;> simp [Builtin.append_, run_underlying ht, sizeOf, typeInfo, Builtin.lenOf, Builtin.firstCells, storeCells, loadCells, loadCellsFrom, Result.andThen, *]
  · obtain ⟨ad, rfl, hc⟩ := HR.2.2 (by omega)
    have hcells : ∀ j u, (nums k ys)[j]? = some u → W.cell? (ad.add j) = some u := by
      intro j u hu
      have hj : j < ys.length := by
        rcases Nat.lt_or_ge j ys.length with h | h
        · exact h
        · simp [nums, List.getElem?_eq_none h] at hu
      simp [nums, List.getElem?_eq_getElem hj] at hu
      subst hu
      rw [hc j (by omega)]
      simp [List.getD_eq_getElem?_getD, List.getElem?_eq_getElem hj]
    obtain ⟨v1, w1, hr, h2, h3, _, h5⟩ := run_append_own_at (P := P) W base t ty e i0 (.int k 0) 1 bytes ht hi hz0 hz1 hz2 rfl (by omega) v xs.length (nums k xs) HO ad m c (nums k ys) (by simp [nums, hm]) hcells
      (by intro u hu; simp only [nums, List.mem_map] at hu; obtain ⟨q, _, rfl⟩ := hu; rfl) (by simp only [maxLen]; omega) hl hbase
    exact ⟨v1, w1, hr, by simpa [nums, hm] using h2, h3, h5.elim .inl (fun h => .inr ⟨_, h, Nat.le_refl _⟩)⟩
/-- append(v, ys...) at a step of a region that draws. -/
theorem rows_step {W : World} (base : Nat) (hw : Region.wanted o (yielded ops a.tmps) = true) (s x : Operand) (t e : TypeId) (k : IntKind) (bytes : Nat)
    (ho : o.op = .call { callee := .builtin .append, args := #[s, x], argTypes := #[t, t] })
    (ht : P.underlying t = some (.slice e)) (hinfo : (P.info? e).map (fun i => (i.zero, i.size, i.bytes)) = some (some (.int k 0), 1, bytes)) (hb0 : 0 < bytes)
    (v : Value) (xs ys : List Int) (A : Option Addr) (m c : Nat) (hs : a.eval s = v) (hx : a.eval x = .slice A m c)
    (HO : W.ownsRow base e 1 v xs.length (nums k xs)) (HR : ReadsInt W k A m ys) (hbase : base ≤ W.heap.size) (hl : (xs.length + m) * bytes ≤ 140737488355328) {Kc : Act → World → Prop} {E : Prop}
    (h : ∀ v1 w1, w1.ownsRow base e 1 v1 (xs ++ ys).length (nums k (xs ++ ys)) → W.grownBy w1 v.ownBlock → (v1.ownBlock = v.ownBlock ∨ ∃ b, v1.ownBlock = some b ∧ W.heap.size ≤ b) → Kc (a.put o.dst v1) w1) :
    if Region.wanted o (yielded ops a.tmps) = true then Oper.wp P o a W Kc Q else E := by
  obtain ⟨v1, w1, hr, h2, h3, h4⟩ := rows_run (P := P) base t o.type e k bytes ht hinfo hb0 v xs ys A m c HO HR hbase hl
  rw [if_pos hw]
  unfold Oper.wp execOp
  simp only [ho, resolve, invoke, builtin, Sem.run_bind, Sem.run_pure, Result.andThen_ok, List.map_toArray, List.map_cons, List.map_nil, hs, hx, hr]
  exact h v1 w1 h2 h3 h4
end
theorem own_form3 {w : World} {base e size n : Nat} {v : Value} {xs : List Value} (h : w.ownsRow base e size v n xs) : ∃ A m c, v = .slice A m c := by obtain ⟨A, c, h⟩ := own_form h; exact ⟨A, _, c, h⟩
/-- A row that was made since w, and nothing else has changed. -/
structure Fresh (w w1 : World) (B : Nat) (e : TypeId) (k : IntKind) (v : Value) (xs : List Int) : Prop where
  own : w1.ownsRow B e 1 v xs.length (nums k xs)
  keep : Only (fun _ => False) w w1
  new : ∀ g, v.ownBlock = some g → w.heap.size ≤ g
theorem Fresh.nil (w : World) (B : Nat) (e : TypeId) (k : IntKind) : Fresh w w B e k (.slice none 0 0) [] := ⟨own_nil _ _ _ _, Only.refl _ _, fun g h => by cases h⟩
theorem Fresh.app {w w1 w2 : World} {B : Nat} {e : TypeId} {k : IntKind} {v v2 : Value} {xs zs : List Int} (h : Fresh w w1 B e k v xs) (ho : w2.ownsRow B e 1 v2 zs.length (nums k zs)) (hg : w1.grownBy w2 v.ownBlock) (hat : v2.ownBlock = v.ownBlock ∨ ∃ b, v2.ownBlock = some b ∧ w1.heap.size ≤ b) : Fresh w w2 B e k v2 zs := by
  refine ⟨ho, h.keep.trans' (Only.of_grown hg) (fun g hl e => absurd (h.new g e) (by omega)), fun g hg' => ?_⟩
  rcases hat with hat | ⟨b, hb, hl⟩
  · exact h.new g (by rw [← hat]; exact hg')
  · rw [hb] at hg'
    obtain rfl := Option.some.inj hg'
    exact Nat.le_trans h.keep.size hl
theorem Fresh.drewN {w w1 : World} {B : Nat} {e : TypeId} {k : IntKind} {v : Value} {xs : List Int} (h : Fresh w w1 B e k v xs) (n : Nat) : Fresh w (w1.drewN n) B e k v xs := ⟨h.own, h.keep.trans (Only.drewN _ _ _), h.new⟩
theorem Fresh.of_drewN {w w1 : World} {n B : Nat} {e : TypeId} {k : IntKind} {v : Value} {xs : List Int} (h : Fresh (w.drewN n) w1 B e k v xs) : Fresh w w1 B e k v xs := ⟨h.own, (Only.drewN _ w n).trans h.keep, h.new⟩
end Go.Proofs.Ytabcodjalacdjab.Row
