/- A row of numbers of one's own that may begin inside its block: read, cut ahead, appended to. -/
import Derived.Test.YtghbcdpnngheoacObj
import Derived.Test.YtghbcdpnngheoacWWords
import Derived.Test.YtghbcdpnngheoacWMore
namespace Go.Proofs.Ytghbcdpnngheoac.Row
open Go Go.RowKit Go.Proofs.Ytghbcdpnngheoac.Obj Go.Proofs.YtghbcdpnngheoacW.PrintWords Go.Proofs.YtghbcdpnngheoacW.PrintMore
set_option linter.unusedVariables false
def IRow (e : TypeId) (k : IntKind) (w : World) (B : Nat) (v : Value) (xs : List Int) : Prop := QRow w B e 1 v xs.length (nums k xs)
section
variable {e : TypeId} {k : IntKind} {w w' : World} {B : Nat} {v : Value} {xs : List Int}
theorem IRow.nil (e : TypeId) (k : IntKind) (w : World) (B : Nat) : IRow e k w B (.slice none 0 0) [] := q_of_own (own_nil _ _ _ _)
theorem IRow.of_own (h : w.ownsRow B e 1 v xs.length (xs.map (Value.int k))) : IRow e k w B v xs := q_of_own h
theorem IRow.form (h : IRow e k w B v xs) : ∃ A c, v = .slice A xs.length c ∧ xs.length ≤ c := q_slice h
theorem IRow.lower {B' : Nat} (h : IRow e k w B v xs) (hb : B' ≤ B) : IRow e k w B' v xs := q_lower h hb
theorem IRow.block (h : IRow e k w B v xs) {g : Nat} (hg : v.ownBlock = some g) : B ≤ g ∧ g < w.heap.size := ⟨(q_typed h g hg).1, q_lt h g hg⟩
theorem IRow.typed (h : IRow e k w B v xs) {g : Nat} (hg : v.ownBlock = some g) : ∃ cells, w.heap[g]? = some (.cells cells e (0, 0)) := (q_typed h g hg).2
theorem IRow.only {S : Nat → Prop} (h : IRow e k w B v xs) (o : Only S w w') (hs : ∀ g, v.ownBlock = some g → ¬ S g) : IRow e k w' B v xs := q_move h (fun g hg => o.block g (q_lt h g hg) (hs g hg))
theorem IRow.far {S : Nat → Prop} (h : IRow e k w B v xs) (o : Only S w w') (hs : ∀ g, B ≤ g → g < w.heap.size → ¬ S g) : IRow e k w' B v xs := h.only o (fun g hg => hs g (h.block hg).1 (h.block hg).2)
theorem IRow.below (h : IRow e k w B v xs) (hb : Below w.heap.size w w') : IRow e k w' B v xs := h.only (Only.none_of_below hb) (fun _ _ => id)
theorem IRow.drewN (h : IRow e k w B v xs) (n : Nat) : IRow e k (w.drewN n) B v xs := h
theorem IRow.drew (h : IRow e k w B v xs) : IRow e k w.drew B v xs := h
theorem IRow.alloc (h : IRow e k w B v xs) (o : Obj) : IRow e k (w.alloc o) B v xs := h.far (Only.alloc (fun _ => False) w o) (fun _ _ _ => id)
theorem IRow.nums {A : Option Addr} {n c : Nat} (h : IRow e k w B (.slice A n c) xs) : Nums w k A xs := by
  refine ⟨fun i hi => ?_⟩
  obtain ⟨A', c', e1, _⟩ := h.form
  simp only [Value.slice.injEq] at e1
  obtain ⟨rfl, rfl, rfl⟩ := e1
  obtain ⟨ad, h1, h2⟩ := q_cells h (by omega)
  exact ⟨ad, h1, h2 i _ (by simp [Go.Proofs.YtghbcdpnngheoacW.PrintWords.nums, List.getElem?_map, List.getD, List.getElem?_eq_getElem hi])⟩
theorem IRow.head {n c : Nat} {A : Option Addr} (h : IRow e k w B (.slice A n c) xs) (hn : 0 < xs.length) : ∃ g o, A = some ⟨g, o, none⟩ ∧ B ≤ g ∧ g < w.heap.size ∧ 0 < c ∧ n = xs.length ∧ n ≤ c ∧ ∀ i, i < xs.length → w.cell? ⟨g, o + i, none⟩ = some (.int k (xs.getD i 0)) := by
  obtain ⟨b, o, rfl, hb, _⟩ := h.nums.at 0 hn
  obtain ⟨A', c', e1, hc⟩ := h.form
  simp only [Value.slice.injEq] at e1
  obtain ⟨_, rfl, rfl⟩ := e1
  refine ⟨b, o, rfl, (h.block (by simp [Value.ownBlock])).1, hb, by omega, rfl, hc, fun i hi => ?_⟩
  obtain ⟨b', o', e2, _, h2⟩ := h.nums.at i hi
  simp only [Option.some.injEq, Addr.mk.injEq] at e2
  obtain ⟨rfl, rfl, _⟩ := e2
  exact h2
theorem IRow.tail1 {g o n c : Nat} {x : Int} {r : List Int} (h : IRow e k w B (.slice (some ⟨g, o, none⟩) n c) (x :: r)) (hc : c ≠ 1) : IRow e k w B (.slice (some ⟨g, o + 1, none⟩) r.length (c - 1)) r := by
  obtain ⟨A', c', e1, hnc⟩ := h.form
  simp only [Value.slice.injEq] at e1
  obtain ⟨rfl, rfl, rfl⟩ := e1
  have := q_drop h (k := 1) (by simp)
  rw [if_neg hc] at this
  simpa [IRow, Addr.add, Go.Proofs.YtghbcdpnngheoacW.PrintWords.nums] using this
theorem IRow.tail0 {g o n : Nat} {x : Int} {r : List Int} (h : IRow e k w B (.slice (some ⟨g, o, none⟩) n 1) (x :: r)) : r = [] ∧ IRow e k w B (.slice (some ⟨g, o, none⟩) 0 0) [] := by
  obtain ⟨A', c', e1, hnc⟩ := h.form
  simp only [Value.slice.injEq] at e1
  obtain ⟨rfl, rfl, rfl⟩ := e1
  obtain rfl : r = [] := by simpa using hnc
  have := q_drop h (k := 1) (by simp)
  simp at this
  exact ⟨rfl, by simpa [IRow, Go.Proofs.YtghbcdpnngheoacW.PrintWords.nums] using this⟩
end
section
variable {P : Program} {ops : Array Oper} {rest : List Oper} {o : Oper} {a : Act} {Q : Exit → Act → World → Prop}
/-- append(v, x) of one number; behind at_builtin. -/
theorem irow_append {W : World} (B : Nat) (hgd : o.guard = none) (s x : Operand) (t e : TypeId) (k : IntKind) (bytes : Nat)
    (ho : o.op = .call { callee := .builtin .append, args := #[s, x], argTypes := #[t, t] })
    (ht : P.underlying t = some (.slice e)) (hinfo : (P.info? e).map (fun i => (i.zero, i.size, i.bytes)) = some (some (.int k 0), 1, bytes)) (hb0 : 0 < bytes)
    (v : Value) (xs : List Int) (y : Int) (hs : a.eval s = v) (hx : a.eval x = .slice (some ⟨W.heap.size, 0, none⟩) 1 1)
    (HO : IRow e k W B v xs) (hbase : B ≤ W.heap.size) (hl : (xs.length + 1) * bytes ≤ 140737488355328)
    (h : ∀ v1 w1, IRow e k w1 B v1 (xs ++ [y]) → Below B W w1 → W.grownBy w1 v.ownBlock → (v1.ownBlock = v.ownBlock ∨ ∃ b, v1.ownBlock = some b ∧ W.heap.size ≤ b) → wpList P ops Q rest (a.put o.dst v1) w1) :
    wpList P ops Q (o :: rest) a (W.alloc (.cells #[.int k y] e)) := by
  obtain ⟨i0, hi, hzz⟩ := Option.map_eq_some_iff.1 hinfo
  simp only [Prod.mk.injEq] at hzz
  obtain ⟨hz0, hz1, hz2⟩ := hzz
  have hlen : xs.length + 1 ≤ 140737488355328 := Nat.le_trans (Nat.le_mul_of_pos_right _ hb0) hl
  have hq : QRow (W.alloc (.cells #[.int k y] e)) B e 1 v xs.length (nums k xs) := HO.alloc _
  obtain ⟨v1, w1, hrun, hq1, hg1, hat⟩ := q_append (P := P) (W.alloc (.cells #[.int k y] e)) B t o.type e i0 (.int k 0) 1 bytes ht hi hz0 hz1 hz2 rfl (by decide) v xs.length (nums k xs) hq ⟨W.heap.size, 0, none⟩ 1 1 [.int k y] rfl
    (by simpa using World.news_of_block (cs := #[.int k y]) (t := e) (fr := (0, 0)) (heap_alloc_new W (.cells #[.int k y] e))) (by simp [Value.oneCell']) (by omega) (by simp only [maxLen]; omega) hl (by simp; omega)
  have hg : W.grownBy w1 v.ownBlock := World.grownBy.trans (World.grownBy_alloc W _ _) hg1
  refine wpList_plain hgd fun K hK => ?_
  unfold Oper.wp execOp
  simp only [ho, resolve, invoke, builtin, Sem.run_bind, Sem.run_pure, Result.andThen_ok, List.map_toArray, List.map_cons, List.map_nil, hs, hx, hrun]
  refine hK _ _ (h v1 w1 ?_ ((Below.refl _ _).grown hg hbase (fun g hk => (HO.block hk).1)) hg ?_)
  · unfold IRow; rw [List.length_append, nums_append]; exact hq1
  · rcases hat with hat | ⟨b, hb, hle⟩
    · exact .inl hat
    · exact .inr ⟨b, hb, by rw [World.size_alloc] at hle; omega⟩
end
end Go.Proofs.Ytghbcdpnngheoac.Row
