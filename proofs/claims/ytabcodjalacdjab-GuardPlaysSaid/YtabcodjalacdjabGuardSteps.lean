
/- An argument that is a slice of steps: two numbers, and a slice of numbers each. -/
import Derived.Test.YtabcodjalacdjabObj
import Derived.Test.YtabcodjalacdjabWWords
import Derived.SizedLaws
namespace Go.Proofs.Ytabcodjalacdjab.Obj
open Go Go.RowKit Go.ChangeShapes Go.WideShapes Go.Deep
set_option linter.unusedVariables false
/-- A slice of steps. -/
def Steps (w : World) (a : Option Addr) (len cap : Nat) : Prop :=
  (a = none ∧ len = 0 ∧ cap = 0) ∨ ∃ x, a = some x ∧ len ≤ cap ∧ cap ≤ maxLen ∧ ∀ i, i < len → ∃ (d who : Int) (A : Option Addr) (l c : Nat) (zs : List Int),
    w.cell? (x.add (i * 3)) = some (.int .i64 d) ∧ w.cell? (x.add (i * 3 + 1)) = some (.int .i64 who) ∧ w.cell? (x.add (i * 3 + 2)) = some (.slice A l c) ∧ (Lit.int .i64 who).wf = true ∧ Ints .i64 w A l c zs ∧ l * 8 ≤ reachBytes
section
variable {H : Type} {enc : TypeId × Value → H} {P : Program} {w : World}
theorem weightsAll_mem {e : TypeId} {d : DataW H} {n : Nat} (hn : n ∈ d.weights P e) : ∀ {l : List (DataW H)}, d ∈ l → n ∈ DataW.weightsAll P e l
  | [], h => by cases h
  | d0 :: r, h => by
    simp only [DataW.weightsAll, List.mem_append]
    rcases List.mem_cons.mp h with rfl | h
    · exact .inl hn
    · exact .inr (weightsAll_mem hn h)
theorem open_steps {t e e2 : TypeId} {f0 f1 f2 : Field} {a : Option Addr} {len cap fuel : Nat} {x : DataW H × List MemPlace} (ht : P.underlying t = some (.slice e)) (hs : P.underlying e = some (.struct #[f0, f1, f2]))
    (o0 : f0.offset = 0) (o1 : f1.offset = 1) (o2 : f2.offset = 2) (c0 : P.cellsOf f0.type = 1) (c1 : P.cellsOf f1.type = 1) (c2 : P.cellsOf f2.type = 1) (hC : P.cellsOf e = 3)
    (u0 : P.underlying f0.type = some (.int .i64)) (u1 : P.underlying f1.type = some (.int .i64)) (u2 : P.underlying f2.type = some (.slice e2)) (ue : P.underlying e2 = some (.int .i64)) (ce : P.cellsOf e2 = 1) (hB : P.bytesOf e2 = 8)
    (h : DataW.trod enc P w 0 (fun _ => true) true fuel t [.slice a len cap] = some x) (hw : ∀ n ∈ x.1.weights P t, n ≤ reachBytes) : Steps w a len cap := by
  rcases open_slice ht h with ⟨hcs, _⟩ | ⟨x0, l, c, m, n', D, Pl, hcs, _, hl, hm, hmm, hx, hi⟩
  · simp at hcs
    exact .inl hcs
  · simp at hcs
    obtain ⟨rfl, rfl, rfl⟩ := hcs
    refine .inr ⟨x0, rfl, hl, hm, fun i hil => ?_⟩
    have him : i < m := by rw [hmm]; simp; omega
    obtain ⟨cs', h1, h2⟩ := hi i him
    rw [hC] at h1
    obtain ⟨_, hcl, hat⟩ := World.cells?_some h1
    obtain ⟨xs, m2, _, heq, _, hlen, hf⟩ := DataW.trod_struct hs h2
    match cs', hcl with
    | [v0, v1, v2], _ =>
      have hlen3 : xs.length = 3 := hlen
      match xs, hlen3 with
      | [y0, y1, y2], _ =>
        have g0 := hf 0 f0 rfl
        have g1 := hf 1 f1 rfl
        have g2 := hf 2 f2 rfl
        rw [o0, c0] at g0
        rw [o1, c1] at g1
        rw [o2, c2] at g2
        have g0' : DataW.trod enc P w 0 (fun _ => true) true m2 f0.type [v0] = some y0 := g0
        have g1' : DataW.trod enc P w 0 (fun _ => true) true m2 f1.type [v1] = some y1 := g1
        have g2' : DataW.trod enc P w 0 (fun _ => true) true m2 f2.type [v2] = some y2 := g2
        obtain ⟨d, hd, _, _⟩ := DataW.trod_int u0 g0'
        obtain ⟨who, hwho, _, hwf⟩ := DataW.trod_int u1 g1'
        simp at hd hwho
        subst hd
        subst hwho
        have e0 : w.cell? (x0.add (i * 3)) = some (.int .i64 d) := by
          have := hat 0 (by decide)
          simpa [Go.Deep.add_add] using this
        have e1 : w.cell? (x0.add (i * 3 + 1)) = some (.int .i64 who) := by
          have := hat 1 (by decide)
          simpa [Go.Deep.add_add] using this
        have e2' : w.cell? (x0.add (i * 3 + 2)) = some v2 := by
          have := hat 2 (by decide)
          simpa [Go.Deep.add_add] using this
        have hmem : ∀ n ∈ y2.1.weights P f2.type, n ≤ reachBytes := fun n hn => hw n (by
          rw [hx]
          simp only [DataW.weights, ht]
          refine List.mem_cons_of_mem _ (List.mem_append_left _ (weightsAll_mem (d := D i) ?_ (List.mem_map.mpr ⟨i, List.mem_range.mpr hil, rfl⟩)))
          have hDi : D i = .agg [y0.1, y1.1, y2.1] := (Prod.mk.inj heq).1
          rw [hDi]
          simp only [DataW.weights, hs]
          simp only [List.map_cons, List.map_nil, DataW.weightsEach, List.mem_append]
          exact .inr (.inr (.inl hn)))
        rcases open_ints u2 ue ce g2' with ⟨hcs2, _⟩ | ⟨A, l2, cp2, zs, hcs2, _, hl2, hm2, hz2, hx2, hcell, hwz⟩
        · simp at hcs2
          subst hcs2
          exact ⟨d, who, none, 0, 0, [], e0, e1, e2', hwf, .inl ⟨rfl, rfl, rfl, rfl⟩, by decide⟩
        · simp at hcs2
          subst hcs2
          have hzl : zs.length = cp2 := by simpa using hz2
          refine ⟨d, who, some A, l2, cp2, zs, e0, e1, e2', hwf, .inr ⟨A, rfl, hl2, hm2, hzl, hcell, hwz⟩, ?_⟩
          have := hmem _ (by rw [hx2]; simp only [DataW.weights, u2]; exact List.mem_cons_self ..)
          rw [hB] at this
          simp [lits] at this
          omega
/-- The numbers of an argument's slice. -/
theorem Ints.nums {k : IntKind} {a : Option Addr} {len cap : Nat} {zs : List Int} (h : Ints k w a len cap zs) : (zs.take len).length = len ∧ Nums w k a (zs.take len) ∧ (a = none → len = 0) ∧ len ≤ cap ∧ cap ≤ maxLen := by
  rcases h with ⟨rfl, rfl, rfl, rfl⟩ | ⟨x, rfl, h1, h2, h3, h4, h5⟩
  · exact ⟨rfl, Nums.nil _ _ _, fun _ => rfl, Nat.le_refl _, by decide⟩
  · have hl : (zs.take len).length = len := by rw [List.length_take]; omega
    refine ⟨hl, ⟨fun i hi => ⟨x, rfl, ?_⟩⟩, (fun e => by cases e), h1, h2⟩
    rw [h4 i (by omega)]
    rw [List.getD_eq_getElem?_getD, List.getD_eq_getElem?_getD, List.getElem?_take_of_lt (by omega)]
theorem nums_reads {k : IntKind} {a : Option Addr} {r : List Int} (h : Nums w k a r) (hl : r.length ≤ maxLen) : Go.Proofs.YtabcodjalacdjabW.PrintWords.ReadsInt w k a r.length r :=
  ⟨rfl, hl, fun h0 => by
    obtain ⟨x, e, _⟩ := h.cell 0 h0
    refine ⟨x, e, fun j hj => ?_⟩
    obtain ⟨x', e', h2⟩ := h.cell j hj
    rw [e] at e'
    cases e'
    exact h2⟩
theorem Steps.at {a : Option Addr} {len cap : Nat} (h : Steps w a len cap) (i : Nat) (hi : i < len) : ∃ b o, a = some ⟨b, o, none⟩ ∧ b < w.heap.size ∧ ∃ (d who : Int) (A : Option Addr) (l c : Nat) (zs : List Int),
    w.cell? ⟨b, o + i * 3, none⟩ = some (.int .i64 d) ∧ w.cell? ⟨b, o + i * 3 + 1, none⟩ = some (.int .i64 who) ∧ w.cell? ⟨b, o + i * 3 + 2, none⟩ = some (.slice A l c) ∧ (Lit.int .i64 who).wf = true ∧ Ints .i64 w A l c zs ∧ l * 8 ≤ reachBytes := by
  rcases h with ⟨_, h0, _⟩ | ⟨⟨b, o, sp⟩, rfl, _, _, hx⟩
  · omega
  · obtain ⟨_, _, _, _, _, _, h1, _⟩ := hx 0 (by omega)
    have hs := cell_spot h1
    have hb := cell_lt h1
    simp only [Nat.zero_mul, Nat.add_zero, Addr.add, if_true] at hs hb
    subst hs
    have hadd : ∀ n, (⟨b, o, none⟩ : Addr).add n = ⟨b, o + n, none⟩ := fun n => by
      unfold Addr.add
      split
      · rename_i h0; rw [h0, Nat.add_zero]
      · rfl
    obtain ⟨d, who, A, l, c, zs, k0, k1, k2, k3⟩ := hx i hi
    rw [hadd] at k0 k1 k2
    exact ⟨b, o, rfl, hb, d, who, A, l, c, zs, k0, k1, k2, k3⟩
end
end Go.Proofs.Ytabcodjalacdjab.Obj
