
/- A map of nodes in memory, told as a function: which node stands at a number. -/
import Derived.Test.YtmhnfcodppfaiacObj
import Derived.Test.YtmhnfcodppfaiacListPure
import Derived.Test.YtmhnfcodppfaiacProg
import Derived.Maps.OwnSet
import Derived.Maps.OwnOps
namespace Go.Proofs.Ytmhnfcodppfaiac.ListCode
open Go Go.RowKit Go.Maps Go.Proofs.Ytmhnfcodppfaiac.Obj Go.Proofs.Ytmhnfcodppfaiac.ListPure
set_option linter.unusedVariables false
def nodeV (v : Int × Int) : Value := .agg #[.int .i64 v.1, .int .i64 v.2]
def nodeD (v : Int × Int) : DataW Unit := .agg [.lit (.int .i64 v.1), .lit (.int .i64 v.2)]
open Classical in
noncomputable def nodeR (v : Value) : Option (DataW Unit × List MemPlace) := if h : ∃ x : Int × Int, v = nodeV x then some (nodeD h.choose, []) else none
theorem nodeV_inj {x y : Int × Int} (h : nodeV x = nodeV y) : x = y := by
  unfold nodeV at h
  simp at h
  exact Prod.ext h.1 h.2
theorem nodeR_mk (v : Int × Int) : nodeR (nodeV v) = some (nodeD v, []) := by
  have h : ∃ x : Int × Int, nodeV v = nodeV x := ⟨v, rfl⟩
  unfold nodeR
  rw [dif_pos h, ← nodeV_inj h.choose_spec]
theorem nodeR_inv {v : Value} {d : DataW Unit} {ps : List MemPlace} (h : nodeR v = some (d, ps)) : ∃ x, v = nodeV x ∧ d = nodeD x := by
  unfold nodeR at h
  split at h
  · rename_i hx
    simp only [Option.some.injEq, Prod.mk.injEq] at h
    exact ⟨hx.choose, hx.choose_spec, h.1.symm⟩
  · cases h
theorem keyLit (k : Int) : WideAt.IsKeyLit (.int .i64 k) := trivial
theorem nodeD_inj {x y : Int × Int} (h : nodeD x = nodeD y) : x = y := by
  unfold nodeD at h
  simp at h
  exact Prod.ext h.1 h.2
structure View (D : DataW Unit) (f : Int → Option (Int × Int)) : Prop where
  has : ∀ k, Maps.has D (.int .i64 k) = (f k).isSome
  get : ∀ k v, f k = some v → ∀ z, D.atKey (.int .i64 k) z = nodeD v
theorem lit_ne {j k : Int} (h : j ≠ k) : (Lit.int .i64 j) ≠ (Lit.int .i64 k) := fun e => h (by simpa using e)
theorem View.put {D : DataW Unit} {f : Int → Option (Int × Int)} (h : View D f) (hD : IsMap D) (k : Int) (v : Int × Int) : View (D.put (.int .i64 k) (nodeD v)) (upd f k (some v)) := by
  refine ⟨fun j => ?_, fun j x hj z => ?_⟩
  · unfold upd
    by_cases e : j = k
    · subst e; rw [if_pos rfl, Maps.has_put_same hD (keyLit _)]; rfl
    · rw [if_neg e, Maps.has_put_other (lit_ne e)]; exact h.has j
  · unfold upd at hj
    by_cases e : j = k
    · subst e; rw [if_pos rfl] at hj; obtain rfl := Option.some.inj hj; exact Maps.atKey_put_same hD (keyLit _) _ _
    · rw [if_neg e] at hj; rw [Maps.atKey_put_other (lit_ne e)]; exact h.get j x hj z
theorem View.del {D : DataW Unit} {f : Int → Option (Int × Int)} (h : View D f) (k : Int) : View (D.del (.int .i64 k)) (upd f k none) := by
  refine ⟨fun j => ?_, fun j x hj z => ?_⟩
  · unfold upd
    by_cases e : j = k
    · subst e; rw [if_pos rfl, Maps.has_del_same]; rfl
    · rw [if_neg e, Maps.has_del_other (lit_ne e)]; exact h.has j
  · unfold upd at hj
    by_cases e : j = k
    · subst e; rw [if_pos rfl] at hj; cases hj
    · rw [if_neg e] at hj; rw [Maps.atKey_del_other (lit_ne e)]; exact h.get j x hj z
/-- Block b is a map of n nodes: at k stands f k. -/
def MapIs (w : World) (b : Nat) (f : Int → Option (Int × Int)) (n : Nat) : Prop := ∃ D, w.ownsMap Try.prog 3 nodeR b n D ∧ Maps.size D = n ∧ View D f
theorem law : Keyed Try.prog 3 := int_keyed Try.underlying3
theorem zeroE (w : World) : (zeroValue 88).run Try.prog w = .ok (nodeV (0, 0)) w := by kernel_rfl
theorem field0 (x y : Int) (w : World) : (Instr.field 88 (.agg #[.int .i64 x, .int .i64 y]) 0).run Try.prog w = .ok (.int .i64 x) w := by kernel_rfl
theorem field1 (x y : Int) (w : World) : (Instr.field 88 (.agg #[.int .i64 x, .int .i64 y]) 1).run Try.prog w = .ok (.int .i64 y) w := by kernel_rfl
theorem tight {w : World} {b n : Nat} {D : DataW Unit} {k : TypeId} (h : w.ownsMap Try.prog k nodeR b n D) : w.ownsMap Try.prog k nodeR b (Maps.size D) D := by
  obtain ⟨es, clock, hb, F, hs, rfl⟩ := h
  exact ⟨es, clock, hb, F, by simp [Maps.size, length_sorted], rfl⟩
section
variable {w w' : World} {b n : Nat} {f : Int → Option (Int × Int)}
theorem MapIs.lt (h : MapIs w b f n) : b < w.heap.size := by obtain ⟨D, h1, _⟩ := h; exact h1.lt
theorem MapIs.same (h : MapIs w b f n) (e : w'.heap[b]? = w.heap[b]?) : MapIs w' b f n := by
  obtain ⟨D, ⟨es, clock, hb, F, hs, hD⟩, h2, h3⟩ := h
  exact ⟨D, ⟨es, clock, e.trans hb, F, hs, hD⟩, h2, h3⟩
theorem MapIs.only {S : Nat → Prop} (h : MapIs w b f n) (o : Only S w w') (hs : ¬ S b) : MapIs w' b f n := h.same (o.block b h.lt hs)
theorem MapIs.new (w : World) : MapIs (w.alloc (.map #[] 0)) w.heap.size (lnk []) 0 := ⟨_, World.ownsMap_made w _ _ _, rfl, ⟨fun k => rfl, fun k v h => by cases h⟩⟩
theorem MapIs.len (h : MapIs w b f n) (ty : TypeId) : (Builtin.len_ #[84] ty #[.map (some b)]).run Try.prog w = .ok (.int .i64 n) w := by
  obtain ⟨D, h1, h2, _⟩ := h
  rw [← h2]
  exact h1.len Try.underlying84 ty
theorem MapIs.look2 (h : MapIs w b f n) {k : Int} (hk : (Lit.int .i64 k).wf = true) : (Instr.lookup 84 (.map (some b)) (.int .i64 k) true).run Try.prog w = .ok (.tuple #[nodeV ((f k).getD (0, 0)), .bool (f k).isSome]) w := by
  obtain ⟨D, h1, _, h3⟩ := h
  obtain ⟨v, ps, hr, hv⟩ := h1.look_ok law Try.underlying84 (zeroE w) (nodeR_mk (0, 0)) (keyOf_int_mk Try.underlying3 hk)
  obtain ⟨x, rfl, hx⟩ := nodeR_inv hv
  rw [hr, h3.has k]
  cases hf : f k with
  | none =>
    have hn : Maps.has D (.int .i64 k) = false := by rw [h3.has k, hf]; rfl
    rw [Maps.atKey_of_not_has hn] at hx
    rw [← nodeD_inj hx]; rfl
  | some y =>
    rw [h3.get k y hf] at hx
    rw [← nodeD_inj hx]; rfl
theorem MapIs.look1 (h : MapIs w b f n) {k : Int} (hk : (Lit.int .i64 k).wf = true) : (Instr.lookup 84 (.map (some b)) (.int .i64 k) false).run Try.prog w = .ok (nodeV ((f k).getD (0, 0))) w := by
  obtain ⟨D, h1, _, h3⟩ := h
  obtain ⟨v, ps, hr, hv⟩ := h1.lookup law Try.underlying84 (zeroE w) (nodeR_mk (0, 0)) (keyOf_int_mk Try.underlying3 hk)
  obtain ⟨x, rfl, hx⟩ := nodeR_inv hv
  rw [hr]
  cases hf : f k with
  | none =>
    have hn : Maps.has D (.int .i64 k) = false := by rw [h3.has k, hf]; rfl
    rw [Maps.atKey_of_not_has hn] at hx
    rw [← nodeD_inj hx]; rfl
  | some y =>
    rw [h3.get k y hf] at hx
    rw [← nodeD_inj hx]; rfl
theorem MapIs.store (h : MapIs w b f n) (hn : n < maxLen) {k : Int} (hk : (Lit.int .i64 k).wf = true) (v : Int × Int) : ∃ w', (Instr.mapUpdate 84 (.map (some b)) (.int .i64 k) (nodeV v)).run Try.prog w = .ok () w' ∧
    MapIs w' b (upd f k (some v)) (if (f k).isSome then n else n + 1) ∧ Only (· = b) w w' := by
  obtain ⟨D, h1, h2, h3⟩ := h
  obtain ⟨w', hr, ho, ht⟩ := h1.store law Try.underlying84 hn (keyOf_int_mk Try.underlying3 hk) (nodeR_mk v)
  have hsz : Maps.size (D.put (.int .i64 k) (nodeD v)) = if (f k).isSome then n else n + 1 := by
    rw [Maps.size_put (h1.tidy law), h3.has k, h2]
  refine ⟨w', hr, ⟨_, ?_, hsz, h3.put h1.isMap k v⟩, ?_⟩
  · rw [← hsz]; exact tight ho
  · have hg := Only.of_grown ht.grown
    exact hg.mono (fun i _ e => (Option.some.inj e).symm)
theorem MapIs.drop (h : MapIs w b f n) {k : Int} (hk : (Lit.int .i64 k).wf = true) (ty : TypeId) : ∃ w', (Builtin.delete_ #[84, 3] ty #[.map (some b), .int .i64 k]).run Try.prog w = .ok (.tuple #[]) w' ∧
    MapIs w' b (upd f k none) (if (f k).isSome then n - 1 else n) ∧ Only (· = b) w w' := by
  obtain ⟨D, h1, h2, h3⟩ := h
  obtain ⟨w', hr, ho, ht⟩ := h1.drop law Try.underlying84 (keyOf_int_mk Try.underlying3 hk) ty
  have hsz : Maps.size (D.del (.int .i64 k)) = if (f k).isSome then n - 1 else n := by
    have e := Maps.size_del (k := .int .i64 k) (h1.tidy law)
    rw [h3.has k, h2] at e
    split <;> simp_all <;> omega
  refine ⟨w', hr, ⟨_, ?_, hsz, h3.del k⟩, ?_⟩
  · rw [← hsz]; exact tight ho
  · have hg := Only.of_grown ht.grown
    exact hg.mono (fun i _ e => (Option.some.inj e).symm)
end
/-! at the operation, for the walk -/
section
variable {w : World} {ops : Array Oper} {rest : List Oper} {o : Oper} {a : Act} {Q : Exit → Act → World → Prop} {b n : Nat} {f : Int → Option (Int × Int)}
theorem wpList_look2 (hg : o.guard = none) (m x : Operand) (hop : o.op = Op.lookup 84 m x true) (h : MapIs w b f n) (hm : a.eval m = .map (some b)) (k : Int) (hx : a.eval x = .int .i64 k) (hk : (Lit.int .i64 k).wf = true)
    (v : Int × Int) (c : Bool) (hv : (f k).getD (0, 0) = v) (hc : (f k).isSome = c)
    (hK : wpList Try.prog ops Q rest (a.put o.dst (.tuple #[.agg #[.int .i64 v.1, .int .i64 v.2], .bool c])) w) : wpList Try.prog ops Q (o :: rest) a w := by
  refine wpList_plain hg fun K' hK' => ?_
  have hr := h.look2 hk
  rw [hv, hc] at hr
  unfold Oper.wp
  simp [execOp, hop, hm, hx, hr, Result.andThen]
  exact hK' _ _ hK
theorem wpList_look1 (hg : o.guard = none) (m x : Operand) (hop : o.op = Op.lookup 84 m x false) (h : MapIs w b f n) (hm : a.eval m = .map (some b)) (k : Int) (hx : a.eval x = .int .i64 k) (hk : (Lit.int .i64 k).wf = true)
    (v : Int × Int) (hv : (f k).getD (0, 0) = v)
    (hK : wpList Try.prog ops Q rest (a.put o.dst (.agg #[.int .i64 v.1, .int .i64 v.2])) w) : wpList Try.prog ops Q (o :: rest) a w := by
  refine wpList_plain hg fun K' hK' => ?_
  have hr := h.look1 hk
  rw [hv] at hr
  unfold Oper.wp
  simp [execOp, hop, hm, hx, hr, Result.andThen]
  exact hK' _ _ hK
theorem wpList_store (hg : o.guard = none) (m x y : Operand) (hop : o.op = Op.mapUpdate 84 m x y) (h : MapIs w b f n) (hn : n < maxLen) (hm : a.eval m = .map (some b)) (k : Int) (hx : a.eval x = .int .i64 k) (hk : (Lit.int .i64 k).wf = true)
    (p q : Int) (hy : a.eval y = .agg #[.int .i64 p, .int .i64 q]) (n' : Nat) (hn' : (if (f k).isSome then n else n + 1) = n')
    (hK : ∀ w', MapIs w' b (upd f k (some (p, q))) n' → Only (· = b) w w' → wpList Try.prog ops Q rest (a.put o.dst undef) w') : wpList Try.prog ops Q (o :: rest) a w := by
  refine wpList_plain hg fun K' hK' => ?_
  obtain ⟨w', hr, h1, h2⟩ := h.store hn hk (p, q)
  rw [hn'] at h1
  unfold Oper.wp
  have hr' : (Instr.mapUpdate 84 (.map (some b)) (.int .i64 k) (.agg #[.int .i64 p, .int .i64 q])).run Try.prog w = .ok () w' := hr
  simp [execOp, hop, hm, hx, hy, hr', Result.andThen]
  exact hK' _ _ (hK w' h1 h2)
theorem wpList_delete (hg : o.guard = none) (m x : Operand) (hop : o.op = Op.call { callee := Callee.builtin Builtin.delete, args := #[m, x], argTypes := #[84, 3] }) (h : MapIs w b f n) (hm : a.eval m = .map (some b)) (k : Int) (hx : a.eval x = .int .i64 k) (hk : (Lit.int .i64 k).wf = true)
    (n' : Nat) (hn' : (if (f k).isSome then n - 1 else n) = n')
    (hK : ∀ w', MapIs w' b (upd f k none) n' → Only (· = b) w w' → wpList Try.prog ops Q rest (a.put o.dst (.tuple #[])) w') : wpList Try.prog ops Q (o :: rest) a w := by
  refine wpList_plain hg fun K' hK' => ?_
  obtain ⟨w', hr, h1, h2⟩ := h.drop hk o.type
  rw [hn'] at h1
  unfold Oper.wp
  simp [execOp, hop, resolve, invoke, builtin, hm, hx, hr, Result.andThen]
  exact hK' _ _ (hK w' h1 h2)
end
end Go.Proofs.Ytmhnfcodppfaiac.ListCode
