
/- A struct of numbers and bools, by value, as an argument. -/
import Derived.Test.YtabcodjalacdjacObj
namespace Go.Proofs.Ytabcodjalacdjac.Obj
open Go Go.RowKit Go.ChangeShapes Go.WideShapes Go.Deep
set_option linter.unusedVariables false
section
variable {H : Type} {enc : TypeId × Value → H} {P : Program} {w : World} {base : Nat} {spare : Nat → Bool} {held : Bool}
theorem open_agg {r : Reach} {b0 : Nat} {t : TypeId} {fs : Array Field} {v : Value} {d : DataW H} {p : List MemPlace} (ks : List Kd) (hs : P.underlying t = some (.struct fs)) (hk : flat P 3 t = some ks) (hC : P.cellsOf t = ks.length)
    (hv : Value.okWide P w r b0 t v) (h : DataW.Trod enc P w base spare held t v d p) : ∃ cs : List Value, v = .agg cs.toArray ∧ cs.length = ks.length ∧ ∀ (j : Nat) (k : Kd), ks[j]? = some k → ∃ x, cs[j]? = some x ∧ k.ok x := by
  obtain ⟨⟨cs⟩, rfl, hsz⟩ := okWide_struct hs hv
  obtain ⟨fuel, hf⟩ := h
  have hl : cs.length = ks.length := by rw [← hC, ← hsz]; rfl
  refine ⟨cs, rfl, hl, ?_⟩
  exact flat_ok 3 t ks hk fuel cs _ (by simpa [Value.cells] using hf) hl
theorem open_agg6 {r : Reach} {b0 : Nat} {t : TypeId} {fs : Array Field} {v : Value} {d : DataW H} {p : List MemPlace} {k : IntKind} (hs : P.underlying t = some (.struct fs)) (hk : flat P 3 t = some [.int k, .int k, .int k, .int k, .int k, .int k]) (hC : P.cellsOf t = 6)
    (hv : Value.okWide P w r b0 t v) (h : DataW.Trod enc P w base spare held t v d p) : ∃ a b c e f g : Int, v = .agg #[.int k a, .int k b, .int k c, .int k e, .int k f, .int k g] ∧
      (Lit.int k a).wf = true ∧ (Lit.int k b).wf = true ∧ (Lit.int k c).wf = true ∧ (Lit.int k e).wf = true ∧ (Lit.int k f).wf = true ∧ (Lit.int k g).wf = true := by
  obtain ⟨cs, rfl, hl, ho⟩ := open_agg _ hs hk hC hv h
  match cs, hl with
  | [x0, x1, x2, x3, x4, x5], _ =>
    obtain ⟨_, e0, a, rfl, u0⟩ := ho 0 _ rfl
    obtain ⟨_, e1, b, rfl, u1⟩ := ho 1 _ rfl
    obtain ⟨_, e2, c, rfl, u2⟩ := ho 2 _ rfl
    obtain ⟨_, e3, e, rfl, u3⟩ := ho 3 _ rfl
    obtain ⟨_, e4, f, rfl, u4⟩ := ho 4 _ rfl
    obtain ⟨_, e5, g, rfl, u5⟩ := ho 5 _ rfl
    simp at e0 e1 e2 e3 e4 e5
    subst e0 e1 e2 e3 e4 e5
    exact ⟨a, b, c, e, f, g, rfl, u0, u1, u2, u3, u4, u5⟩
end
end Go.Proofs.Ytabcodjalacdjac.Obj
