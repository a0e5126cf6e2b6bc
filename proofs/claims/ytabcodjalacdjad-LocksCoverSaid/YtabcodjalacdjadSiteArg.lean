
/- A struct of a slice of structs and a bool, by value, as an argument. -/
import Derived.Test.YtabcodjalacdjadObj
namespace Go.Proofs.Ytabcodjalacdjad.Obj
open Go Go.RowKit Go.ChangeShapes Go.WideShapes Go.Deep
set_option linter.unusedVariables false
section
variable {H : Type} {enc : TypeId × Value → H} {P : Program} {w : World} {base : Nat} {spare : Nat → Bool} {held : Bool}
theorem open_site {r : Reach} {b0 : Nat} {t e : TypeId} {f0 f1 : Field} {v : Value} {d : DataW H} {p : List MemPlace} (ks : List Kd) (hs : P.underlying t = some (.struct #[f0, f1]))
    (o0 : f0.offset = 0) (o1 : f1.offset = 1) (c0 : P.cellsOf f0.type = 1) (c1 : P.cellsOf f1.type = 1) (u0 : P.underlying f0.type = some (.slice e)) (u1 : P.underlying f1.type = some .bool) (hk : flat P 3 e = some ks) (hE : P.cellsOf e = ks.length) (hC : P.cellsOf t = 2)
    (hv : Value.okWide P w r b0 t v) (h : DataW.Trod enc P w base spare held t v d p) : ∃ a len cap b, v = .agg #[.slice a len cap, .bool b] ∧ Rows w ks a len cap := by
  obtain ⟨⟨cs⟩, rfl, hsz⟩ := okWide_struct hs hv
  obtain ⟨fuel, hf⟩ := h
  have hl : cs.length = 2 := by rw [← hC, ← hsz]; rfl
  match cs, hl with
  | [x0, x1], _ =>
    have hf2 : DataW.trod enc P w base spare held fuel t [x0, x1] = some (d, p) := by simpa [Value.cells] using hf
    obtain ⟨xs, m, _, _, _, hlen, hfs⟩ := DataW.trod_struct hs hf2
    have h0 := hfs 0 f0 rfl
    have h1 := hfs 1 f1 rfl
    rw [o0, c0] at h0
    rw [o1, c1] at h1
    have hlen2 : xs.length = 2 := hlen
    match xs, hlen2 with
    | [y0, y1], _ =>
      have g0 : DataW.trod enc P w base spare held m f0.type [x0] = some y0 := h0
      have g1 : DataW.trod enc P w base spare held m f1.type [x1] = some y1 := h1
      obtain ⟨b, hb, _⟩ := DataW.trod_bool u1 g1
      simp at hb
      subst hb
      have hA : ∃ a len cap, x0 = .slice a len cap := by
        rcases open_slice u0 g0 with ⟨hcs, _⟩ | ⟨x, l, c, m2, n', D, Pl, hcs, _⟩
        · simp at hcs; exact ⟨_, _, _, hcs⟩
        · simp at hcs; exact ⟨_, _, _, hcs⟩
      obtain ⟨a, len, cap, rfl⟩ := hA
      exact ⟨a, len, cap, b, rfl, open_rows (n := 3) ks u0 hk hE g0⟩
end
end Go.Proofs.Ytabcodjalacdjad.Obj
