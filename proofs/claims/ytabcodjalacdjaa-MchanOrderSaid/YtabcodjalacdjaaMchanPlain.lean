
/- MchanOrder: the plain law: what is sent is received in order, who waits is served in order. -/
import Derived.Test.YtabcodjalacdjaaMchan
namespace Go.Proofs.Ytabcodjalacdjaa.MchanCode
set_option linter.unusedVariables false
/-- Those that wait came one after another, from a on, before b. -/
def Asc : Int → Int → List Wt → Prop
  | _, _, [] => True
  | a, b, x :: l => a ≤ x.task ∧ x.task < b ∧ Asc (x.task + 1) b l
theorem Asc.up {b b' : Int} (hb : b ≤ b') : ∀ {a : Int} {L : List Wt}, Asc a b L → Asc a b' L
  | _, [], _ => trivial
  | _, _ :: _, ⟨h1, h2, h3⟩ => ⟨h1, by omega, h3.up hb⟩
theorem Asc.snoc {b : Int} {y : Wt} (hy : y.task = b) : ∀ {a : Int} {L : List Wt}, Asc a b L → a ≤ b → Asc a (b + 1) (L ++ [y])
  | _, [], _, ha => ⟨by omega, by omega, trivial⟩
  | _, _ :: _, ⟨h1, h2, h3⟩, ha => ⟨h1, by omega, Asc.snoc hy h3 (by omega)⟩
theorem Asc.lt {b : Int} : ∀ {a : Int} {L : List Wt}, Asc a b L → ∀ y ∈ L, y.task < b
  | _, [], _, _, hy => by cases hy
  | _, _ :: _, ⟨_, h2, h3⟩, y, hy => by
    rcases List.mem_cons.1 hy with rfl | hy
    · exact h2
    · exact h3.lt y hy
/-- The numbers from g on. -/
def Run : Int → List Int → Prop
  | _, [] => True
  | g, v :: l => v = g ∧ Run (g + 1) l
theorem Run.snoc : ∀ {g : Int} {L : List Int} {v : Int}, Run g L → v = g + L.length → Run g (L ++ [v])
  | g, [], v, _, hv => ⟨by simpa using hv, trivial⟩
  | g, _ :: l, v, ⟨h1, h2⟩, hv => ⟨h1, Run.snoc h2 (by rw [hv]; simp; omega)⟩
structure St (most nx gt : Nat) (sd rc : Int) (i : Nat) (Bf : List Int) (R0 R1 : List Wt) : Prop where
  run : Run gt (Bf ++ R1.map Wt.val)
  cnt : gt + (Bf.length + R1.length) = nx
  r0 : R0 ≠ [] → Bf = [] ∧ R1 = []
  r1 : R1 ≠ [] → Bf.length = most
  le : Bf.length ≤ most
  a0 : Asc rc i R0
  a1 : Asc sd i R1
  rc0 : 0 ≤ rc ∧ rc ≤ i
  sd0 : 0 ≤ sd ∧ sd ≤ i
  nxi : nx ≤ i
  l0 : R0.length ≤ i
section
variable {most nx gt i : Nat} {sd rc : Int} {Bf b : List Int} {R0 R1 l : List Wt} {x : Wt} {v : Int}
theorem St.new (most : Nat) : St most 0 0 0 0 0 [] [] [] := ⟨trivial, rfl, fun h => absurd rfl h, fun h => absurd rfl h, Nat.zero_le _, trivial, trivial, by simp, by simp, Nat.le_refl _, Nat.le_refl _⟩
theorem cast1 (i : Nat) : ((i + 1 : Nat) : Int) = (i : Int) + 1 := by omega
theorem St.meet1 (h : St most nx gt sd rc i Bf (x :: l) R1) : Bf = [] ∧ R1 = [] ∧ gt = nx ∧ rc ≤ x.task ∧ x.task < i ∧ St most (nx + 1) (gt + 1) sd (x.task + 1) (i + 1) Bf l R1 := by
  obtain ⟨rfl, rfl⟩ := h.r0 (by simp)
  have hc : gt = nx := h.cnt
  obtain ⟨q1, q2, q3⟩ := h.a0
  have hrc := h.rc0
  have hsd := h.sd0
  have hnx := h.nxi
  have hl := h.l0
  simp only [List.length_cons] at hl
  exact ⟨rfl, rfl, hc, q1, q2, trivial, by simp; omega, fun _ => ⟨rfl, rfl⟩, fun h => absurd rfl h, Nat.zero_le _, q3.up (by omega), trivial, by omega, by omega, by omega, by omega⟩
theorem St.put (h : St most nx gt sd rc i Bf [] R1) (hb : Bf.length < most) : R1 = [] ∧ St most (nx + 1) gt sd rc (i + 1) (Bf ++ [(nx : Int)]) [] R1 := by
  have hR : R1 = [] := by
    cases R1 with
    | nil => rfl
    | cons y m => have := h.r1 (by simp); omega
  subst hR
  have hrc := h.rc0
  have hsd := h.sd0
  have hnx := h.nxi
  have hc := h.cnt
  have hr := h.run
  simp only [List.map_nil, List.append_nil, List.length_nil, Nat.add_zero] at hc hr
  refine ⟨rfl, ?_, by simp; omega, fun h => absurd rfl h, fun h => absurd rfl h, by simp; omega, trivial, trivial, by omega, by omega, by omega, Nat.zero_le _⟩
  rw [List.map_nil, List.append_nil]
  exact hr.snoc (by omega)
theorem St.wait1 (h : St most nx gt sd rc i Bf [] R1) (hb : ¬ Bf.length < most) : St most (nx + 1) gt sd rc (i + 1) Bf [] (R1 ++ [⟨i, 0, nx⟩]) := by
  have hrc := h.rc0
  have hsd := h.sd0
  have hnx := h.nxi
  have hc := h.cnt
  have hr := h.run
  have hle := h.le
  refine ⟨?_, by simp; omega, fun h => absurd rfl h, fun _ => by omega, hle, trivial, ?_, by omega, by omega, by omega, Nat.zero_le _⟩
  · rw [List.map_append, ← List.append_assoc]
    exact hr.snoc (by simp; omega)
  · rw [cast1]
    exact Asc.snoc (y := ⟨i, 0, nx⟩) rfl h.a1 hsd.2
theorem St.meet0 (h : St 0 nx gt sd rc i Bf R0 (x :: l)) : Bf = [] ∧ R0 = [] ∧ x.val = gt ∧ sd ≤ x.task ∧ x.task < i ∧ St 0 nx (gt + 1) (x.task + 1) rc (i + 1) Bf R0 l := by
  have hB : Bf = [] := List.length_eq_zero_iff.1 (by have := h.le; omega)
  subst hB
  have hR : R0 = [] := by
    cases R0 with
    | nil => rfl
    | cons y m => exact absurd (h.r0 (by simp)).2 (by simp)
  subst hR
  obtain ⟨q1, q2, q3⟩ := h.a1
  obtain ⟨p1, p2⟩ := h.run
  have hrc := h.rc0
  have hsd := h.sd0
  have hnx := h.nxi
  have hc := h.cnt
  simp only [List.length_cons, List.length_nil] at hc
  exact ⟨rfl, rfl, p1, q1, q2, p2, by simp; omega, fun h => absurd rfl h, fun _ => rfl, Nat.le_refl _, trivial, q3.up (by omega), by omega, by omega, by omega, Nat.zero_le _⟩
theorem St.refill (h : St most nx gt sd rc i Bf R0 (x :: l)) (hm : most ≠ 0) : ∃ b, Bf = (gt : Int) :: b ∧ R0 = [] ∧ sd ≤ x.task ∧ x.task < i ∧ St most nx (gt + 1) (x.task + 1) rc (i + 1) (b ++ [x.val]) R0 l := by
  have hl1 := h.r1 (by simp)
  have hR : R0 = [] := by
    cases R0 with
    | nil => rfl
    | cons y m => exact absurd (h.r0 (by simp)).2 (by simp)
  subst hR
  cases Bf with
  | nil => simp at hl1; omega
  | cons u b =>
    obtain ⟨q1, q2, q3⟩ := h.a1
    obtain ⟨p1, p2⟩ := h.run
    have hrc := h.rc0
    have hsd := h.sd0
    have hnx := h.nxi
    have hc := h.cnt
    simp only [List.length_cons] at hc hl1
    refine ⟨b, by rw [p1], rfl, q1, q2, ?_, by simp; omega, fun h => absurd rfl h, fun _ => by simpa using hl1, by simp; omega, trivial, q3.up (by omega), by omega, by omega, by omega, Nat.zero_le _⟩
    simp only [List.append_assoc, List.singleton_append]
    exact p2
theorem St.take (h : St most nx gt sd rc i (v :: b) R0 []) : v = gt ∧ R0 = [] ∧ St most nx (gt + 1) sd rc (i + 1) b R0 [] := by
  have hR : R0 = [] := by
    cases R0 with
    | nil => rfl
    | cons y m => exact absurd (h.r0 (by simp)).1 (by simp)
  subst hR
  obtain ⟨p1, p2⟩ := h.run
  have hrc := h.rc0
  have hsd := h.sd0
  have hnx := h.nxi
  have hc := h.cnt
  have hle := h.le
  simp only [List.length_cons, List.length_nil] at hc hle
  exact ⟨p1, rfl, p2, by simp; omega, fun h => absurd rfl h, fun h => absurd rfl h, by omega, trivial, trivial, by omega, by omega, by omega, Nat.zero_le _⟩
theorem St.wait0 (u : Int) (h : St most nx gt sd rc i [] R0 []) : St most nx gt sd rc (i + 1) [] (R0 ++ [⟨i, 0, u⟩]) [] := by
  have hrc := h.rc0
  have hsd := h.sd0
  have hnx := h.nxi
  have hc := h.cnt
  have hl := h.l0
  refine ⟨trivial, hc, fun _ => ⟨rfl, rfl⟩, fun h => absurd rfl h, Nat.zero_le _, ?_, trivial, by omega, by omega, by omega, by simp; omega⟩
  rw [cast1]
  exact Asc.snoc (y := ⟨i, 0, u⟩) rfl h.a0 hrc.2
end
end Go.Proofs.Ytabcodjalacdjaa.MchanCode
