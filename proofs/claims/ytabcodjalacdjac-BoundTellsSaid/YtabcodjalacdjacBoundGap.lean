
/- bound: plain facts on picks: gaps and windows. -/
import Derived.Test.YtabcodjalacdjacBoundPure
namespace Go.Proofs.Ytabcodjalacdjac.BoundGap
set_option linter.unusedVariables false
/-- Where one was picked last, ahead of i; -1: nowhere. -/
def lastAt (r : Nat → Nat) : Nat → Nat → Int
  | 0, _ => -1
  | i + 1, k => if r i = k then (i : Int) else lastAt r i k
theorem last_succ (r : Nat → Nat) (i k : Nat) : lastAt r (i + 1) k = if r i = k then (i : Int) else lastAt r i k := rfl
/-- The greatest gap up to i. -/
def gapAt (r : Nat → Nat) : Nat → Int
  | 0 => 0
  | i + 1 => max (gapAt r i) ((i : Int) - lastAt r i (r i))
def leastV (r : Nat → Nat) (n p : Nat) : Int := (List.range p).foldl (fun w k => max w ((n : Int) - lastAt r n k)) (gapAt r n)
def FairP (r : Nat → Nat) (n p : Nat) (W : Int) : Prop := ∀ k, k < p → ∀ a : Nat, (a : Int) + W ≤ n → ∃ j : Nat, a ≤ j ∧ (j : Int) < a + W ∧ r j = k
theorem last_lt (r : Nat → Nat) (k : Nat) : ∀ i, lastAt r i k < (i : Int)
  | 0 => by simp [lastAt]
  | i + 1 => by
    have := last_lt r k i
    unfold lastAt
    split <;> omega
theorem last_ge (r : Nat → Nat) (k : Nat) : ∀ i, -1 ≤ lastAt r i k
  | 0 => by simp [lastAt]
  | i + 1 => by
    have := last_ge r k i
    unfold lastAt
    split <;> omega
theorem last_none (r : Nat → Nat) (k : Nat) : ∀ i j : Nat, lastAt r i k < (j : Int) → j < i → r j ≠ k
  | 0, j, _, h => by omega
  | i + 1, j, h1, h2 => by
    unfold lastAt at h1
    split at h1
    · omega
    · rename_i hk
      by_cases e : j = i
      · subst e; exact hk
      · exact last_none r k i j h1 (by omega)
theorem fold_max (f : Nat → Int) (W : Int) : ∀ (l : List Nat) (s : Int), l.foldl (fun w k => max w (f k)) s ≤ W ↔ s ≤ W ∧ ∀ k ∈ l, f k ≤ W
  | [], s => by simp
  | a :: l, s => by
    rw [List.foldl_cons, fold_max f W l]
    constructor
    · rintro ⟨h1, h2⟩
      refine ⟨by omega, fun k hk => ?_⟩
      rcases List.mem_cons.1 hk with rfl | hk
      · omega
      · exact h2 k hk
    · rintro ⟨h1, h2⟩
      have := h2 a (List.mem_cons_self ..)
      exact ⟨by omega, fun k hk => h2 k (List.mem_cons_of_mem _ hk)⟩
theorem gap_le (r : Nat → Nat) (W : Int) : ∀ i, gapAt r i ≤ W ↔ 0 ≤ W ∧ ∀ j, j < i → (j : Int) - lastAt r j (r j) ≤ W
  | 0 => by simp [gapAt]
  | i + 1 => by
    have h := gap_le r W i
    unfold gapAt
    constructor
    · intro h1
      have h2 := h.1 (by omega)
      refine ⟨h2.1, fun j hj => ?_⟩
      by_cases e : j = i
      · subst e; omega
      · exact h2.2 j (by omega)
    · rintro ⟨h1, h2⟩
      have h3 := h.2 ⟨h1, fun j hj => h2 j (by omega)⟩
      have := h2 i (by omega)
      omega
theorem least_le (r : Nat → Nat) (n p : Nat) (W : Int) : leastV r n p ≤ W ↔ (0 ≤ W ∧ ∀ j, j < n → (j : Int) - lastAt r j (r j) ≤ W) ∧ ∀ k, k < p → (n : Int) - lastAt r n k ≤ W := by
  unfold leastV
  rw [fold_max, gap_le]
  simp only [List.mem_range]
theorem least_fair {r : Nat → Nat} {n p : Nat} (hr : ∀ i, r i < p) (hp : 1 ≤ p) (W : Int) : leastV r n p ≤ W ↔ FairP r n p W ∧ 0 ≤ W := by
  rw [least_le]
  constructor
  · rintro ⟨⟨h0, h1⟩, h2⟩
    refine ⟨fun k hk a ha => ?_, h0⟩
    apply Classical.byContradiction
    intro hno
    have hn : ∀ j : Nat, a ≤ j → (j : Int) < a + W → r j ≠ k := fun j h3 h4 h5 => hno ⟨j, h3, h4, h5⟩
    obtain ⟨W', rfl⟩ : ∃ m : Nat, W = (m : Int) := ⟨W.toNat, by omega⟩
    have hl := last_lt r k a
    have hin : ∀ m, m ≤ W' → lastAt r (a + m) k = lastAt r a k := by
      intro m
      induction m with
      | zero => intro _; rfl
      | succ m ih =>
        intro hm
        rw [← Nat.add_assoc, last_succ, if_neg (hn (a + m) (by omega) (by omega))]
        exact ih (by omega)
    have hout : ∀ m, a + W' + m ≤ n → lastAt r (a + W' + m) k = lastAt r a k := by
      intro m
      induction m with
      | zero => intro _; exact hin W' (Nat.le_refl _)
      | succ m ih =>
        intro hm
        have e := ih (by omega)
        rw [← Nat.add_assoc, last_succ]
        by_cases hk : r (a + W' + m) = k
        · have := h1 (a + W' + m) (by omega)
          rw [hk, e] at this
          omega
        · rw [if_neg hk]; exact e
    have e := hout (n - (a + W')) (by omega)
    rw [show a + W' + (n - (a + W')) = n by omega] at e
    have := h2 k hk
    omega
  · rintro ⟨hF, h0⟩
    have main : ∀ i k : Nat, i ≤ n → k < p → (i : Int) - lastAt r i k ≤ W := by
      intro i k hi hk
      apply Classical.byContradiction
      intro hgt
      have hg := last_ge r k i
      obtain ⟨a, ha⟩ : ∃ a : Nat, lastAt r i k + 1 = (a : Int) := ⟨(lastAt r i k + 1).toNat, by omega⟩
      obtain ⟨j, h1, h2, h3⟩ := hF k hk a (by omega)
      exact last_none r k i j (by omega) (by omega) h3
    exact ⟨⟨h0, fun j hj => main j (r j) (by omega) (hr j)⟩, fun k hk => main n k (Nat.le_refl _) hk⟩
theorem least_top {r : Nat → Nat} {n p : Nat} (hr : ∀ i, r i < p) (hp : 1 ≤ p) : leastV r n p ≤ (n : Int) + 1 := by
  rw [least_fair hr hp]
  exact ⟨fun k hk a ha => by omega, by omega⟩
theorem least_pos {r : Nat → Nat} {n p : Nat} (hr : ∀ i, r i < p) (hp : 1 ≤ p) : 1 ≤ leastV r n p := by
  rcases Int.lt_or_le (leastV r n p) 1 with h | h
  · have := (least_le r n p 0).1 (by omega)
    have h2 := this.2 0 (by omega)
    have := last_lt r 0 n
    omega
  · exact h
/-- The code's loop over the map: what it has, when all have been met. -/
theorem least_end {r : Nat → Nat} {n p : Nat} {v : Int} (h1 : gapAt r n ≤ v) (h2 : v ≤ leastV r n p) (h3 : ∀ k, k < p → (n : Int) - lastAt r n k ≤ v) : v = leastV r n p := by
  have : leastV r n p ≤ v := by
    unfold leastV
    rw [fold_max]
    exact ⟨h1, fun k hk => h3 k (List.mem_range.1 hk)⟩
  omega
theorem gap_least (r : Nat → Nat) (n p : Nat) : gapAt r n ≤ leastV r n p := ((fold_max _ _ _ _).1 (Int.le_refl (leastV r n p))).1
theorem last_least (r : Nat → Nat) {n p k : Nat} (hk : k < p) : (n : Int) - lastAt r n k ≤ leastV r n p := ((fold_max _ _ _ _).1 (Int.le_refl (leastV r n p))).2 k (List.mem_range.2 hk)
/-- What Fair answers. -/
def fairV (r : Nat → Nat) (n : Nat) (p w : Int) : Bool := decide (1 ≤ p ∧ p ≤ 255 ∧ p ≤ w) && (decide ((n : Int) < w) || decide (leastV r n p.toNat ≤ w))
def windowV (r : Nat → Nat) (n : Nat) (p : Int) : Int := if 1 ≤ p ∧ p ≤ 255 then max p (min (leastV r n p.toNat) ((n : Int) + 1)) else 0
theorem FairP.part {r : Nat → Nat} {n p a b : Nat} {W : Int} (h : FairP r n p W) (hab : a ≤ b) (hb : b ≤ n) : FairP (fun i => r (a + i)) (b - a) p W := by
  intro k hk c hc
  obtain ⟨j, h1, h2, h3⟩ := h k hk (a + c) (by omega)
  refine ⟨j - a, by omega, by omega, ?_⟩
  show r (a + (j - a)) = k
  rw [show a + (j - a) = j by omega]
  exact h3
theorem turn_fair (n p : Nat) (hp : 1 ≤ p) : FairP (fun i => i % p % p) n p p := by
  intro k hk a ha
  refine ⟨a + (k + p - a % p) % p, by omega, ?_, ?_⟩
  · have := Nat.mod_lt (k + p - a % p) (show 0 < p by omega)
    omega
  · show (a + (k + p - a % p) % p) % p % p = k
    rw [Nat.mod_mod, Nat.add_mod_mod]
    have h1 := Nat.mod_lt a (show 0 < p by omega)
    have h2 := Nat.div_add_mod a p
    have e : a + (k + p - a % p) = k + p * (a / p + 1) := by
      rw [Nat.mul_add]; omega
    rw [e, Nat.add_mul_mod_self_left, Nat.mod_eq_of_lt hk]
end Go.Proofs.Ytabcodjalacdjac.BoundGap
