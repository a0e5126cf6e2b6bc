
/- bound: plain facts on the numbers. -/
import Derived.Test.YtabcodjalacdjacObj
namespace Go.Proofs.Ytabcodjalacdjac.BoundPure
set_option linter.unusedVariables false
/-- The greatest bound. -/
def MB : Nat := 4611686018427387904
def satp (a b : Nat) : Nat := min (a + b) MB
def satt (a b : Nat) : Nat := min (a * b) MB
theorem satp_le (a b : Nat) : satp a b ≤ MB := Nat.min_le_right _ _
theorem satt_le (a b : Nat) : satt a b ≤ MB := Nat.min_le_right _ _
theorem satp_mono {a b c d : Nat} (h1 : a ≤ c) (h2 : b ≤ d) : satp a b ≤ satp c d := by unfold satp; omega
theorem min_mono {a b m : Nat} (h : a ≤ b) : min a m ≤ min b m := by omega
theorem satt_mono {a b c d : Nat} (h1 : a ≤ c) (h2 : b ≤ d) : satt a b ≤ satt c d := min_mono (Nat.mul_le_mul h1 h2)
theorem satp_zero {a : Nat} (h : a ≤ MB) : satp 0 a = a := by unfold satp; omega
theorem satt_one {a : Nat} (h : a ≤ MB) : satt 1 a = a := by unfold satt; omega
theorem satp_comm (a b : Nat) : satp a b = satp b a := by unfold satp; rw [Nat.add_comm]
theorem satp_assoc (a b c : Nat) : satp (satp a b) c = satp a (satp b c) := by unfold satp; omega
/-- The code's product. -/
theorem satt_div {n x : Nat} (hn : n ≤ MB) : (if x ≠ 0 ∧ MB / x < n then MB else n * x) = satt n x := by
  unfold satt
  by_cases h0 : x = 0
  · subst h0; simp
  · have hx : 0 < x := by omega
    by_cases h : MB / x < n
    · rw [if_pos ⟨h0, h⟩]
      have := (Nat.div_lt_iff_lt_mul hx).1 h
      omega
    · rw [if_neg (fun hh => h hh.2)]
      have : n * x ≤ MB := by
        rcases Nat.lt_or_ge MB (n * x) with h2 | h2
        · exact absurd ((Nat.div_lt_iff_lt_mul hx).2 h2) h
        · exact h2
      omega
def plusL (l : List Nat) : Nat := l.foldl satp 0
def timesL (l : List Nat) : Nat := l.foldl satt 1
theorem plusL_le (l : List Nat) : plusL l ≤ MB := by
  unfold plusL
  have : ∀ (l : List Nat) (s : Nat), s ≤ MB → l.foldl satp s ≤ MB := by
    intro l
    induction l with
    | nil => intro s h; exact h
    | cons a r ih => intro s _; exact ih _ (satp_le _ _)
  exact this l 0 (by decide)
theorem timesL_le (l : List Nat) : timesL l ≤ MB := by
  unfold timesL
  have : ∀ (l : List Nat) (s : Nat), s ≤ MB → l.foldl satt s ≤ MB := by
    intro l
    induction l with
    | nil => intro s h; exact h
    | cons a r ih => intro s _; exact ih _ (satt_le _ _)
  exact this l 1 (by decide)
/-- A size. -/
structure Sz where
  W : Int
  P : Int
  T : Int
  C : Int
  N : Int
  Q : Int
def May (z : Sz) : Prop := (1 ≤ z.W ∧ z.W ≤ 1024) ∧ (1 ≤ z.P ∧ z.P ≤ min 255 z.W) ∧ (1 ≤ z.T ∧ z.T ≤ 32) ∧ (0 ≤ z.C ∧ z.C ≤ 6) ∧ (1 ≤ z.N ∧ z.N ≤ 6) ∧ (1 ≤ z.Q ∧ z.Q ≤ 1000)
instance (z : Sz) : Decidable (May z) := by unfold May; infer_instance
def holdV (z : Sz) : Nat := (8 * z.T * z.N + 8 * z.N + 40).toNat
theorem hold_lt {z : Sz} (h : May z) : 0 ≤ 8 * z.T * z.N + 8 * z.N + 40 ∧ 8 * z.T * z.N + 8 * z.N + 40 ≤ 1624 := by
  obtain ⟨_, _, ⟨h1, h2⟩, _, ⟨h3, h4⟩, _⟩ := h
  have a1 : 8 * z.T * z.N ≤ 8 * 32 * 6 := Int.mul_le_mul (by omega) h4 (by omega) (by omega)
  have a2 : 0 ≤ 8 * z.T * z.N := Int.mul_nonneg (by omega) (by omega)
  omega
/-- What stands behind so many channels. -/
def sumV (H P : Nat) : Nat → Nat
  | 0 => 0
  | i + 1 => plusL [sumV H P i, timesL [P, plusL [H, sumV H P i]], 2]
def lockV (H P i : Nat) : Nat := timesL [P, plusL [H, sumV H P i]]
theorem sumV_le (H P : Nat) : ∀ i, sumV H P i ≤ MB
  | 0 => Nat.zero_le _
  | i + 1 => plusL_le _
theorem lockV_le (H P i : Nat) : lockV H P i ≤ MB := timesL_le _
theorem sumV_succ (H P i : Nat) : sumV H P (i + 1) = plusL [sumV H P i, lockV H P i, 2] := rfl
def ofV (z : Sz) : Nat :=
  timesL [z.W.toNat, (z.T + 1).toNat, plusL [timesL [(z.Q + 2).toNat, plusL [sumV (holdV z) z.P.toNat z.C.toNat, holdV z, timesL [(z.T + 2).toNat, (4 * z.P + 4).toNat]]], 4 * (4 * z.P + 4).toNat]]
theorem plusL2_mono {a b c d : Nat} (h1 : a ≤ c) (h2 : b ≤ d) : plusL [a, b] ≤ plusL [c, d] := satp_mono (satp_mono (Nat.le_refl _) h1) h2
theorem plusL3_mono {a b c d e f : Nat} (h1 : a ≤ d) (h2 : b ≤ e) (h3 : c ≤ f) : plusL [a, b, c] ≤ plusL [d, e, f] := satp_mono (satp_mono (satp_mono (Nat.le_refl _) h1) h2) h3
theorem timesL2_mono {a b c d : Nat} (h1 : a ≤ c) (h2 : b ≤ d) : timesL [a, b] ≤ timesL [c, d] := satt_mono (satt_mono (Nat.le_refl _) h1) h2
theorem timesL3_mono {a b c d e f : Nat} (h1 : a ≤ d) (h2 : b ≤ e) (h3 : c ≤ f) : timesL [a, b, c] ≤ timesL [d, e, f] := satt_mono (satt_mono (satt_mono (Nat.le_refl _) h1) h2) h3
theorem sumV_mono {H P H' P' : Nat} (hH : H ≤ H') (hP : P ≤ P') : ∀ i, sumV H P i ≤ sumV H' P' i
  | 0 => Nat.le_refl _
  | i + 1 => plusL3_mono (sumV_mono hH hP i) (timesL2_mono hP (plusL2_mono hH (sumV_mono hH hP i))) (Nat.le_refl _)
theorem sumV_step (H P i : Nat) : sumV H P i ≤ sumV H P (i + 1) := by
  have := sumV_le H P i
  show sumV H P i ≤ plusL [_, _, _]
  unfold plusL
  simp only [List.foldl_cons, List.foldl_nil, satp]
  omega
theorem sumV_more (H P : Nat) {i j : Nat} (h : i ≤ j) : sumV H P i ≤ sumV H P j := by
  induction j with
  | zero =>
    obtain rfl : i = 0 := by omega
    exact Nat.le_refl _
  | succ j ih =>
    rcases Nat.lt_or_ge i (j + 1) with h1 | h1
    · exact Nat.le_trans (ih (by omega)) (sumV_step H P j)
    · obtain rfl : i = j + 1 := by omega
      exact Nat.le_refl _
theorem lockV_more (H P : Nat) {i j : Nat} (h : i ≤ j) : lockV H P i ≤ lockV H P j := timesL2_mono (Nat.le_refl _) (plusL2_mono (Nat.le_refl _) (sumV_more H P h))
theorem holdV_mono {z y : Sz} (hz : May z) (hT : z.T ≤ y.T) (hN : z.N ≤ y.N) : holdV z ≤ holdV y := by
  unfold holdV
  obtain ⟨_, _, ⟨h1, h2⟩, _, ⟨h3, h4⟩, _⟩ := hz
  have : 8 * z.T * z.N ≤ 8 * y.T * y.N := Int.mul_le_mul (by omega) hN (by omega) (by omega)
  exact Int.toNat_le_toNat (by omega)
theorem ofV_mono {z y : Sz} (hz : May z) (h1 : z.W ≤ y.W) (h2 : z.P ≤ y.P) (h3 : z.T ≤ y.T) (h4 : z.C ≤ y.C) (h5 : z.N ≤ y.N) (h6 : z.Q ≤ y.Q) : ofV z ≤ ofV y := by
  have hh := holdV_mono hz h3 h5
  unfold ofV
  refine timesL3_mono (Int.toNat_le_toNat h1) (Int.toNat_le_toNat (by omega)) (plusL2_mono (timesL2_mono (Int.toNat_le_toNat (by omega)) (plusL3_mono ?_ hh (timesL2_mono (Int.toNat_le_toNat (by omega)) (Int.toNat_le_toNat (by omega))))) ?_)
  · exact Nat.le_trans (sumV_mono hh (Int.toNat_le_toNat h2) _) (sumV_more _ _ (Int.toNat_le_toNat h4))
  · exact Nat.mul_le_mul_left _ (Int.toNat_le_toNat (by omega))
theorem satt_pos {a b : Nat} (h1 : 1 ≤ a) (h2 : 1 ≤ b) : 1 ≤ satt a b := by
  have : 1 * 1 ≤ a * b := Nat.mul_le_mul h1 h2
  unfold satt MB; omega
theorem satp_pos {a b : Nat} (h : 1 ≤ b) : 1 ≤ satp a b := by unfold satp MB; omega
theorem ofV_pos {z : Sz} (h : May z) : 1 ≤ ofV z := by
  obtain ⟨⟨h1, _⟩, ⟨h2, _⟩, ⟨h3, _⟩, _⟩ := h
  exact satt_pos (satt_pos (satt_pos (Nat.le_refl _) (by omega)) (by omega)) (satp_pos (by omega))
theorem ofV_le (z : Sz) : ofV z ≤ MB := timesL_le _
end Go.Proofs.Ytabcodjalacdjac.BoundPure
