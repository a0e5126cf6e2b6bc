/- Numbers as bytes of seven bits, in plain lists: what is put is got, what is got is put as it stood. -/
import Derived.Test.YtghbcdpnngheoabWMore
namespace Go.Proofs.Ytghbcdpnngheoab.OctetPlain

/-- The bytes of a number. -/
def vb (v : Nat) : List Nat := if v < 128 then [v] else (v % 128 + 128) :: vb (v / 128)
termination_by v
decreasing_by omega

theorem vb_lt {v : Nat} (h : v < 128) : vb v = [v] := by rw [vb, if_pos h]
theorem vb_ge {v : Nat} (h : ¬ v < 128) : vb v = (v % 128 + 128) :: vb (v / 128) := by rw [vb, if_neg h]

theorem vb_byte : ∀ (v : Nat), ∀ x ∈ vb v, x < 256 := by
  intro v
  induction v using Nat.strongRecOn with
  | _ v ih =>
    intro x hx
    by_cases h : v < 128
    · rw [vb_lt h] at hx; simp at hx; omega
    · rw [vb_ge h] at hx
      rcases List.mem_cons.1 hx with rfl | hx
      · omega
      · exact ih (v / 128) (by omega) x hx

theorem vb_len : ∀ (n v : Nat), v < 2 * 128 ^ n → (vb v).length ≤ n + 1 := by
  intro n
  induction n with
  | zero => intro v h; rw [vb_lt (by omega)]; simp
  | succ n ih =>
    intro v h
    by_cases hv : v < 128
    · rw [vb_lt hv]; simp
    · rw [vb_ge hv, List.length_cons]
      have := ih (v / 128) (by rw [Nat.div_lt_iff_lt_mul (by decide)]; rw [Nat.pow_succ] at h; omega)
      omega

/-- What bytes begin with a number: the number, what stands behind it, 0; else 0, nothing, why not. -/
def getL : Nat → Nat → List Nat → Nat × List Nat × Int
  | _, _, [] => (0, [], 6)
  | i, acc, b :: r => if i = 9 then (if b = 1 then (acc + 128 ^ 9, r, 0) else (0, [], 7)) else if 128 ≤ b then getL (i + 1) (acc + (b % 128) * 128 ^ i) r else if 0 < i ∧ b = 0 then (0, [], 7) else (acc + b * 128 ^ i, r, 0)

theorem getL_vb : ∀ (v i acc : Nat) (t : List Nat), i ≤ 9 → v < 2 * 128 ^ (9 - i) → (0 < i → v ≠ 0) → getL i acc (vb v ++ t) = (acc + v * 128 ^ i, t, 0) := by
  intro v
  induction v using Nat.strongRecOn with
  | _ v ih =>
    intro i acc t hi hv h0
    by_cases h : v < 128
    · rw [vb_lt h]
      simp only [List.cons_append, List.nil_append, getL]
      by_cases h9 : i = 9
      · subst h9
        have : v = 1 := by have := h0 (by omega); simp at hv; omega
        subst this; simp
      · rw [if_neg h9, if_neg (by omega), if_neg (by intro ⟨a, b⟩; exact h0 a b)]
    · rw [vb_ge h]
      simp only [List.cons_append, getL]
      have h9 : i ≠ 9 := by rintro rfl; simp at hv; omega
      rw [if_neg h9, if_pos (by omega), ih (v / 128) (by omega) (i + 1) _ t (by omega) ?_ (by omega)]
      · have e : acc + (v % 128 + 128) % 128 * 128 ^ i + v / 128 * 128 ^ (i + 1) = acc + v * 128 ^ i := by
          have e1 : (v % 128 + 128) % 128 = v % 128 := by omega
          have e2 : 128 ^ (i + 1) = 128 * 128 ^ i := by rw [Nat.pow_succ, Nat.mul_comm]
          rw [e1, e2, ← Nat.mul_assoc, Nat.add_assoc, ← Nat.add_mul]
          congr 2; omega
        rw [e]
      · rw [Nat.div_lt_iff_lt_mul (by decide)]
        have e : 9 - i = (9 - (i + 1)) + 1 := by omega
        rw [e, Nat.pow_succ] at hv; omega

/-- What is got is put as it stood. -/
theorem getL_back : ∀ (l : List Nat) (i acc x : Nat) (r : List Nat), (∀ b ∈ l, b < 256) → i ≤ 9 → getL i acc l = (x, r, 0) → ∃ v, x = acc + v * 128 ^ i ∧ l = vb v ++ r ∧ (0 < i → v ≠ 0) ∧ v < 2 * 128 ^ (9 - i) := by
  intro l
  induction l with
  | nil => intro i acc x r _ _ h; simp [getL] at h
  | cons b l ih =>
    intro i acc x r hb hi h
    have hb0 := hb b (by simp)
    simp only [getL] at h
    by_cases h9 : i = 9
    · rw [if_pos h9] at h
      by_cases h1 : b = 1
      · rw [if_pos h1] at h
        simp only [Prod.mk.injEq, and_true] at h
        obtain ⟨rfl, rfl⟩ := h
        subst h9; subst h1
        exact ⟨1, by simp, by rw [vb_lt (by decide)]; rfl, by simp, by simp⟩
      · rw [if_neg h1] at h; simp at h
    · rw [if_neg h9] at h
      by_cases h2 : 128 ≤ b
      · rw [if_pos h2] at h
        obtain ⟨v, rfl, rfl, hv0, hv⟩ := ih (i + 1) _ x r (fun c hc => hb c (by simp [hc])) (by omega) h
        have hv1 : v ≠ 0 := hv0 (by omega)
        refine ⟨v * 128 + b % 128, ?_, ?_, by omega, ?_⟩
        · have e2 : 128 ^ (i + 1) = 128 * 128 ^ i := by rw [Nat.pow_succ, Nat.mul_comm]
          rw [e2, ← Nat.mul_assoc, Nat.add_assoc, ← Nat.add_mul]; congr 2; omega
        · have e : vb (v * 128 + b % 128) = b :: vb v := by
            rw [vb_ge (v := v * 128 + b % 128) (by omega), show (v * 128 + b % 128) / 128 = v by omega, show (v * 128 + b % 128) % 128 + 128 = b by omega]
          rw [e]; rfl
        · have e : 9 - i = (9 - (i + 1)) + 1 := by omega
          rw [e, Nat.pow_succ]; omega
      · rw [if_neg h2] at h
        by_cases h3 : 0 < i ∧ b = 0
        · rw [if_pos h3] at h; simp at h
        · rw [if_neg h3] at h
          simp only [Prod.mk.injEq, and_true] at h
          obtain ⟨rfl, rfl⟩ := h
          refine ⟨b, rfl, by rw [vb_lt (by omega)]; rfl, fun hi0 hb1 => h3 ⟨hi0, hb1⟩, ?_⟩
          have e : 9 - i = (9 - (i + 1)) + 1 := by omega
          have : 0 < 128 ^ (9 - (i + 1)) := Nat.pow_pos (by decide)
          rw [e, Nat.pow_succ]; omega

/-- The number of the digits, least first. -/
def val : List Nat → Nat
  | [] => 0
  | b :: l => b % 128 + 128 * val l

theorem val_vb : ∀ v, val (vb v) = v := by
  intro v
  induction v using Nat.strongRecOn with
  | _ v ih =>
    by_cases h : v < 128
    · rw [vb_lt h]; simp [val]; omega
    · rw [vb_ge h, val, ih (v / 128) (by omega)]; omega

theorem vb_inj {v w : Nat} (h : vb v = vb w) : v = w := by rw [← val_vb v, ← val_vb w, h]

theorem val_append : ∀ l m, val (l ++ m) = val l + 128 ^ l.length * val m := by
  intro l m
  induction l with
  | nil => simp [val]
  | cons b l ih => simp only [List.cons_append, val, ih, List.length_cons, Nat.pow_succ]; rw [Nat.mul_add, Nat.mul_comm (128 ^ l.length) 128, Nat.mul_assoc]; omega

theorem val_lt : ∀ l, val l < 128 ^ l.length := by
  intro l
  induction l with
  | nil => simp [val]
  | cons b l ih => simp only [val, List.length_cons, Nat.pow_succ]; omega

/-- Bytes that are a number's: all but the last one bear 128; the last one is not 0, but alone. -/
theorem vb_of_form : ∀ (l : List Nat) (b : Nat), (∀ x ∈ l, 128 ≤ x ∧ x < 256) → b < 128 → (l ≠ [] → b ≠ 0) → vb (val (l ++ [b])) = l ++ [b] := by
  intro l
  induction l with
  | nil => intro b _ hb _; simp [val, Nat.mod_eq_of_lt hb, vb_lt hb]
  | cons c l ih =>
    intro b hl hb h0
    have hc := hl c (by simp)
    have ih' := ih b (fun x hx => hl x (by simp [hx])) hb (fun _ => h0 (by simp))
    have hpos : 0 < val (l ++ [b]) := by
      rcases Nat.eq_zero_or_pos (val (l ++ [b])) with h | h
      · rw [h, vb_lt (by decide)] at ih'
        cases l with
        | nil => simp at ih'; exact absurd ih'.symm (h0 (by simp))
        | cons d l => simp at ih'
      · exact h
    simp only [List.cons_append, val]
    rw [vb_ge (by omega), show (c % 128 + 128 * val (l ++ [b])) / 128 = val (l ++ [b]) by omega, ih', show (c % 128 + 128 * val (l ++ [b])) % 128 + 128 = c by omega]

theorem vb_form : ∀ v, ∃ l b, vb v = l ++ [b] ∧ (∀ x ∈ l, 128 ≤ x) ∧ b < 128 ∧ (l ≠ [] → b ≠ 0) := by
  intro v
  induction v using Nat.strongRecOn with
  | _ v ih =>
    by_cases h : v < 128
    · exact ⟨[], v, by rw [vb_lt h]; rfl, by simp, h, by simp⟩
    · obtain ⟨l, b, e, hl, hb, h0⟩ := ih (v / 128) (by omega)
      refine ⟨(v % 128 + 128) :: l, b, by rw [vb_ge h, e]; rfl, ?_, hb, fun _ => ?_⟩
      · intro x hx
        rcases List.mem_cons.1 hx with rfl | hx
        · omega
        · exact hl x hx
      · cases l with
        | nil =>
          intro hb0; subst hb0
          have := val_vb (v / 128)
          rw [e] at this; simp [val] at this; omega
        | cons d l => exact h0 (by simp)

/-- getL, by how many bytes bear 128 at the beginning. -/
theorem getL_run : ∀ (p : List Nat) (i acc : Nat) (r : List Nat), (∀ x ∈ p, 128 ≤ x) → i + p.length ≤ 9 → getL i acc (p ++ r) = getL (i + p.length) (acc + 128 ^ i * val p) r := by
  intro p
  induction p with
  | nil => intro i acc r _ _; simp [val]
  | cons b p ih =>
    intro i acc r hp hi
    simp only [List.length_cons] at hi
    simp only [List.cons_append, getL, List.length_cons]
    rw [if_neg (by omega), if_pos (hp b (by simp)), ih (i + 1) _ r (fun x hx => hp x (by simp [hx])) (by omega)]
    rw [show i + 1 + p.length = i + (p.length + 1) by omega]
    congr 1
    simp only [val]
    rw [Nat.pow_succ, Nat.mul_add, Nat.mul_comm (b % 128), Nat.mul_assoc]; omega

/-- No number's bytes begin with another one's. -/
theorem vb_prefix {v w : Nat} (hv : v < 2 * 128 ^ 9) (hw : w < 2 * 128 ^ 9) {t : List Nat} (h : vb w = vb v ++ t) : v = w := by
  have h1 := getL_vb v 0 0 t (by decide) hv (by omega)
  have h2 := getL_vb w 0 0 [] (by decide) hw (by omega)
  rw [List.append_nil, h, h1] at h2
  simp at h2; exact h2.1

end Go.Proofs.Ytghbcdpnngheoab.OctetPlain
