
/- One guard alone. -/
import Derived.Test.YtabcodjalacdjabGuardLaw
namespace Go.Proofs.Ytabcodjalacdjab.GuardCode
open Go Go.RowKit Go.Proofs.Ytabcodjalacdjab.Obj Go.Proofs.Ytabcodjalacdjab.Row Go.Proofs.Ytabcodjalacdjab.CellCode Go.Proofs.Ytabcodjalacdjab.TicketCode Go.Proofs.YtabcodjalacdjabW.PrintWords Go.Proofs.YtabcodjalacdjabW.PrintMore
set_option linter.unusedVariables false
set_option maxRecDepth 100000
section
variable {w w' : World} {g x c lb : Nat} {s : Gs} {L : List Nat} {N : Nat} {A : Option Addr} {r D G : List Int}
theorem lastOf_succ (r : List Int) (i : Nat) : lastOf r (i + 1) = r.getD i 0 := by simp [lastOf]
theorem Rise.lt (h : Rise r) {i j : Nat} (hij : i < j) (hj : j < r.length) : r.getD i 0 < r.getD j 0 := by
  induction j with
  | zero => omega
  | succ m ih =>
    have h1 := (h (m + 1) hj).1
    rw [lastOf_succ] at h1
    rcases Nat.lt_or_ge i m with h2 | h2
    · have := ih h2 (by omega); omega
    · obtain rfl : i = m := by omega
      exact h1
theorem Rise.pos (h : Rise r) {i : Nat} (hi : i < r.length) : 0 ≤ r.getD i 0 ∧ r.getD i 0 < 6 := by
  refine ⟨?_, (h i hi).2⟩
  have h0 := (h 0 (by omega)).1
  rw [show lastOf r 0 = -1 from rfl] at h0
  rcases Nat.eq_zero_or_pos i with rfl | hp
  · omega
  · have := h.lt hp hi; omega
theorem Rise.all (h : Rise r) : ∀ y ∈ r, 0 ≤ y ∧ y < 6 := by
  intro y hy
  obtain ⟨i, hi, rfl⟩ := List.mem_iff_getElem.mp hy
  have := h.pos hi
  rw [List.getD_eq_getElem?_getD, List.getElem?_eq_getElem hi] at this
  exact this
theorem getD_take_mem {a : Nat} {y : Int} (hy : y ∈ r.take a) : ∃ i, i < a ∧ i < r.length ∧ r.getD i 0 = y := by
  obtain ⟨i, hi, rfl⟩ := List.mem_iff_getElem.mp hy
  rw [List.length_take] at hi
  refine ⟨i, by omega, by omega, ?_⟩
  rw [List.getD_eq_getElem?_getD, List.getElem?_eq_getElem (by omega), List.getElem_take]; rfl
theorem getD_drop_mem {a : Nat} {y : Int} (hy : y ∈ r.drop a) : ∃ i, a ≤ i ∧ i < r.length ∧ r.getD i 0 = y := by
  obtain ⟨i, hi, rfl⟩ := List.mem_iff_getElem.mp hy
  rw [List.length_drop] at hi
  refine ⟨a + i, by omega, by omega, ?_⟩
  rw [List.getD_eq_getElem?_getD, List.getElem?_eq_getElem (by omega), List.getElem_drop]; rfl
theorem Rise.not_take (h : Rise r) {a : Nat} (ha : a < r.length) : r.getD a 0 ∉ r.take a := by
  intro hm
  obtain ⟨i, h1, h2, h3⟩ := getD_take_mem hm
  have := h.lt h1 ha
  omega
theorem Rise.not_drop (h : Rise r) {a : Nat} (ha : a < r.length) : r.getD a 0 ∉ r.drop (a + 1) := by
  intro hm
  obtain ⟨i, h1, h2, h3⟩ := getD_drop_mem hm
  have := h.lt (i := a) (j := i) (by omega) h2
  omega
theorem take_more {a : Nat} (ha : a < r.length) : r.take (a + 1) = r.take a ++ [r.getD a 0] := by
  rw [List.take_add_one, List.getD_eq_getElem?_getD, List.getElem?_eq_getElem ha]; rfl
theorem drop_more {a : Nat} (ha : a < r.length) : r.drop a = r.getD a 0 :: r.drop (a + 1) := by
  rw [List.drop_eq_getElem_cons ha, List.getD_eq_getElem?_getD, List.getElem?_eq_getElem ha]; rfl
/-- Which locks were drawn, and which were given back, once each. -/
def PL (L : List Nat) (D G : List Int) : Prop := L.length = 20 ∧ ∀ k : Nat, k < 6 → L.getD (4 + 2 * k) 0 = (if (k : Int) ∈ D then 1 else 0) ∧ L.getD (5 + 2 * k) 0 = (if (k : Int) ∈ G then 1 else 0)
theorem addL_getD (L : List Nat) (i j : Nat) (hi : i < L.length) : (addL L i).getD j 0 = if i = j then L.getD i 0 + 1 else L.getD j 0 := by
  unfold addL
  simp only [List.getD_eq_getElem?_getD, List.getElem?_set]
  split
  · subst_vars; simp [hi]
  · rfl
theorem addL_len (L : List Nat) (i : Nat) : (addL L i).length = L.length := List.length_set
theorem PL.draw (h : PL L D G) {k : Nat} (hk : k < 6) (hd : (k : Int) ∉ D) : PL (addL L (4 + 2 * k)) (D ++ [(k : Int)]) G := by
  obtain ⟨h0, h1⟩ := h
  refine ⟨by rw [addL_len]; exact h0, fun j hj => ?_⟩
  rw [addL_getD _ _ _ (by omega), addL_getD _ _ _ (by omega)]
  obtain ⟨h2, h3⟩ := h1 j hj
  obtain ⟨h4, h5⟩ := h1 k hk
  rw [if_neg (show ¬ 4 + 2 * k = 5 + 2 * j by omega)]
  refine ⟨?_, h3⟩
  rw [if_neg hd] at h4
  by_cases e : k = j
  · subst e
    rw [if_pos rfl, h4, if_pos (by simp)]
  · rw [if_neg (by omega), h2]
    have : ((j : Int) ∈ D ++ [(k : Int)]) ↔ (j : Int) ∈ D := by simp; omega
    simp only [this]
theorem PL.give (h : PL L D G) {k : Nat} (hk : k < 6) (hd : (k : Int) ∉ G) : PL (addL L (5 + 2 * k)) D ((k : Int) :: G) := by
  obtain ⟨h0, h1⟩ := h
  refine ⟨by rw [addL_len]; exact h0, fun j hj => ?_⟩
  rw [addL_getD _ _ _ (by omega), addL_getD _ _ _ (by omega)]
  obtain ⟨h2, h3⟩ := h1 j hj
  obtain ⟨h4, h5⟩ := h1 k hk
  rw [if_neg (show ¬ 5 + 2 * k = 4 + 2 * j by omega)]
  refine ⟨h2, ?_⟩
  rw [if_neg hd] at h5
  by_cases e : k = j
  · subst e
    rw [if_pos rfl, h5, if_pos (by simp)]
  · rw [if_neg (by omega), h3]
    have : ((j : Int) ∈ (k : Int) :: G) ↔ (j : Int) ∈ G := by simp; omega
    simp only [this]
theorem PL.zero : PL (List.replicate 20 0) [] [] := ⟨by simp, fun k hk => by
  have h0 : ∀ i, (List.replicate 20 0 : List Nat).getD i 0 = 0 := by intro i; rw [List.getD_eq_getElem?_getD, List.getElem?_replicate]; split <;> rfl
  rw [h0, h0]
  exact ⟨(if_neg (by simp)).symm, (if_neg (by simp)).symm⟩⟩
theorem sm0 : Sm (List.replicate 20 0) 0 := ⟨by decide, fun y hy => by rw [List.eq_of_mem_replicate hy]; exact Nat.le_refl _⟩
theorem sm_up (h : Sm L N) (hN : N + 1 < 1000000000) : Sm L (N + 1) := ⟨hN, fun y hy => Nat.le_succ_of_le (h.2 y hy)⟩
/-- The lock that comes next, as a number. -/
theorem lock_val (hr : Rise r) {a : Nat} (ha : a < r.length) : ∃ k : Nat, k < 6 ∧ (r.getD a 0).toNat = k ∧ r.getD a 0 = (k : Int) := by
  have := hr.pos ha
  exact ⟨(r.getD a 0).toNat, by omega, rfl, by omega⟩
/-- A guard alone, i steps on. -/
def Al (w : World) (g x c lb : Nat) (r : List Int) (i : Nat) : Prop := ∃ L, Both w g x c lb ⟨r, i / 2, 0, i % 2 == 1⟩ L i ∧ Sm L i ∧ PL L (r.take ((i + 1) / 2)) []
theorem alone_step {i : Nat} (h : Al w g x c lb r i) (hr : Rise r) (hi : i < 2 * r.length) (hN : i < 100000) : Calls Try.prog 13 #[.pointer (some ⟨g, 0, none⟩)] w fun e w' => e = .returned (.tuple #[.bool (decide (i + 1 = 2 * r.length)), .int .i64 0]) ∧ Al w' g x c lb r (i + 1) ∧ Only (GS g c lb) w w' := by
  obtain ⟨L, hB, hs, hP⟩ := h
  obtain ⟨a, ha⟩ : ∃ a, a = i / 2 := ⟨_, rfl⟩
  have hal : a < r.length := by omega
  obtain ⟨k, hk, hkn, hkk⟩ := lock_val hr hal
  rcases Nat.mod_two_eq_zero_or_one i with he | he
  · have e1 : (i % 2 == 1) = false := by rw [he]; rfl
    rw [e1, ← ha] at hB
    rw [show (i + 1) / 2 = a by omega] at hP
    have hlk : Gs.lock ⟨r, a, 0, false⟩ = k := hkn
    refine (step_draw hB hs hal rfl hr.all).mono ?_
    rintro e w' ⟨rfl, h2, h3⟩
    rw [hlk] at h2
    have hnd : (k : Int) ∉ r.take a := by rw [← hkk]; exact hr.not_take hal
    have h4 : L.getD (4 + 2 * k) 0 = 0 := by rw [(hP.2 k hk).1, if_neg hnd]
    rw [h4] at h2
    refine ⟨by rw [decide_eq_false (by omega)], ⟨addL L (4 + 2 * k), ?_, hs.add (by rw [hP.1]; omega) (by omega), ?_⟩, h3⟩
    · rw [show (i + 1) / 2 = a by omega, show ((i + 1) % 2 == 1) = true by rw [show (i + 1) % 2 = 1 by omega]; rfl]
      exact h2
    · rw [show (i + 1 + 1) / 2 = a + 1 by omega, take_more hal, hkk]
      exact hP.draw hk hnd
  · have e1 : (i % 2 == 1) = true := by rw [he]; rfl
    rw [e1, ← ha] at hB
    have hlk : Gs.lock ⟨r, a, 0, true⟩ = k := hkn
    have h4 : L.getD (5 + 2 * k) 0 = 0 := by rw [(hP.2 k hk).2, if_neg (by simp)]
    refine (step_yes hB hs hal rfl hr.all (by rw [hlk, h4]; rfl)).mono ?_
    rintro e w' ⟨rfl, h2, h3⟩
    refine ⟨?_, ⟨L, ?_, sm_up hs (by omega), ?_⟩, h3⟩
    · have e2 : decide (a + 1 = r.length) = decide (i + 1 = 2 * r.length) := by rw [decide_eq_decide]; omega
      show Ending.returned (.tuple #[.bool (decide (a + 1 = r.length)), .int .i64 0]) = _
      rw [e2]
    · rw [show (i + 1) / 2 = a + 1 by omega, show ((i + 1) % 2 == 1) = false by rw [show (i + 1) % 2 = 0 by omega]; rfl]
      exact h2
    · rw [show (i + 1 + 1) / 2 = (i + 1) / 2 by omega]
      exact hP
/-- A guard alone that gives back: it has j still. -/
def Bl (w : World) (g x c lb : Nat) (r : List Int) (j N : Nat) : Prop := ∃ L, Both w g x c lb ⟨r.take j, j, 0, false⟩ L N ∧ Sm L N ∧ PL L r (r.drop j)
theorem Al.done {i : Nat} (h : Al w g x c lb r i) (hi : i = 2 * r.length) : Bl w g x c lb r r.length i := by
  obtain ⟨L, h1, h2, h3⟩ := h
  subst hi
  rw [show 2 * r.length / 2 = r.length by omega, show (2 * r.length % 2 == 1) = false by rw [show 2 * r.length % 2 = 0 by omega]; rfl] at h1
  rw [show (2 * r.length + 1) / 2 = r.length by omega, List.take_length] at h3
  refine ⟨L, ?_, h2, ?_⟩
  · rw [List.take_length]; exact h1
  · rw [List.drop_length]; exact h3
theorem alone_give {j : Nat} (h : Bl w g x c lb r (j + 1) N) (hr : Rise r) (hj : j < r.length) (hN : N < 100000) : Calls Try.prog 12 #[.pointer (some ⟨g, 0, none⟩)] w fun e w' => e = .returned (.tuple #[.int .i64 (j : Int), .int .i64 0]) ∧ Bl w' g x c lb r j (N + 1) ∧ Only (GS g c lb) w w' := by
  obtain ⟨L, hB, hs, hP⟩ := h
  obtain ⟨k, hk, hkn, hkk⟩ := lock_val hr hj
  have hgt : (r.take (j + 1)).getD j 0 = r.getD j 0 := by
    rw [List.getD_eq_getElem?_getD, List.getD_eq_getElem?_getD, List.getElem?_take, if_pos (by omega)]
  have hlk : Gs.last ⟨r.take (j + 1), j + 1, 0, false⟩ = k := by
    unfold Gs.last
    show ((r.take (j + 1)).getD (j + 1 - 1) 0).toNat = k
    rw [show j + 1 - 1 = j by omega, hgt]; exact hkn
  refine (give_yes hB hs (by show j + 1 ≠ 0; omega) rfl (fun y hy => hr.all y (List.mem_of_mem_take hy))).mono ?_
  rintro e w' ⟨rfl, h2, h3⟩
  rw [hlk] at h2
  have hng : (k : Int) ∉ r.drop (j + 1) := by rw [← hkk]; exact hr.not_drop hj
  refine ⟨by show _ = _; rw [show j + 1 - 1 = j by omega], ⟨addL L (5 + 2 * k), ?_, hs.add (by rw [hP.1]; omega) (by omega), ?_⟩, h3⟩
  · have e1 : (r.take (j + 1)).take (j + 1 - 1) = r.take j := by rw [List.take_take]; congr 1; omega
    have h2' : Both w' g x c lb ⟨(r.take (j + 1)).take (j + 1 - 1), j + 1 - 1, 0, false⟩ (addL L (5 + 2 * k)) (N + 1) := h2
    rw [e1, show j + 1 - 1 = j by omega] at h2'
    exact h2'
  · rw [drop_more hj, hkk]
    exact hP.give hk hng
theorem bl_free {j m : Nat} (h : Bl w g x c lb r m N) (hr : Rise r) (hj : j < r.length) : Calls Try.prog 24 #[.pointer (some ⟨x, 0, none⟩), .int .i64 (r.getD j 0)] w fun e w' => e = .returned (.bool (decide (m ≤ j))) ∧ Below w.heap.size w w' := by
  obtain ⟨L, hB, hs, hP⟩ := h
  obtain ⟨k, hk, hkn, hkk⟩ := lock_val hr hj
  rw [hkk]
  refine (free_at hB.t hs k hk).mono ?_
  rintro e w' ⟨rfl, hb⟩
  refine ⟨?_, hb⟩
  have hmem : (k : Int) ∈ r := by
    rw [← hkk, List.getD_eq_getElem?_getD, List.getElem?_eq_getElem hj]; exact List.getElem_mem hj
  rw [(hP.2 k hk).1, (hP.2 k hk).2, if_pos hmem]
  by_cases hm : m ≤ j
  · rw [if_pos, decide_eq_true hm]
    · rfl
    · rw [← hkk]
      refine List.mem_iff_getElem.mpr ⟨j - m, by rw [List.length_drop]; omega, ?_⟩
      rw [List.getElem_drop, List.getD_eq_getElem?_getD, List.getElem?_eq_getElem hj]
      congr 1; omega
  · rw [if_neg, decide_eq_false hm]
    · rfl
    · intro hmm
      obtain ⟨i, h1, h2, h3⟩ := getD_drop_mem hmm
      have := hr.lt (i := j) (j := i) (by omega) h2
      omega
theorem Bl.below {j : Nat} (h : Bl w g x c lb r j N) (hb : Below w.heap.size w w') : Bl w' g x c lb r j N := by
  obtain ⟨L, h1, h2, h3⟩ := h
  exact ⟨L, ⟨h1.g.below hb, h1.t.below hb⟩, h2, h3⟩
theorem Al.below {i : Nat} (h : Al w g x c lb r i) (hb : Below w.heap.size w w') : Al w' g x c lb r i := by
  obtain ⟨L, h1, h2, h3⟩ := h
  exact ⟨L, ⟨h1.g.below hb, h1.t.below hb⟩, h2, h3⟩
end
end Go.Proofs.Ytabcodjalacdjab.GuardCode
