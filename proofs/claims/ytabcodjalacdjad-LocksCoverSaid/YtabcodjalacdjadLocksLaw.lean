
/- The plain law of LocksCover: each case is one of just one channel's. -/
import Derived.Test.YtabcodjalacdjadLocksMore
namespace Go.Proofs.Ytabcodjalacdjad.LocksCode
open Go Go.RowKit Go.Proofs.Ytabcodjalacdjad.Obj Go.Proofs.YtabcodjalacdjadW.PrintWords Go.Proofs.YtabcodjalacdjadW.PrintMore
set_option linter.unusedVariables false
section
variable {cs : List Cs} {n : Nat} {Ds L : List Int} {ch : Int}
def chN (cs : List Cs) (k : Nat) : Int := (cs.getD k default).ch
def covN (cs : List Cs) (n : Nat) (ch : Int) : List Nat := (List.range n).filter fun k => chN cs k == ch
theorem coverL_eq : coverL ch (kcs cs n) = (covN cs n ch).map fun k : Nat => (k : Int) := by
  induction n with
  | zero => rfl
  | succ n ih =>
    rw [kcs_succ]
    have e : covN cs (n + 1) ch = covN cs n ch ++ (if (chN cs n == ch) = true then [n] else []) := by
      unfold covN
      rw [List.range_succ, List.filter_append]
      congr 1
      simp [List.filter_cons]
    rw [e]
    cases hq : (chN cs n == ch) with
    | true => rw [if_pos rfl, coverL_yes (x := kc cs n) _ hq, ih, List.map_append]; rfl
    | false => rw [if_neg (by decide), coverL_no (x := kc cs n) _ hq, ih, List.append_nil]
theorem covN_mem {k : Nat} : k ∈ covN cs n ch ↔ k < n ∧ chN cs k = ch := by
  unfold covN
  rw [List.mem_filter, List.mem_range, beq_iff_eq]
theorem covN_rise : (covN cs n ch).Pairwise (· < ·) := List.pairwise_lt_range.filter _
theorem covN_get {j : Nat} (hj : j < (covN cs n ch).length) : (covN cs n ch).getD j 0 < n ∧ chN cs ((covN cs n ch).getD j 0) = ch := by
  rw [List.getD_eq_getElem?_getD, List.getElem?_eq_getElem hj]
  exact covN_mem.1 (List.getElem_mem hj)
theorem rise_get {l : List Nat} (h : l.Pairwise (· < ·)) {i j : Nat} (hij : i < j) (hj : j < l.length) : l.getD i 0 < l.getD j 0 := by
  rw [List.getD_eq_getElem?_getD, List.getD_eq_getElem?_getD, List.getElem?_eq_getElem hj, List.getElem?_eq_getElem (by omega)]
  exact List.pairwise_iff_getElem.mp h i j (by omega) hj hij
theorem rise_getI {l : List Int} (h : l.Pairwise (· < ·)) {i j : Nat} (hij : i < j) (hj : j < l.length) : l.getD i 0 < l.getD j 0 := by
  rw [List.getD_eq_getElem?_getD, List.getD_eq_getElem?_getD, List.getElem?_eq_getElem hj, List.getElem?_eq_getElem (by omega)]
  exact List.pairwise_iff_getElem.mp h i j (by omega) hj hij
def seenOf (cs : List Cs) (n : Nat) (Ds : List Int) (ks : List Nat) : List Bool := (List.range n).map fun k => decide (chN cs k ∈ Ds ∨ k ∈ ks)
theorem seenOf_len (ks : List Nat) : (seenOf cs n Ds ks).length = n := by simp [seenOf]
theorem seenOf_get {ks : List Nat} {k : Nat} (hk : k < n) : (seenOf cs n Ds ks).getD k false = decide (chN cs k ∈ Ds ∨ k ∈ ks) := by
  rw [seenOf, List.getD_eq_getElem?_getD, List.getElem?_map, List.getElem?_range hk]; rfl
theorem seenOf_set {ks : List Nat} {k : Nat} (hk : k < n) : (seenOf cs n Ds ks).set k true = seenOf cs n Ds (ks ++ [k]) := by
  apply List.ext_getElem?
  intro j
  rw [List.getElem?_set]
  by_cases e : k = j
  · subst e
    rw [if_pos rfl, if_pos (by rw [seenOf_len]; exact hk), seenOf, List.getElem?_map, List.getElem?_range hk]
    simp
  · rw [if_neg e]
    rcases Nat.lt_or_ge j n with h6 | h6
    · rw [seenOf, seenOf, List.getElem?_map, List.getElem?_map, List.getElem?_range h6]
      simp only [Option.map_some, Option.some.injEq, decide_eq_decide, List.mem_append, List.mem_singleton]
      constructor
      · rintro (h | h)
        · exact .inl h
        · exact .inr (.inl h)
      · rintro (h | h | h)
        · exact .inl h
        · exact .inr h
        · exact absurd h.symm e
    · rw [List.getElem?_eq_none (by rw [seenOf_len]; exact h6), List.getElem?_eq_none (by rw [seenOf_len]; exact h6)]
theorem seenOf_full : seenOf cs n Ds (covN cs n ch) = seenOf cs n (Ds ++ [ch]) [] := by
  unfold seenOf
  apply List.map_congr_left
  intro k hk
  rw [List.mem_range] at hk
  rw [decide_eq_decide, covN_mem, List.mem_append, List.mem_singleton]
  constructor
  · rintro (h | h)
    · exact .inl (.inl h)
    · exact .inl (.inr h.2)
  · rintro ((h | h) | h)
    · exact .inl h
    · exact .inr ⟨hk, h⟩
    · cases h
theorem seenOf_none : seenOf cs n [] [] = List.replicate n false := by
  apply List.ext_getElem?
  intro j
  rcases Nat.lt_or_ge j n with h6 | h6
  · rw [seenOf, List.getElem?_map, List.getElem?_range h6, List.getElem?_replicate, if_pos h6]; simp
  · rw [List.getElem?_eq_none (by rw [seenOf_len]; exact h6), List.getElem?_eq_none (by simp; exact h6)]
def cnt (cs : List Cs) (n : Nat) (Ds : List Int) : Nat := (List.range n).countP fun k => decide (chN cs k ∈ Ds)
theorem countP_or {α : Type} (l : List α) (p q r : α → Bool) (h : ∀ x, p x = (q x || r x)) (hd : ∀ x, q x = true → r x = false) : l.countP p = l.countP q + l.countP r := by
  induction l with
  | nil => rfl
  | cons x l ih =>
    rw [List.countP_cons, List.countP_cons, List.countP_cons, ih, h x]
    cases hq : q x with
    | true => rw [hd x hq]; simp; omega
    | false => cases hr : r x <;> simp <;> omega
theorem cnt_more (hn : ch ∉ Ds) : cnt cs n (Ds ++ [ch]) = cnt cs n Ds + (covN cs n ch).length := by
  unfold cnt covN
  rw [← List.countP_eq_length_filter]
  refine countP_or _ _ _ _ (fun x => ?_) (fun x hx => ?_)
  · rw [Bool.eq_iff_iff, Bool.or_eq_true, decide_eq_true_iff, decide_eq_true_iff, beq_iff_eq, List.mem_append, List.mem_singleton]
  · rw [decide_eq_true_iff] at hx
    rw [beq_eq_false_iff_ne]
    rintro rfl
    exact hn hx
theorem cnt_all (h : ∀ k, k < n → chN cs k ∈ Ds) : cnt cs n Ds = n := by
  unfold cnt
  have : (List.range n).countP (fun k => decide (chN cs k ∈ Ds)) = (List.range n).length := List.countP_eq_length.2 fun k hk => by rw [decide_eq_true_iff]; exact h k (List.mem_range.1 hk)
  rw [this, List.length_range]
theorem cnt_le : cnt cs n Ds ≤ n := by
  unfold cnt
  exact Nat.le_trans List.countP_le_length (by rw [List.length_range]; exact Nat.le_refl _)
theorem chL_mem {k : Int} : k ∈ chL (kcs cs n) ↔ k ≠ -1 ∧ ∃ i, i < n ∧ chN cs i = k := by
  unfold chL kcs
  simp only [List.mem_map, List.mem_filter, List.mem_range, bne_iff_ne]
  constructor
  · rintro ⟨x, ⟨⟨i, hi, rfl⟩, h2⟩, rfl⟩
    exact ⟨h2, i, hi, rfl⟩
  · rintro ⟨h1, i, hi, rfl⟩
    exact ⟨_, ⟨⟨i, hi, rfl⟩, h1⟩, rfl⟩
/-- The channels, the cases of none ahead. -/
def chs (L : List Int) : List Int := -1 :: L
structure Ord (cs : List Cs) (L : List Int) : Prop where
  rise : L.Pairwise (· < ·)
  pos : ∀ j, j < L.length → 0 ≤ L.getD j 0
  some : ∀ j, j < L.length → covN cs cs.length (L.getD j 0) ≠ []
  all : ∀ k, k < cs.length → chN cs k ∈ chs L
theorem ord_of (h : IsOrd cs L) (hm : MayB cs) : Ord cs L := by
  have hmem : ∀ j, j < L.length → L.getD j 0 ∈ L := fun j hj => by rw [List.getD_eq_getElem?_getD, List.getElem?_eq_getElem hj]; exact List.getElem_mem hj
  refine ⟨h.rise, fun j hj => ?_, fun j hj => ?_, fun k hk => ?_⟩
  · obtain ⟨h1, i, hi, h2⟩ := chL_mem.1 ((h.mem _).1 (hmem j hj))
    have := (hm.1 i hi).1
    unfold chN at h2
    omega
  · obtain ⟨h1, i, hi, h2⟩ := chL_mem.1 ((h.mem _).1 (hmem j hj))
    have : i ∈ covN cs cs.length (L.getD j 0) := covN_mem.2 ⟨hi, h2⟩
    intro e
    rw [e] at this
    cases this
  · by_cases e : chN cs k = -1
    · rw [e]; exact List.mem_cons_self
    · exact List.mem_cons_of_mem _ ((h.mem _).2 (chL_mem.2 ⟨e, k, hk, rfl⟩))
theorem Ord.notin (h : Ord cs L) {j : Nat} (hj : j < (chs L).length) : (chs L).getD j 0 ∉ (chs L).take j := by
  have hp : (chs L).Pairwise (· < ·) := by
    unfold chs
    rw [List.pairwise_cons]
    refine ⟨fun a ha => ?_, h.rise⟩
    obtain ⟨i, hi, rfl⟩ := List.mem_iff_getElem.mp ha
    have := h.pos i hi
    rw [List.getD_eq_getElem?_getD, List.getElem?_eq_getElem hi] at this
    exact Int.lt_of_lt_of_le (by decide) this
  intro hm
  obtain ⟨i, hi, he⟩ := List.mem_iff_getElem.mp hm
  rw [List.length_take] at hi
  have := rise_getI hp (i := i) (j := j) (by omega) hj
  rw [List.getElem_take] at he
  rw [List.getD_eq_getElem?_getD (i := i), List.getElem?_eq_getElem (by omega)] at this
  simp only [Option.getD_some] at this
  rw [he] at this
  omega
theorem take_chs {j : Nat} (hj : j < (chs L).length) : (chs L).take (j + 1) = (chs L).take j ++ [(chs L).getD j 0] := by
  rw [List.take_add_one, List.getElem?_eq_getElem hj, List.getD_eq_getElem?_getD, List.getElem?_eq_getElem hj]; rfl
end
end Go.Proofs.Ytabcodjalacdjad.LocksCode
