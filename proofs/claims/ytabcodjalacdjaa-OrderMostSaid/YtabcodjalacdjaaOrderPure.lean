
/- Plain facts on order's row. -/
import Derived.Test.YtabcodjalacdjaaOrderPick
import Derived.Test.YtabcodjalacdjaaOrderTook
namespace Go.Proofs.Ytabcodjalacdjaa.OrderCode
set_option linter.unusedVariables false
theorem mem_upTo {m : Nat} {x : Int} : x ∈ upTo m ↔ ∃ j : Nat, j < m ∧ x = (j : Int) := by
  simp only [upTo, List.mem_map, List.mem_range]
  exact ⟨fun ⟨a, h, e⟩ => ⟨a, h, e.symm⟩, fun ⟨a, h, e⟩ => ⟨a, h, e.symm⟩⟩
theorem upTo_nodup (m : Nat) : (upTo m).Nodup := by
  unfold upTo
  have := List.nodup_range (n := m)
  rw [List.Nodup, List.pairwise_map]
  exact this.imp fun h e => h (Int.ofNat.inj e)
theorem split_at {L : List Int} {k : Int} (hk : k ∈ L) : L = L.take (L.idxOf k) ++ k :: L.drop (L.idxOf k + 1) := by
  have h := List.idxOf_lt_length_iff.2 hk
  have e : L[L.idxOf k] = k := by simp
  conv => lhs; rw [← List.take_append_drop (L.idxOf k) L, List.drop_eq_getElem_cons h, e]
theorem tookL_perm {L : List Int} {k : Int} (hk : k ∈ L) : (tookL L k).Perm L := by
  have e := split_at hk
  unfold tookL
  refine (List.perm_append_comm).trans ?_
  refine List.Perm.trans ?_ (List.Perm.of_eq e.symm)
  simp only [List.singleton_append]
  exact (List.perm_middle).symm
/-- A row of the first m numbers, each one once. -/
def Full (m : Nat) (L : List Int) : Prop := L.Perm (upTo m)
theorem Full.len {m : Nat} {L : List Int} (h : Full m L) : L.length = m := by rw [List.Perm.length_eq h, upTo_len]
theorem Full.nodup {m : Nat} {L : List Int} (h : Full m L) : L.Nodup := (List.Perm.nodup_iff h).2 (upTo_nodup m)
theorem Full.mem {m : Nat} {L : List Int} (h : Full m L) {x : Int} : x ∈ L ↔ ∃ j : Nat, j < m ∧ x = (j : Int) := (List.Perm.mem_iff h).trans mem_upTo
theorem Full.took {m : Nat} {L : List Int} (h : Full m L) {k : Int} (hk : k ∈ L) : Full m (tookL L k) := (tookL_perm hk).trans h
theorem Full.start (m : Nat) : Full m (upTo m) := List.Perm.refl _
theorem idx_app {A B : List Int} {x : Int} (h : x ∉ A) : (A ++ B).idxOf x = A.length + B.idxOf x := by
  rw [List.idxOf_append, if_neg h]; omega
/-- Where each one stands behind Took. -/
theorem idx_took {L : List Int} (hn : L.Nodup) {k : Int} (hk : k ∈ L) {c : Int} (hc : c ∈ L) (hck : c ≠ k) :
    (tookL L k).idxOf c = if L.idxOf c < L.idxOf k then L.idxOf c else L.idxOf c - 1 := by
  have e := split_at hk
  have hl := List.idxOf_lt_length_iff.2 hk
  generalize ha : L.take (L.idxOf k) = A at *
  generalize hb : L.drop (L.idxOf k + 1) = B at *
  have hA : A.length = L.idxOf k := by rw [← ha, List.length_take]; omega
  unfold tookL
  rw [ha, hb, ← hA, List.append_assoc]
  by_cases h : c ∈ A
  · have h1 : L.idxOf c = A.idxOf c := by rw [e, List.idxOf_append, if_pos h]
    rw [List.idxOf_append, if_pos h, h1, if_pos (List.idxOf_lt_length_iff.2 h)]
  · have h1 : L.idxOf c = A.length + (B.idxOf c + 1) := by
      rw [e, idx_app h, List.idxOf_cons, beq_eq_false_iff_ne.2 (Ne.symm hck)]; rfl
    have hB : c ∈ B := by
      rw [e] at hc
      rcases List.mem_append.1 hc with h2 | h2
      · exact absurd h2 h
      · exact (List.mem_cons.1 h2).resolve_left hck
    rw [idx_app h, List.idxOf_append, if_pos hB, h1, if_neg (by omega)]
    omega
theorem idx_took_self {L : List Int} (hn : L.Nodup) {k : Int} (hk : k ∈ L) : (tookL L k).idxOf k = L.length - 1 := by
  have e := split_at hk
  have hl := List.idxOf_lt_length_iff.2 hk
  have h : k ∉ L.take (L.idxOf k) ++ L.drop (L.idxOf k + 1) := by
    intro hm
    rw [e] at hn
    have := (List.perm_middle.nodup_iff).1 hn
    exact (List.nodup_cons.1 this).1 hm
  unfold tookL
  rw [idx_app h, List.idxOf_cons_self, List.length_append, List.length_take, List.length_drop]
  omega
/-- The first one that is ready is ahead of all that are. -/
theorem first_le {L : List Int} {s : Nat} {k : Int} {r : List Int} (h : L.filter (rdy s) = k :: r) : k ∈ L ∧ rdy s k = true ∧ ∀ c ∈ L, rdy s c = true → L.idxOf k ≤ L.idxOf c := by
  have h0 : k ∈ L.filter (rdy s) := h ▸ List.mem_cons_self ..
  obtain ⟨hk, hr⟩ := List.mem_filter.1 h0
  refine ⟨hk, hr, ?_⟩
  clear h0 hk hr
  induction L with
  | nil => simp at h
  | cons a l ih =>
    intro c hc hrc
    rw [List.filter_cons] at h
    by_cases ha : rdy s a = true
    · rw [if_pos ha] at h
      obtain ⟨rfl, _⟩ := List.cons.inj h
      simp
    · rw [if_neg ha] at h
      have hca : c ≠ a := fun e => ha (e ▸ hrc)
      have hka : k ≠ a := by
        intro e
        have : k ∈ l.filter (rdy s) := h ▸ List.mem_cons_self ..
        exact ha (e ▸ (List.mem_filter.1 this).2)
      have := ih h c ((List.mem_cons.1 hc).resolve_left hca) hrc
      rw [List.idxOf_cons, List.idxOf_cons, beq_eq_false_iff_ne.2 (Ne.symm hca), beq_eq_false_iff_ne.2 (Ne.symm hka)]
      exact Nat.succ_le_succ this
theorem none_ready {m s : Nat} {L : List Int} (hF : Full m L) (h : L.filter (rdy s) = []) (hs : s < 2 ^ m) : s = 0 := by
  apply Nat.eq_of_testBit_eq
  intro i
  rw [Nat.zero_testBit]
  by_cases hi : i < m
  · have hm : (i : Int) ∈ L := hF.mem.2 ⟨i, hi, rfl⟩
    rw [List.filter_eq_nil_iff] at h
    have := h _ hm
    simpa [rdy] using this
  · exact Nat.testBit_lt_two_pow (Nat.lt_of_lt_of_le hs (Nat.pow_le_pow_right (by decide) (by omega)))
theorem some_ready {s : Nat} {L : List Int} {k : Int} (hk : rdy s k = true) : s ≠ 0 := by
  rintro rfl; simp [rdy] at hk
theorem rot {a : Int} {l : List Int} : tookL (a :: l) a = l ++ [a] := by simp [tookL]
end Go.Proofs.Ytabcodjalacdjaa.OrderCode
