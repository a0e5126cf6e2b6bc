
/- A row of numbers as links: of each number the one ahead of it, and the one behind it. Plain. -/
namespace Go.Proofs.Ytmhnfcodppfaiac.ListPure
def hd (e : Int) : List Int → Int
  | [] => e
  | x :: _ => x
def lst (p : Int) : List Int → Int
  | [] => p
  | x :: r => lst x r
def lk (p : Int) : List Int → Int → Int → Option (Int × Int)
  | [], _, _ => none
  | x :: r, e, k => if k = x then some (p, hd e r) else lk x r e k
def upd (f : Int → Option (Int × Int)) (k : Int) (v : Option (Int × Int)) : Int → Option (Int × Int) := fun j => if j = k then v else f j
theorem lk_none {k e : Int} : ∀ {L : List Int} {p : Int}, k ∉ L → lk p L e k = none
  | [], _, _ => rfl
  | x :: r, p, h => by
    rw [lk, if_neg (fun q => h (by rw [q]; exact List.mem_cons_self ..)), lk_none (fun m => h (List.mem_cons_of_mem _ m))]
theorem lk_some {k e : Int} : ∀ {L : List Int} {p : Int}, k ∈ L → (lk p L e k).isSome = true
  | [], _, h => absurd h List.not_mem_nil
  | x :: r, p, h => by
    rw [lk]
    by_cases hx : k = x
    · rw [if_pos hx]; rfl
    · rw [if_neg hx]; exact lk_some ((List.mem_cons.1 h).resolve_left hx)
theorem lk_isSome (p : Int) (L : List Int) (e k : Int) : (lk p L e k).isSome = decide (k ∈ L) := by
  by_cases h : k ∈ L
  · rw [lk_some h]; simp [h]
  · rw [lk_none h]; simp [h]
theorem hd_append (A B : List Int) (e : Int) : hd e (A ++ B) = hd (hd e B) A := by cases A <;> rfl
theorem lst_snoc (A : List Int) (p a : Int) : lst p (A ++ [a]) = a := by
  induction A generalizing p with
  | nil => rfl
  | cons x r ih => exact ih x
theorem lk_append (A B : List Int) (p e k : Int) : lk p (A ++ B) e k = if k ∈ A then lk p A (hd e B) k else lk (lst p A) B e k := by
  induction A generalizing p with
  | nil => simp [lst]
  | cons x r ih =>
    rw [List.cons_append, lk, hd_append, ih, lk, lst]
    by_cases h1 : k = x
    · rw [if_pos h1, if_pos h1, if_pos (h1 ▸ List.mem_cons_self ..)]
    · rw [if_neg h1]
      by_cases h2 : k ∈ r
      · rw [if_pos h2, if_pos (List.mem_cons_of_mem _ h2), if_neg h1]
      · rw [if_neg h2, if_neg (fun h => (List.mem_cons.1 h).elim h1 h2)]
/-- The links of a whole row. -/
def lnk (L : List Int) : Int → Option (Int × Int) := lk (-1) L (-1)
theorem lnk_mid {A B : List Int} {i : Int} (h : i ∉ A) : lnk (A ++ i :: B) i = some (lst (-1) A, hd (-1) B) := by
  rw [lnk, lk_append, if_neg h, lk, if_pos rfl]
theorem lnk_none {L : List Int} {k : Int} (h : k ∉ L) : lnk L k = none := lk_none h
theorem put_nil (i : Int) : lnk [i] = upd (lnk []) i (some (-1, -1)) := by
  funext k
  simp [lnk, lk, upd, hd]
theorem put_snoc {A : List Int} {z i : Int} (hn : (A ++ [z]).Nodup) (hi : i ∉ A ++ [z]) :
    lnk ((A ++ [z]) ++ [i]) = upd (upd (lnk (A ++ [z])) i (some (z, -1))) z (some (lst (-1) A, i)) := by
  have hz : z ∉ A := fun h => (List.nodup_append.1 hn).2.2 z h z (List.mem_singleton.2 rfl) rfl
  have hiA : i ∉ A := fun h => hi (List.mem_append_left _ h)
  have hiz : i ≠ z := fun h => hi (h ▸ List.mem_append_right _ (List.mem_singleton.2 rfl))
  funext k
  simp only [upd, lnk, List.append_assoc]
  simp only [lk_append, List.cons_append, List.nil_append, lk, hd]
  by_cases h1 : k = z
  · subst h1
    simp [hz]
  · by_cases h2 : k = i
    · subst h2
      simp [hiA, hiz]
    · simp [h1, h2]
theorem drop_nn (i : Int) : lnk [] = upd (lnk [i]) i none := by
  funext k
  simp only [lnk, lk, upd]
  by_cases h : k = i <;> simp [h]
theorem drop_first {i b : Int} {B : List Int} (hn : (i :: b :: B).Nodup) : lnk (b :: B) = upd (upd (lnk (i :: b :: B)) b (some (-1, hd (-1) B))) i none := by
  have h1 : i ∉ b :: B := (List.nodup_cons.1 hn).1
  have h2 : b ∉ B := (List.nodup_cons.1 (List.nodup_cons.1 hn).2).1
  funext k
  simp only [lnk, lk, upd, hd]
  by_cases hk : k = i
  · subst hk
    have hb : k ≠ b := fun e => h1 (e ▸ List.mem_cons_self ..)
    simp [hb, lk_none (fun m => h1 (List.mem_cons_of_mem _ m))]
  · by_cases hb : k = b
    · have : b ≠ i := fun q => hk (hb.trans q)
      simp [hb, this]
    · simp [hk, hb]
theorem drop_last {i a : Int} {A : List Int} (hn : (A ++ [a] ++ [i]).Nodup) : lnk (A ++ [a]) = upd (upd (lnk (A ++ [a] ++ [i])) a (some (lst (-1) A, -1))) i none := by
  have hq : ∀ x ∈ A ++ [a], x ≠ i := fun x hx => (List.nodup_append.1 hn).2.2 x hx i (List.mem_singleton.2 rfl)
  have ha : a ∉ A := fun h => (List.nodup_append.1 (List.nodup_append.1 hn).1).2.2 a h a (List.mem_singleton.2 rfl) rfl
  have hiA : i ∉ A := fun h => hq i (List.mem_append_left _ h) rfl
  have hia : a ≠ i := hq a (List.mem_append_right _ (List.mem_singleton.2 rfl))
  funext k
  simp only [upd, lnk, List.append_assoc]
  simp only [lk_append, List.cons_append, List.nil_append, lk, hd]
  by_cases h1 : k = i
  · subst h1
    simp [hiA, Ne.symm hia]
  · by_cases h2 : k = a
    · subst h2
      simp [ha, hia]
    · simp [h1, h2]
theorem drop_mid {i a b : Int} {A B : List Int} (hn : (A ++ [a] ++ i :: b :: B).Nodup) :
    lnk (A ++ [a] ++ b :: B) = upd (upd (upd (lnk (A ++ [a] ++ i :: b :: B)) a (some (lst (-1) A, b))) b (some (a, hd (-1) B))) i none := by
  have hq : ∀ x ∈ A ++ [a], ∀ y ∈ i :: b :: B, x ≠ y := fun x hx y hy => (List.nodup_append.1 hn).2.2 x hx y hy
  have ha : a ∉ A := fun h => (List.nodup_append.1 (List.nodup_append.1 hn).1).2.2 a h a (List.mem_singleton.2 rfl) rfl
  have hiA : i ∉ A := fun h => hq i (List.mem_append_left _ h) i (List.mem_cons_self ..) rfl
  have hbA : b ∉ A := fun h => hq b (List.mem_append_left _ h) b (List.mem_cons_of_mem _ (List.mem_cons_self ..)) rfl
  have hai : a ≠ i := hq a (List.mem_append_right _ (List.mem_singleton.2 rfl)) i (List.mem_cons_self ..)
  have hab : a ≠ b := hq a (List.mem_append_right _ (List.mem_singleton.2 rfl)) b (List.mem_cons_of_mem _ (List.mem_cons_self ..))
  have hr := List.nodup_cons.1 (List.nodup_append.1 hn).2.1
  have hib : i ≠ b := fun e => hr.1 (e ▸ List.mem_cons_self ..)
  have hiB : i ∉ B := fun h => hr.1 (List.mem_cons_of_mem _ h)
  have hbB : b ∉ B := (List.nodup_cons.1 hr.2).1
  funext k
  simp only [upd, lnk, List.append_assoc]
  simp only [lk_append, List.cons_append, List.nil_append, lk, hd]
  by_cases h1 : k = i
  · subst h1
    simp [hiA, Ne.symm hai, hib, lk_none hiB]
  · by_cases h2 : k = a
    · subst h2
      simp [ha, hab, h1]
    · by_cases h3 : k = b
      · subst h3
        simp [hbA, h1, h2]
      · simp [h1, h2, h3]
/-- .. and of the one at a place. -/
theorem lnk_at {L : List Int} (hn : L.Nodup) {k : Nat} {x : Int} (hk : L[k]? = some x) : ∃ p, lnk L x = some (p, L.getD (k + 1) (-1)) := by
  obtain ⟨h1, h2⟩ := List.getElem?_eq_some_iff.1 hk
  have e : L = L.take k ++ x :: L.drop (k + 1) := by
    rw [← h2, ← List.drop_eq_getElem_cons h1, List.take_append_drop]
  have hx : x ∉ L.take k := fun h => by
    rw [e] at hn
    exact (List.nodup_append.1 hn).2.2 x h x (List.mem_cons_self ..) rfl
  have e3 : hd (-1) (L.drop (k + 1)) = L.getD (k + 1) (-1) := by
    rw [List.getD, ← List.head?_drop]
    cases L.drop (k + 1) <;> rfl
  refine ⟨lst (-1) (L.take k), ?_⟩
  rw [← e3]
  conv => lhs; rw [e]
  exact lnk_mid hx
theorem split_at {L : List Int} {i : Int} (h : i ∈ L) : ∃ A B, L = A ++ i :: B ∧ i ∉ A := by
  induction L with
  | nil => exact absurd h List.not_mem_nil
  | cons x r ih =>
    by_cases hx : i = x
    · exact ⟨[], r, by rw [hx]; rfl, List.not_mem_nil⟩
    · obtain ⟨A, B, e, hA⟩ := ih ((List.mem_cons.1 h).resolve_left hx)
      exact ⟨x :: A, B, by rw [e]; rfl, fun m => (List.mem_cons.1 m).elim hx hA⟩
theorem snoc_cases (L : List Int) : L = [] ∨ ∃ A z, L = A ++ [z] := by
  rcases List.eq_nil_or_concat L with h | ⟨A, z, h⟩
  · exact .inl h
  · exact .inr ⟨A, z, by simpa using h⟩
theorem erase_mid {A B : List Int} {i : Int} (hA : i ∉ A) : (A ++ i :: B).erase i = A ++ B := by
  rw [List.erase_append_right _ hA, List.erase_cons_head]
end Go.Proofs.Ytmhnfcodppfaiac.ListPure
