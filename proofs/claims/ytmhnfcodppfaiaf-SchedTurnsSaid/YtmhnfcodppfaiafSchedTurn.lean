
/- A scheduler whose tasks stand in three rows: ready, at work, left. -/
import Derived.Test.YtmhnfcodppfaiafSchedAlive
import Derived.Test.YtmhnfcodppfaiafOwn3
namespace Go.Proofs.Ytmhnfcodppfaiaf.SchedTurns
open Go Go.RowKit Go.Proofs.Ytmhnfcodppfaiaf.Obj Go.Proofs.Ytmhnfcodppfaiaf.FifoCode Go.Proofs.Ytmhnfcodppfaiaf.SchedCode
set_option linter.unusedVariables false
set_option maxRecDepth 100000
def S (n : Nat) (R K Y : List Int) (E : Nat) : Sc := ⟨n, R.length + K.length + Y.length + E, R.length + K.length + Y.length, K.length, R⟩
/-- Each task stands in one row, once. -/
structure P3 (R K Y : List Int) (m : Nat) : Prop where
  nodup : (R ++ (K ++ Y)).Nodup
  rng : ∀ x ∈ R ++ (K ++ Y), 0 ≤ x ∧ x < (m : Int)
section
variable {R K Y R' K' Y' : List Int} {m n E : Nat} {x : Int}
theorem P3.perm (h : P3 R K Y m) (p : (R' ++ (K' ++ Y')).Perm (R ++ (K ++ Y))) : P3 R' K' Y' m := ⟨p.nodup_iff.2 h.nodup, fun x hx => h.rng x (p.mem_iff.1 hx)⟩
theorem P3.nil : P3 [] [] [] 0 := ⟨List.nodup_nil, fun x h => absurd h List.not_mem_nil⟩
theorem P3.make (h : P3 R K Y m) : P3 (R ++ [(m : Int)]) K Y (m + 1) := by
  have hp : ((R ++ [(m : Int)]) ++ (K ++ Y)).Perm ((m : Int) :: (R ++ (K ++ Y))) := by
    rw [List.perm_iff_count]; intro a; simp only [List.count_append, List.count_cons, List.count_nil]; omega
  refine ⟨hp.nodup_iff.2 (List.nodup_cons.2 ⟨fun hm => by have := (h.rng _ hm).2; omega, h.nodup⟩), fun x hx => ?_⟩
  rcases List.mem_cons.1 (hp.mem_iff.1 hx) with rfl | hx
  · omega
  · have := h.rng x hx; omega
theorem P3.next {r : List Int} (h : P3 (x :: r) K Y m) : P3 r (K ++ [x]) Y m := h.perm (by rw [List.perm_iff_count]; intro a; simp only [List.count_append, List.count_cons, List.count_nil]; omega)
theorem P3.back (h : P3 R K Y m) (p : (x :: K').Perm K) : P3 (R ++ [x]) K' Y m := h.perm (by rw [List.perm_iff_count]; intro a; have := p.count_eq a; simp only [List.count_append, List.count_cons, List.count_nil] at this ⊢; omega)
theorem P3.leave (h : P3 R K Y m) (p : (x :: K').Perm K) : P3 R K' (Y ++ [x]) m := h.perm (by rw [List.perm_iff_count]; intro a; have := p.count_eq a; simp only [List.count_append, List.count_cons, List.count_nil] at this ⊢; omega)
theorem P3.ended (h : P3 R K Y m) (p : (x :: K').Perm K) : P3 R K' Y m := by
  have h2 : P3 [x] (R ++ K') Y m := h.perm (by rw [List.perm_iff_count]; intro a; have := p.count_eq a; simp only [List.count_append, List.count_cons, List.count_nil] at this ⊢; omega)
  have h3 := (List.nodup_cons.1 h2.nodup).2
  exact ⟨by simpa using h3, fun y hy => h2.rng y (by simp at hy ⊢; right; exact hy)⟩
theorem P3.push {y : Int} {ys : List Int} (h : P3 R K (y :: ys) m) : P3 (R ++ [y]) K ys m := h.perm (by rw [List.perm_iff_count]; intro a; simp only [List.count_append, List.count_cons, List.count_nil]; omega)
theorem P3.memR (h : P3 R K Y m) (hx : x ∈ K ∨ x ∈ Y) : x ∉ R ∧ 0 ≤ x ∧ x < (m : Int) := by
  have hm : x ∈ K ++ Y := List.mem_append.2 hx
  have h2 := List.nodup_append.1 h.nodup
  exact ⟨fun hr => h2.2.2 x hr x hm rfl, h.rng x (List.mem_append_right _ hm)⟩
theorem pushC_zero {s : Sc} (h : x ∉ s.L) (h0 : 0 ≤ x) (h1 : x < s.made) : s.pushC x = 0 := by
  unfold Sc.pushC
  rw [if_neg (by omega), if_neg h]
theorem perm_at {k : Nat} (hk : K[k]? = some x) : (x :: (K.take k ++ K.drop (k + 1))).Perm K := by
  obtain ⟨h1, h2⟩ := List.getElem?_eq_some_iff.1 hk
  have e : K = K.take k ++ x :: K.drop (k + 1) := by
    rw [← h2, ← List.drop_eq_getElem_cons h1, List.take_append_drop]
  exact (List.perm_middle.symm).trans (e ▸ List.Perm.refl _)
theorem len_at {k : Nat} (hk : K[k]? = some x) : (K.take k ++ K.drop (k + 1)).length + 1 = K.length := by
  have := (perm_at hk).length_eq
  simpa using this
variable {w w' : World} {a p : Nat}
theorem tmake (h : SchedAt w a p (S n R K Y E)) (hf : R.length + K.length + Y.length + E < n) : Calls Try.prog 8 #[.pointer (some ⟨a, 0, none⟩)] w fun e w' => e = .returned (.tuple #[.int .i64 ((R.length + K.length + Y.length + E : Nat) : Int), .int .i64 0]) ∧ SchedAt w' a p (S n (R ++ [((R.length + K.length + Y.length + E : Nat) : Int)]) K Y E) ∧ Only (fun k => k = a ∨ k = p) w w' := by
  refine (make_some h hf).mono ?_
  rintro e w' ⟨rfl, h2, o⟩
  refine ⟨rfl, ?_, o⟩
  have e1 : S n (R ++ [((R.length + K.length + Y.length + E : Nat) : Int)]) K Y E = { S n R K Y E with made := (S n R K Y E).made + 1, live := (S n R K Y E).live + 1, L := (S n R K Y E).L ++ [(((S n R K Y E).made : Nat) : Int)] } := by
    simp only [S, List.length_append, List.length_cons, List.length_nil, Sc.mk.injEq, and_true, true_and]
    omega
  rw [e1]; exact h2
theorem tback (h : SchedAt w a p (S n R K Y E)) (hP : P3 R K Y (R.length + K.length + Y.length + E)) (pk : (x :: K').Perm K) : Calls Try.prog 11 #[.pointer (some ⟨a, 0, none⟩), .int .i64 x] w fun e w' => e = .returned (.int .i64 0) ∧ SchedAt w' a p (S n (R ++ [x]) K' Y E) ∧ Only (fun k => k = a ∨ k = p) w w' := by
  have hl : K'.length + 1 = K.length := by simpa using pk.length_eq
  obtain ⟨h1, h2, h3⟩ := hP.memR (x := x) (.inl (pk.mem_iff.1 (List.mem_cons_self ..)))
  have hc : (S n R K Y E).pushC x = 0 := pushC_zero h1 h2 h3
  have hb : ¬ (S n R K Y E).busy = 0 := by show ¬ K.length = 0; omega
  have H := back_at h x
  unfold Sc.backC Sc.back at H
  rw [if_neg hb, if_neg hb, if_pos hc, hc] at H
  have e1 : S n (R ++ [x]) K' Y E = { S n R K Y E with busy := (S n R K Y E).busy - 1, L := (S n R K Y E).L ++ [x] } := by
    simp only [S, List.length_append, List.length_cons, List.length_nil, Sc.mk.injEq, and_true, true_and]
    omega
  rw [e1]; exact H
theorem tleave (h : SchedAt w a p (S n R K Y E)) (pk : (x :: K').Perm K) : Calls Try.prog 12 #[.pointer (some ⟨a, 0, none⟩)] w fun e w' => e = .returned (.int .i64 0) ∧ SchedAt w' a p (S n R K' (Y ++ [x]) E) ∧ Only (fun k => k = a ∨ k = p) w w' := by
  have hl : K'.length + 1 = K.length := by simpa using pk.length_eq
  have hb : ¬ (S n R K Y E).busy = 0 := by show ¬ K.length = 0; omega
  have H := leave_at h
  unfold Sc.leaveC Sc.leave at H
  rw [if_neg hb] at H
  have e1 : S n R K' (Y ++ [x]) E = { S n R K Y E with busy := (S n R K Y E).busy - 1 } := by
    simp only [S, List.length_append, List.length_cons, List.length_nil, Sc.mk.injEq, and_true, true_and]
    omega
  rw [e1]; exact H
theorem tend (h : SchedAt w a p (S n R K Y E)) (pk : (x :: K').Perm K) : Calls Try.prog 13 #[.pointer (some ⟨a, 0, none⟩)] w fun e w' => e = .returned (.int .i64 0) ∧ SchedAt w' a p (S n R K' Y (E + 1)) ∧ Only (fun k => k = a ∨ k = p) w w' := by
  have hl : K'.length + 1 = K.length := by simpa using pk.length_eq
  have hb : ¬ ((S n R K Y E).busy = 0 ∨ (S n R K Y E).live = 0) := by show ¬ (K.length = 0 ∨ R.length + K.length + Y.length = 0); omega
  have H := end_at h
  unfold Sc.endC Sc.ended at H
  rw [if_neg hb, if_neg hb] at H
  have e1 : S n R K' Y (E + 1) = { S n R K Y E with busy := (S n R K Y E).busy - 1, live := (S n R K Y E).live - 1 } := by
    simp only [S, Sc.mk.injEq, and_true, true_and]
    omega
  rw [e1]; exact H
theorem tpush {y : Int} {ys : List Int} (h : SchedAt w a p (S n R K (y :: ys) E)) (hP : P3 R K (y :: ys) (R.length + K.length + (y :: ys).length + E)) : Calls Try.prog 14 #[.pointer (some ⟨a, 0, none⟩), .int .i64 y] w fun e w' => e = .returned (.int .i64 0) ∧ SchedAt w' a p (S n (R ++ [y]) K ys E) ∧ Only (fun k => k = a ∨ k = p) w w' := by
  obtain ⟨h1, h2, h3⟩ := hP.memR (x := y) (.inr (List.mem_cons_self ..))
  have hc : (S n R K (y :: ys) E).pushC y = 0 := pushC_zero h1 h2 h3
  have H := spush_some h hc
  have e1 : S n (R ++ [y]) K ys E = { S n R K (y :: ys) E with L := (S n R K (y :: ys) E).L ++ [y] } := by
    simp only [S, List.length_append, List.length_cons, List.length_nil, Sc.mk.injEq, and_true, true_and]
    omega
  rw [e1]; exact H.mono fun e w' ⟨h1, h2, h3⟩ => ⟨h1, h2, h3.mono (fun _ _ h => .inr h)⟩
theorem tnext {r : List Int} (h : SchedAt w a p (S n (x :: r) K Y E)) (hb : K.length < 1000) : Calls Try.prog 9 #[.pointer (some ⟨a, 0, none⟩)] w fun e w' => e = .returned (.tuple #[.int .i64 x, .int .u8 1]) ∧ SchedAt w' a p (S n r (K ++ [x]) Y E) ∧ Only (fun k => k = a ∨ k = p) w w' := by
  have H := next_some h rfl hb
  have e1 : S n r (K ++ [x]) Y E = { S n (x :: r) K Y E with busy := (S n (x :: r) K Y E).busy + 1, L := r } := by
    simp only [S, List.length_append, List.length_cons, List.length_nil, Sc.mk.injEq, and_true, true_and]
    omega
  rw [e1]; exact H
def noneC (K Y : List Int) : Int := if 0 < K.length then 2 else if Y.length = 0 then 3 else 4
theorem tnone (h : SchedAt w a p (S n [] K Y E)) : Calls Try.prog 9 #[.pointer (some ⟨a, 0, none⟩)] w fun e w' => e = .returned (.tuple #[.int .i64 0, .int .u8 (noneC K Y)]) ∧ Below w.heap.size w w' := by
  have H := next_none h rfl
  have e1 : (if 0 < (S n [] K Y E).busy then (2 : Int) else if (S n [] K Y E).live = 0 then 3 else 4) = noneC K Y := by
    unfold noneC
    by_cases h1 : 0 < K.length
    · rw [if_pos h1, if_pos (show 0 < (S n [] K Y E).busy from h1)]
    · rw [if_neg h1, if_neg (show ¬ 0 < (S n [] K Y E).busy from h1)]
      have h2 : (S n [] K Y E).live = Y.length := by show 0 + K.length + Y.length = _; omega
      rw [h2]
  rw [e1] at H; exact H
end
end Go.Proofs.Ytmhnfcodppfaiaf.SchedTurns
