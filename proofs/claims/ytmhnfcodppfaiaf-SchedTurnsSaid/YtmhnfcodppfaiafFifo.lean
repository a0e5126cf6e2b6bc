
/- What the methods of package fifo do to memory. -/
import Derived.Test.YtmhnfcodppfaiafProg
import Derived.Test.YtmhnfcodppfaiafObj
import Derived.WalkKit
import Derived.KernelRfl
namespace Go.Proofs.Ytmhnfcodppfaiaf.FifoCode
open Go Go.RowKit Go.Proofs.Ytmhnfcodppfaiaf.Obj
set_option maxRecDepth 100000
set_option linter.unusedVariables false
def fifoCells (A : List Int) (fr n most : Nat) : List Value := A.map (Value.int .i64) ++ [.int .i64 fr, .int .i64 n, .int .i64 most]
/-- A row's numbers, and what it has. -/
structure FifoSt (A : List Int) (most fr : Nat) (L : List Int) : Prop where
  len : A.length = 32
  most32 : most ≤ 32
  fit : L.length ≤ most
  frl : fr < 32
  get : ∀ k, k < L.length → A[(fr + k) % 32]? = L[k]?
def FifoAt (w : World) (p most : Nat) (L : List Int) : Prop := ∃ A fr, Blk w p 71 (fifoCells A fr L.length most) ∧ FifoSt A most fr L
theorem FifoSt.new (most : Nat) (h : most ≤ 32) : FifoSt (List.replicate 32 0) most 0 [] := ⟨by simp, h, by simp, by decide, fun k hk => absurd hk (by simp)⟩
section
variable {A L : List Int} {most fr : Nat}
theorem mod_ne {f i j : Nat} (hi : i < 32) (hj : j < 32) (h : i ≠ j) : (f + i) % 32 ≠ (f + j) % 32 := by omega
theorem FifoSt.put (h : FifoSt A most fr L) (hl : L.length < most) (v : Int) : FifoSt (A.set ((fr + L.length) % 32) v) most fr (L ++ [v]) := by
  have hm := h.most32
  have h8 := h.len
  have hlt : (fr + L.length) % 32 < 32 := Nat.mod_lt _ (by omega)
  refine ⟨by rw [List.length_set, h8], hm, by rw [List.length_append]; simp; omega, h.frl, fun k hk => ?_⟩
  rw [List.length_append] at hk
  by_cases e : k = L.length
  · subst e
    rw [List.getElem?_set_self (by omega), List.getElem?_append_right (Nat.le_refl _)]
    simp
  · have hk' : k < L.length := by simp at hk; omega
    rw [List.getElem?_set_ne (mod_ne (by omega) (by omega) (Ne.symm e)), h.get k hk', List.getElem?_append_left hk']
theorem FifoSt.take {v : Int} {r : List Int} (h : FifoSt A most fr (v :: r)) : A[fr]? = some v ∧ FifoSt A most ((fr + 1) % 32) r := by
  have hf := h.fit
  have hfr := h.frl
  simp only [List.length_cons] at hf
  refine ⟨?_, h.len, h.most32, by omega, Nat.mod_lt _ (by omega), fun k hk => ?_⟩
  · have := h.get 0 (by simp)
    rw [Nat.add_zero, Nat.mod_eq_of_lt hfr] at this
    exact this
  · have := h.get (k + 1) (by simpa using hk)
    rw [show fr + (k + 1) = fr + 1 + k by omega] at this
    rw [Nat.mod_add_mod, this]; rfl
end
section
variable {w : World} {p most fr n : Nat} {A : List Int}
theorem fc32 (h : Blk w p 71 (fifoCells A fr n most)) (hA : A.length = 32) : w.cell? ⟨p, 32, none⟩ = some (.int .i64 fr) ∧ w.cell? ⟨p, 33, none⟩ = some (.int .i64 n) ∧ w.cell? ⟨p, 34, none⟩ = some (.int .i64 most) := by
  have e : ∀ i, 32 ≤ i → w.cell? ⟨p, i, none⟩ = [Value.int .i64 fr, .int .i64 n, .int .i64 most][i - 32]? := fun i hi => by
    rw [h.cell, fifoCells, List.getElem?_append_right (by rw [List.length_map]; omega), List.length_map, hA]
  exact ⟨e 32 (by omega), e 33 (by omega), e 34 (by omega)⟩
theorem fcA (h : Blk w p 71 (fifoCells A fr n most)) (i : Nat) (x : Int) (hx : A[i]? = some x) : w.cell? ⟨p, i, none⟩ = some (.int .i64 x) := by
  have hi := (List.getElem?_eq_some_iff.1 hx).1
  rw [h.cell, fifoCells, List.getElem?_append_left (by simpa using hi), List.getElem?_map, hx]; rfl
theorem fset_A (i : Nat) (v : Int) (hi : i < A.length) : (fifoCells A fr n most).set i (.int .i64 v) = fifoCells (A.set i v) fr n most := by
  unfold fifoCells; rw [List.set_append_left _ _ (by simpa using hi), List.map_set]
theorem fset_fr (hA : A.length = 32) (f : Nat) : (fifoCells A fr n most).set 32 (.int .i64 f) = fifoCells A f n most := by
  unfold fifoCells; rw [List.set_append_right _ _ (by simp [hA]), List.length_map, hA]; rfl
theorem fset_n (hA : A.length = 32) (m : Nat) : (fifoCells A fr n most).set 33 (.int .i64 m) = fifoCells A fr m most := by
  unfold fifoCells; rw [List.set_append_right _ _ (by simp [hA]), List.length_map, hA]; rfl
end
theorem ret_int {k : IntKind} {a b : Int} (h : a = b) : Ending.returned (.int k a) = .returned (.int k b) := by rw [h]
theorem place_raw (p fr k : Nat) (w : World) (hf : fr ≤ 64) (hk : k ≤ 64) (h32 : w.cell? ⟨p, 32, none⟩ = some (.int .i64 fr)) :
    Calls Try.prog 38 #[.pointer (some ⟨p, 0, none⟩), .int .i64 k] w fun e w' => e = .returned (.int .i64 (((fr + k) % 32 : Nat) : Int)) ∧ w' = w := by
  go_enter Try.func38, Try.ntmps38
  go_wp2
  go_ret
  exact ⟨ret_int (by rw [Int.natCast_emod, Int.natCast_add]; rfl), rfl⟩
theorem new_out (k : Int) (w : World) (h : k < 1 ∨ k > 32) : Calls Try.prog 27 #[.int .i64 k] w fun e w' => e = .returned (.tuple #[.pointer none, .int .i64 2]) ∧ w' = w := by
  go_enter Try.func27, Try.ntmps27
  rcases h with h | h
  · go_wp2
    go_ret2
    exact ⟨rfl, rfl⟩
  · by_cases h1 : k < 1
    · exact absurd h (by omega)
    · go_wp2
      go_ret2
      exact ⟨rfl, rfl⟩
theorem new_raw (most : Nat) (w : World) (h1 : 1 ≤ most) (h : most ≤ 32) : Calls Try.prog 27 #[.int .i64 most] w fun e w' => e = .returned (.tuple #[.pointer (some ⟨w.heap.size, 0, none⟩), .int .i64 0]) ∧ w' = w.alloc (.cells (fifoCells (List.replicate 32 0) 0 0 most).toArray 71) := by
  have h0 : ¬ ((most : Int) < 1) := by omega
  have h8 : ¬ ((most : Int) > 32) := by omega
  go_enter Try.func27, Try.ntmps27
  go_wp2
  go_ret2
  exact ⟨rfl, rfl⟩
theorem pop_none_raw (p : Nat) (w : World) (h33 : w.cell? ⟨p, 33, none⟩ = some (.int .i64 0)) :
    Calls Try.prog 30 #[.pointer (some ⟨p,0,none⟩)] w fun e w' => e = .returned (.tuple #[.int .i64 0, .int .i64 3]) ∧ w' = w := by
  go_enter Try.func30, Try.ntmps30
  go_wp2
  go_ret2
  exact ⟨rfl, rfl⟩
theorem pop_raw (p fr n : Nat) (v : Int) (w : World) (hp : p < w.heap.size) (hn : 0 < n) (hn32 : n ≤ 32) (hf : fr < 32) (h32 : w.cell? ⟨p, 32, none⟩ = some (.int .i64 fr)) (h33 : w.cell? ⟨p, 33, none⟩ = some (.int .i64 n))
    (hx : w.cell? ⟨p, fr, none⟩ = some (.int .i64 v)) (hfz : ∀ i, w.frozen? ⟨p, i, none⟩ = false) :
    Calls Try.prog 30 #[.pointer (some ⟨p,0,none⟩)] w fun e w' => e = .returned (.tuple #[.int .i64 v, .int .i64 0]) ∧ w' = ((w.setCell ⟨p, 32, none⟩ (.int .i64 (((fr + 1) % 32 : Nat) : Int))).setCell ⟨p, 33, none⟩ (.int .i64 ((n : Int) - 1))).drew := by
  have hn0 : ((n : Int) == 0) = false := beq_eq_false_iff_ne.2 (by omega)
  go_enter Try.func30, Try.ntmps30
  go_wp2
  go_region
  all_goals go_wp2_with (first | ((go_at_call 38); (refine (place_raw p fr 1 _ (by omega) (by omega) (by go_simp)).mono ?_); (rintro e w1 ⟨rfl, rfl⟩)))
  all_goals go_ret2
  all_goals exact ⟨rfl, rfl⟩
end Go.Proofs.Ytmhnfcodppfaiaf.FifoCode
