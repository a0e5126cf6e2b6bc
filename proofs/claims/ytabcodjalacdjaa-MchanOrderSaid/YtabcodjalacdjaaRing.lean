
/- What the methods of package ring do to memory. -/
import Derived.Test.YtabcodjalacdjaaProg
import Derived.Test.YtabcodjalacdjaaObj
import Derived.WalkKit
import Derived.KernelRfl
import Derived.Deep.QuietTactic
import Derived.BigQuiet
import Derived.Deep.RegionHeld3
namespace Go.Proofs.Ytabcodjalacdjaa.RingCode
open Go Go.RowKit Go.Proofs.Ytabcodjalacdjaa.Obj
set_option maxRecDepth 100000
set_option linter.unusedVariables false
def ringCells (A : List Int) (most fr n : Nat) : List Value := A.map (Value.int .i64) ++ [.int .i64 most, .int .i64 fr, .int .i64 n]
/-- A ring's numbers, and what it has. -/
structure RingSt (A : List Int) (most fr : Nat) (L : List Int) : Prop where
  len : A.length = 8
  most8 : most ≤ 8
  fit : L.length ≤ most
  frm : fr < most ∨ fr = 0
  get : ∀ k, k < L.length → A[(fr + k) % most]? = L[k]?
def RingAt (w : World) (p most : Nat) (L : List Int) : Prop := ∃ A fr, Blk w p 88 (ringCells A most fr L.length) ∧ RingSt A most fr L
theorem RingSt.new (most : Nat) (h : most ≤ 8) : RingSt (List.replicate 8 0) most 0 [] := ⟨by simp, h, by simp, .inr rfl, fun k hk => absurd hk (by simp)⟩
section
variable {A L : List Int} {most fr : Nat}
theorem mod_ne {m f i j : Nat} (hi : i < m) (hj : j < m) (h : i ≠ j) : (f + i) % m ≠ (f + j) % m := by
  intro e
  have h1 : (f % m + i) % m = (f % m + j) % m := by rw [Nat.mod_add_mod, Nat.mod_add_mod]; exact e
  have hf : f % m < m := Nat.mod_lt _ (by omega)
  generalize f % m = g at *
  have k : ∀ x, x < m → (g + x) % m = if g + x < m then g + x else g + x - m := fun x hx => by
    split
    · exact Nat.mod_eq_of_lt (by assumption)
    · rw [Nat.mod_eq_sub_mod (by omega), Nat.mod_eq_of_lt (by omega)]
  rw [k i hi, k j hj] at h1
  split at h1 <;> split at h1 <;> omega
theorem RingSt.put (h : RingSt A most fr L) (hl : L.length < most) (v : Int) : RingSt (A.set ((fr + L.length) % most) v) most fr (L ++ [v]) := by
  have hm := h.most8
  have h8 := h.len
  have hlt : (fr + L.length) % most < most := Nat.mod_lt _ (by omega)
  refine ⟨by rw [List.length_set, h8], hm, by rw [List.length_append]; simp; omega, h.frm, fun k hk => ?_⟩
  rw [List.length_append] at hk
  by_cases e : k = L.length
  · subst e
    rw [List.getElem?_set_self (by omega), List.getElem?_append_right (Nat.le_refl _)]
    simp
  · have hk' : k < L.length := by simp at hk; omega
    rw [List.getElem?_set_ne (mod_ne (by omega) (by omega) (Ne.symm e)), h.get k hk', List.getElem?_append_left hk']
theorem RingSt.take {v : Int} {r : List Int} (h : RingSt A most fr (v :: r)) : A[fr]? = some v ∧ RingSt A most ((fr + 1) % most) r := by
  have hf := h.fit
  simp only [List.length_cons] at hf
  have hfr : fr < most := by rcases h.frm with h | h <;> omega
  refine ⟨?_, h.len, h.most8, by omega, .inl (Nat.mod_lt _ (by omega)), fun k hk => ?_⟩
  · have := h.get 0 (by simp)
    rw [Nat.add_zero, Nat.mod_eq_of_lt hfr] at this
    exact this
  · have := h.get (k + 1) (by simpa using hk)
    rw [show fr + (k + 1) = fr + 1 + k by omega] at this
    rw [Nat.mod_add_mod, this]; rfl
end
section
variable {w : World} {p most fr n : Nat} {A : List Int}
theorem rc8 (h : Blk w p 88 (ringCells A most fr n)) (hA : A.length = 8) : w.cell? ⟨p, 8, none⟩ = some (.int .i64 most) ∧ w.cell? ⟨p, 9, none⟩ = some (.int .i64 fr) ∧ w.cell? ⟨p, 10, none⟩ = some (.int .i64 n) := by
  have e : ∀ i, 8 ≤ i → w.cell? ⟨p, i, none⟩ = [Value.int .i64 most, .int .i64 fr, .int .i64 n][i - 8]? := fun i hi => by
    rw [h.cell, ringCells, List.getElem?_append_right (by rw [List.length_map]; omega), List.length_map, hA]
  exact ⟨e 8 (by omega), e 9 (by omega), e 10 (by omega)⟩
theorem rcA (h : Blk w p 88 (ringCells A most fr n)) (i : Nat) (x : Int) (hx : A[i]? = some x) : w.cell? ⟨p, i, none⟩ = some (.int .i64 x) := by
  have hi := (List.getElem?_eq_some_iff.1 hx).1
  rw [h.cell, ringCells, List.getElem?_append_left (by simpa using hi), List.getElem?_map, hx]; rfl
theorem rset_A (i : Nat) (v : Int) (hi : i < A.length) : (ringCells A most fr n).set i (.int .i64 v) = ringCells (A.set i v) most fr n := by
  unfold ringCells; rw [List.set_append_left _ _ (by simpa using hi), List.map_set]
theorem rset_fr (hA : A.length = 8) (f : Nat) : (ringCells A most fr n).set 9 (.int .i64 f) = ringCells A most f n := by
  unfold ringCells; rw [List.set_append_right _ _ (by simp [hA]), List.length_map, hA]; rfl
theorem rset_n (hA : A.length = 8) (m : Nat) : (ringCells A most fr n).set 10 (.int .i64 m) = ringCells A most fr m := by
  unfold ringCells; rw [List.set_append_right _ _ (by simp [hA]), List.length_map, hA]; rfl
end
theorem ret_int {k : IntKind} {a b : Int} (h : a = b) : Ending.returned (.int k a) = .returned (.int k b) := by rw [h]
theorem places_raw (p : Nat) (w : World) : Calls Try.prog 43 #[.pointer (some ⟨p,0,none⟩)] w fun e w' => e = .returned (.func (.func 45) #[] #[.pointer (some ⟨w.heap.size, 0, none⟩)]) ∧ w' = w.alloc (.cells #[.pointer (some ⟨p,0,none⟩)] 65) := by
  have hmf : ∀ (fn : Fn) (first cap : Array Value) (w : World), (Instr.makeFunc fn first cap).run Try.prog w = .ok (.func fn first cap) w := fun _ _ _ _ => rfl
  go_enter Try.func43, Try.ntmps43
  go_wp2
  go_ret
  exact ⟨rfl, rfl⟩
theorem place_raw (p b most fr k : Nat) (w : World) (hm : 0 < most) (hm8 : most ≤ 8) (hf : fr ≤ 8) (hk : k ≤ 8) (hb : w.cell? ⟨b, 0, none⟩ = some (.pointer (some ⟨p,0,none⟩))) (h8 : w.cell? ⟨p, 8, none⟩ = some (.int .i64 most)) (h9 : w.cell? ⟨p, 9, none⟩ = some (.int .i64 fr)) :
    Calls Try.prog 45 #[.int .i64 k, .pointer (some ⟨b, 0, none⟩)] w fun e w' => e = .returned (.int .i64 (((fr + k) % most : Nat) : Int)) ∧ w' = w.drew := by
  go_enter Try.func45, Try.ntmps45
  go_wp2
  go_region
  all_goals go_wp2
  all_goals go_ret
  all_goals exact ⟨ret_int (by rw [Int.natCast_emod, Int.natCast_add]), rfl⟩
theorem put_full_raw (p most n : Nat) (v : Int) (w : World) (hn : most ≤ n) (h8 : w.cell? ⟨p, 8, none⟩ = some (.int .i64 most)) (h10 : w.cell? ⟨p, 10, none⟩ = some (.int .i64 n)) :
    Calls Try.prog 38 #[.pointer (some ⟨p,0,none⟩), .int .i64 v] w fun e w' => e = .returned (.int .i64 4) ∧ w' = w.drew := by
  go_enter Try.func38, Try.ntmps38
  go_wp2
  go_region
  all_goals go_wp2
  all_goals go_ret
  all_goals exact ⟨rfl, rfl⟩
theorem put_raw (p most fr n : Nat) (v x : Int) (w : World) (hp : p < w.heap.size) (hn : n < most) (hm8 : most ≤ 8) (hf : fr ≤ 8) (h8 : w.cell? ⟨p, 8, none⟩ = some (.int .i64 most)) (h9 : w.cell? ⟨p, 9, none⟩ = some (.int .i64 fr)) (h10 : w.cell? ⟨p, 10, none⟩ = some (.int .i64 n))
    (hx : w.cell? ⟨p, (fr + n) % most, none⟩ = some (.int .i64 x)) (hfz : ∀ i, w.frozen? ⟨p, i, none⟩ = false) :
    Calls Try.prog 38 #[.pointer (some ⟨p,0,none⟩), .int .i64 v] w fun e w' => e = .returned (.int .i64 0) ∧ w' = (((w.setCell ⟨p, (fr + n) % most, none⟩ (.int .i64 v)).setCell ⟨p, 10, none⟩ (.int .i64 ((n : Int) + 1))).alloc (.cells #[.pointer (some ⟨p,0,none⟩)] 65)).drew.drew.drew := by
  have hi8 : (fr + n) % most < 8 := by have := Nat.mod_lt (fr + n) (show most > 0 by omega); omega
  have e8 : (((fr + n) % most : Nat) : Int) = ((fr : Int) + n) % most := by rw [Int.natCast_emod, Int.natCast_add]
  have hi8' : ((fr : Int) + n) % most < 8 := by omega
  have hi0' : 0 ≤ ((fr : Int) + n) % most := by omega
  have hx2 : w.cell? ⟨p, (((fr : Int) + n) % most).toNat, none⟩ = some (.int .i64 x) := by rw [← e8, Int.toNat_natCast]; exact hx
  clear e8
  go_enter Try.func38, Try.ntmps38
  go_wp2
  go_region
  all_goals go_wp2
  all_goals go_region_with (first | ((go_at_call 43); (refine (places_raw p _).mono ?_); (rintro e w1 ⟨rfl, rfl⟩)) | ((go_at_call 45); (refine (place_raw p w.heap.size most fr n _ (by omega) hm8 hf (by omega) (by go_simp) (by go_simp) (by go_simp)).mono ?_); (rintro e w1 ⟨rfl, rfl⟩)))
  all_goals go_wp2
  all_goals go_ret
  all_goals exact ⟨rfl, rfl⟩
theorem take_none_raw (p : Nat) (w : World) (h10 : w.cell? ⟨p, 10, none⟩ = some (.int .i64 0)) :
    Calls Try.prog 39 #[.pointer (some ⟨p,0,none⟩)] w fun e w' => e = .returned (.tuple #[.int .i64 0, .int .i64 3]) ∧ w' = w := by
  go_enter Try.func39, Try.ntmps39
  go_wp2
  go_ret2
  exact ⟨rfl, rfl⟩
theorem take_raw (p most fr n : Nat) (v : Int) (w : World) (hp : p < w.heap.size) (hn : 0 < n) (hnm : n ≤ most) (hm8 : most ≤ 8) (hf : fr < most) (h8 : w.cell? ⟨p, 8, none⟩ = some (.int .i64 most)) (h9 : w.cell? ⟨p, 9, none⟩ = some (.int .i64 fr)) (h10 : w.cell? ⟨p, 10, none⟩ = some (.int .i64 n))
    (hx : w.cell? ⟨p, fr, none⟩ = some (.int .i64 v)) (hfz : ∀ i, w.frozen? ⟨p, i, none⟩ = false) :
    Calls Try.prog 39 #[.pointer (some ⟨p,0,none⟩)] w fun e w' => e = .returned (.tuple #[.int .i64 v, .int .i64 0]) ∧ w' = (((w.setCell ⟨p, 9, none⟩ (.int .i64 (((fr + 1) % most : Nat) : Int))).setCell ⟨p, 10, none⟩ (.int .i64 ((n : Int) - 1))).alloc (.cells #[.pointer (some ⟨p,0,none⟩)] 65)).drew.drew := by
  have hn0 : ((n : Int) == 0) = false := beq_eq_false_iff_ne.2 (by omega)
  go_enter Try.func39, Try.ntmps39
  go_wp2_with (first | ((go_at_call 43); (refine (places_raw p _).mono ?_); (rintro e w1 ⟨rfl, rfl⟩)))
  go_region
  all_goals go_wp2_with (first | ((go_at_call 45); (refine (place_raw p w.heap.size most fr 1 _ (by omega) hm8 (by omega) (by omega) (by go_simp) (by go_simp) (by go_simp)).mono ?_); (rintro e w1 ⟨rfl, rfl⟩)))
  all_goals go_ret2
  all_goals exact ⟨rfl, rfl⟩
theorem len_raw (p : Nat) (n : Int) (w : World) (h : w.cell? ⟨p, 10, none⟩ = some (.int .i64 n)) : Calls Try.prog 25 #[.pointer (some ⟨p,0,none⟩)] w fun e w' => e = .returned (.int .i64 n) ∧ w' = w := by
  go_enter Try.func25, Try.ntmps25
  go_wp2
  go_ret
  exact ⟨rfl, rfl⟩
theorem cap_raw (p : Nat) (n : Int) (w : World) (h : w.cell? ⟨p, 8, none⟩ = some (.int .i64 n)) : Calls Try.prog 26 #[.pointer (some ⟨p,0,none⟩)] w fun e w' => e = .returned (.int .i64 n) ∧ w' = w := by
  go_enter Try.func26, Try.ntmps26
  go_wp2
  go_ret
  exact ⟨rfl, rfl⟩
theorem new_out (k : Int) (w : World) (h : k < 0 ∨ k > 8) : Calls Try.prog 24 #[.int .i64 k] w fun e w' => e = .returned (.tuple #[.pointer none, .int .i64 2]) ∧ w' = w := by
  go_enter Try.func24, Try.ntmps24
  rcases h with h | h
  · go_wp2
    go_ret2
    exact ⟨rfl, rfl⟩
  · by_cases h1 : k < 0
    · exact absurd h (by omega)
    · go_wp2
      go_ret2
      exact ⟨rfl, rfl⟩
theorem new_raw (most : Nat) (w : World) (h : most ≤ 8) : Calls Try.prog 24 #[.int .i64 most] w fun e w' => e = .returned (.tuple #[.pointer (some ⟨w.heap.size, 0, none⟩), .int .i64 0]) ∧ w' = w.alloc (.cells (ringCells (List.replicate 8 0) most 0 0).toArray 88) := by
  have h0 : ¬ ((most : Int) < 0) := by omega
  have h8 : ¬ ((most : Int) > 8) := by omega
  go_enter Try.func24, Try.ntmps24
  go_wp2
  go_ret2
  exact ⟨rfl, rfl⟩
end Go.Proofs.Ytabcodjalacdjaa.RingCode
