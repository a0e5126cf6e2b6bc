
/- The contracts of package fifo: a row in memory is a list. -/
import Derived.Test.YtmhnfcodppfaiafFifoList
namespace Go.Proofs.Ytmhnfcodppfaiaf.FifoCode
open Go Go.RowKit Go.Proofs.Ytmhnfcodppfaiaf.Obj
set_option maxRecDepth 100000
set_option linter.unusedVariables false
section
variable {w w' : World} {p most : Nat} {L : List Int}
theorem has_yes (h : FifoAt w p most L) {k : Int} (hk : k ∈ L) : Calls Try.prog 37 #[.pointer (some ⟨p, 0, none⟩), .int .i64 k] w fun e w' => e = .returned (.bool true) ∧ Below w.heap.size w w' := by
  have := has_at h k; rw [decide_eq_true hk] at this; exact this
theorem has_no (h : FifoAt w p most L) {k : Int} (hk : k ∉ L) : Calls Try.prog 37 #[.pointer (some ⟨p, 0, none⟩), .int .i64 k] w fun e w' => e = .returned (.bool false) ∧ Below w.heap.size w w' := by
  have := has_at h k; rw [decide_eq_false hk] at this; exact this
theorem push_nil (k : Int) (w : World) : Calls Try.prog 28 #[.pointer none, .int .i64 k] w fun e w' => e = .returned (.int .i64 1) ∧ w' = w := by
  go_enter Try.func28, Try.ntmps28
  go_wp2_with (fail)
  go_ret
  exact ⟨rfl, rfl⟩
theorem push_arg (p : Nat) (k : Int) (w : World) (hk : k < 0 ∨ k ≥ 32) : Calls Try.prog 28 #[.pointer (some ⟨p, 0, none⟩), .int .i64 k] w fun e w' => e = .returned (.int .i64 2) ∧ w' = w := by
  by_cases h0 : k < 0
  · go_enter Try.func28, Try.ntmps28
    go_wp2_with (fail)
    go_ret
    exact ⟨rfl, rfl⟩
  · have h1 : 32 ≤ k := by omega
    clear hk
    go_enter Try.func28, Try.ntmps28
    go_wp2_with (fail)
    go_ret
    exact ⟨rfl, rfl⟩
theorem push_have (h : FifoAt w p most L) {k : Int} (h0 : 0 ≤ k) (h1 : k < 32) (hk : k ∈ L) : Calls Try.prog 28 #[.pointer (some ⟨p, 0, none⟩), .int .i64 k] w fun e w' => e = .returned (.int .i64 9) ∧ Below w.heap.size w w' := by
  have H := has_yes h hk
  clear hk
  go_enter Try.func28, Try.ntmps28
  go_wp2_with (fail)
  refine H.mono ?_
  rintro e w1 ⟨rfl, hB⟩
  go_wp2_with (fail)
  go_ret
  exact ⟨rfl, hB⟩
theorem below_drewN {B : Nat} {a w : World} (h : Below B a w) (n : Nat) : Below B a (w.drewN n) := ⟨h.os, h.tape, h.output, h.size, h.block⟩
theorem push_full (h : FifoAt w p most L) {k : Int} (h0 : 0 ≤ k) (h1 : k < 32) (hk : k ∉ L) (hl : L.length = most) : Calls Try.prog 28 #[.pointer (some ⟨p, 0, none⟩), .int .i64 k] w fun e w' => e = .returned (.int .i64 4) ∧ Below w.heap.size w w' := by
  have H := has_no h hk
  clear hk
  go_enter Try.func28, Try.ntmps28
  go_wp2_with (fail)
  refine H.mono ?_
  rintro e w1 ⟨rfl, hB⟩
  obtain ⟨A, fr, k1, k2⟩ := h.same (hB.block p h.lt)
  obtain ⟨c32, c33, c34⟩ := fc32 k1 k2.len
  rw [hl] at c33
  clear hl h k1 k2 H
  go_wp2_with (go_quiet (fail))
  go_ret
  exact ⟨rfl, below_drewN hB _⟩
/-- What Push writes. -/
theorem push_world {A : List Int} {fr n : Nat} {W : World} (h : Blk W p 71 (fifoCells A fr n most)) (hA : A.length = 32) (i : Nat) (hi : i < 32) (v : Int) :
    Blk ((W.setCell ⟨p, i, none⟩ (.int .i64 v)).setCell ⟨p, 33, none⟩ (.int .i64 ((n : Int) + 1))) p 71 (fifoCells (A.set i v) fr (n + 1) most) := by
  have h1 := (h.set i (.int .i64 v)).set 33 (.int .i64 ((n + 1 : Nat) : Int))
  rw [fset_A i v (by omega), fset_n (by rw [List.length_set, hA]) (n + 1)] at h1
  exact h1
set_option maxHeartbeats 1000000 in
theorem push_at (h : FifoAt w p most L) {k : Int} (h0 : 0 ≤ k) (h1 : k < 32) (hk : k ∉ L) (hl : L.length < most) : Calls Try.prog 28 #[.pointer (some ⟨p, 0, none⟩), .int .i64 k] w fun e w' => e = .returned (.int .i64 0) ∧ FifoAt w' p most (L ++ [k]) ∧ Only (· = p) w w' := by
  have H := has_no h hk
  have hpl := h.lt
  clear hk
  go_enter Try.func28, Try.ntmps28
  go_wp2_with (fail)
  refine H.mono ?_
  rintro e w1 ⟨rfl, hB⟩
  have hps : p < w1.heap.size := Nat.lt_of_lt_of_le hpl hB.size
  obtain ⟨A, fr, k1, k2⟩ := h.same (hB.block p h.lt)
  obtain ⟨c32, c33, c34⟩ := fc32 k1 k2.len
  have hO : Only (· = p) w w1 := (Only.none_of_below hB).mono (fun _ _ h => h.elim)
  have hm := k2.most32
  have hfr := k2.frl
  have hi8 : (fr + L.length) % 32 < 32 := Nat.mod_lt _ (by omega)
  have e8 : (((fr + L.length) % 32 : Nat) : Int) = ((fr : Int) + L.length) % 32 := by omega
  have hi8' : ((fr : Int) + L.length) % 32 < 32 := by omega
  have hi0' : 0 ≤ ((fr : Int) + L.length) % 32 := by omega
  obtain ⟨x, hx⟩ : ∃ x, A[(fr + L.length) % 32]? = some x := ⟨_, List.getElem?_eq_getElem (by rw [k2.len]; exact hi8)⟩
  have cx := fcA k1 _ x hx
  have cx2 : w1.cell? ⟨p, (((fr : Int) + L.length) % 32).toNat, none⟩ = some (.int .i64 x) := by rw [← e8, Int.toNat_natCast]; exact cx
  have hfz := k1.frozen
  have hK1 := hid k1
  have hlt : decide (L.length ≥ most) = false := decide_eq_false (by omega)
  have hlt' : ¬ ((most : Int) ≤ (L.length : Int)) := by omega
  have hLs : L.length ≤ 32 := by omega
  clear H hB e8 hx k1 h
  go_wp2_with (fail)
  go_quiet (fail)
  go_wp2_with (fail)
  go_region_with (first | ((go_at_call 38); (refine (place_raw p fr L.length _ (by omega) (by omega) (by go_simp)).mono ?_); (rintro e w2 ⟨rfl, rfl⟩)))
  all_goals go_wp2
  all_goals go_ret
  all_goals
    have hW : Blk (w1.drewN (nq + 1)) p 71 (fifoCells A fr L.length most) := hK1.out.same rfl
    have hO2 : Only (· = p) w (w1.drewN (nq + 1)) := hO.trans (Only.drewN _ _ _)
    exact ⟨rfl, ⟨_, _, by rw [List.length_append]; exact push_world hW k2.len _ hi8 k, k2.put hl k⟩, (hO2.trans (Only.setCell _ _ _ rfl)).trans (Only.setCell _ _ _ rfl)⟩
theorem pop_nil (w : World) : Calls Try.prog 30 #[.pointer none] w fun e w' => e = .returned (.tuple #[.int .i64 0, .int .i64 1]) ∧ w' = w := by
  go_enter Try.func30, Try.ntmps30
  go_wp2_with (fail)
  go_ret2
  exact ⟨rfl, rfl⟩
theorem pop_none (h : FifoAt w p most []) : Calls Try.prog 30 #[.pointer (some ⟨p,0,none⟩)] w fun e w' => e = .returned (.tuple #[.int .i64 0, .int .i64 3]) ∧ w' = w := by
  obtain ⟨A, fr, k1, k2⟩ := h
  exact pop_none_raw p w (fc32 k1 k2.len).2.1
theorem pop_at {x : Int} {r : List Int} (h : FifoAt w p most (x :: r)) : Calls Try.prog 30 #[.pointer (some ⟨p,0,none⟩)] w fun e w' => e = .returned (.tuple #[.int .i64 x, .int .i64 0]) ∧ FifoAt w' p most r ∧ Only (· = p) w w' := by
  obtain ⟨A, fr, k1, k2⟩ := h
  obtain ⟨c32, c33, c34⟩ := fc32 k1 k2.len
  have hf := k2.fit
  have hm := k2.most32
  obtain ⟨hx, k3⟩ := k2.take
  refine (pop_raw p fr (x :: r).length x w k1.lt (by simp) (by omega) k2.frl c32 c33 (fcA k1 _ x hx) k1.frozen).mono ?_
  rintro e w' ⟨rfl, rfl⟩
  have h1 := (k1.set 32 (.int .i64 (((fr + 1) % 32 : Nat) : Int))).set 33 (.int .i64 ((r.length : Nat) : Int))
  rw [fset_fr k2.len, fset_n k2.len] at h1
  have e1 : (((x :: r).length : Nat) : Int) - 1 = ((r.length : Nat) : Int) := by simp
  rw [e1]
  exact ⟨rfl, ⟨A, _, h1.same rfl, k3⟩, ((Only.setCell (S := (· = p)) w _ _ rfl).trans (Only.setCell _ _ _ rfl)).trans (Only.drew _ _)⟩
theorem new_at (most : Nat) (w : World) (h1 : 1 ≤ most) (h : most ≤ 32) : Calls Try.prog 27 #[.int .i64 most] w fun e w' => e = .returned (.tuple #[.pointer (some ⟨w.heap.size, 0, none⟩), .int .i64 0]) ∧ FifoAt w' w.heap.size most [] ∧ Below w.heap.size w w' ∧ w.heap.size < w'.heap.size := by
  refine (new_raw most w h1 h).mono ?_
  rintro e w' ⟨rfl, rfl⟩
  exact ⟨rfl, ⟨_, _, Blk.new w 71 (fifoCells (List.replicate 32 0) 0 0 most), FifoSt.new most h⟩, (Below.refl _ w).alloc (Nat.le_refl _) _, by simp⟩
/-- One step of the loop of Drop: the place i has what stood behind it. -/
def slid (A : List Int) (fr at_ i : Nat) : List Int := (List.range' at_ (i - at_)).foldl (fun A j => A.set ((fr + j) % 32) (A.getD ((fr + (j + 1)) % 32) 0)) A
theorem slid_self (A : List Int) (fr a : Nat) : slid A fr a a = A := by simp [slid]
theorem slid_succ (A : List Int) (fr a i : Nat) (h : a ≤ i) : slid A fr a (i + 1) = (slid A fr a i).set ((fr + i) % 32) ((slid A fr a i).getD ((fr + (i + 1)) % 32) 0) := by
  unfold slid
  rw [show i + 1 - a = (i - a) + 1 by omega, List.range'_concat, List.foldl_append]
  simp only [Nat.one_mul, List.foldl_cons, List.foldl_nil]
  rw [show a + (i - a) = i by omega]
theorem slid_len (A : List Int) (fr a i : Nat) (h : a ≤ i) : (slid A fr a i).length = A.length := by
  obtain ⟨d, rfl⟩ : ∃ d, i = a + d := ⟨i - a, by omega⟩
  clear h
  induction d with
  | zero => rw [Nat.add_zero, slid_self]
  | succ d ih => rw [← Nat.add_assoc, slid_succ _ _ _ _ (by omega), List.length_set, ih]
theorem set_get {A : List Int} {i : Nat} (h : i < A.length) (v : Int) (j : Nat) : (A.set i v)[j]? = if i = j then some v else A[j]? := by
  rw [List.getElem?_set]; split <;> simp_all
theorem slid_get {A : List Int} {fr a : Nat} (hA : A.length = 32) : ∀ (d j : Nat), j < 32 → a + d < 32 →
    (slid A fr a (a + d))[(fr + j) % 32]? = if a ≤ j ∧ j < a + d then A[(fr + (j + 1)) % 32]? else A[(fr + j) % 32]?
  | 0, j, hj, hd => by rw [Nat.add_zero, slid_self, if_neg (by omega)]
  | d + 1, j, hj, hd => by
    have hl : (slid A fr a (a + d)).length = 32 := by rw [slid_len _ _ _ _ (by omega), hA]
    rw [← Nat.add_assoc, slid_succ _ _ _ _ (by omega), set_get (by rw [hl]; exact Nat.mod_lt _ (by omega))]
    by_cases e : j = a + d
    · subst e
      have h1 := slid_get (fr := fr) (a := a) hA d (a + d + 1) (by omega) (by omega)
      rw [if_neg (by omega)] at h1
      have hlt : (fr + (a + d + 1)) % 32 < (slid A fr a (a + d)).length := by rw [hl]; exact Nat.mod_lt _ (by omega)
      rw [if_pos rfl, if_pos (by omega), ← h1, List.getElem?_eq_getElem hlt]
      simp [List.getD, List.getElem?_eq_getElem hlt]
    · rw [if_neg (by omega), slid_get hA d j hj (by omega)]
      by_cases h2 : a ≤ j ∧ j < a + d
      · rw [if_pos h2, if_pos (by omega)]
      · rw [if_neg h2, if_neg (by omega)]
theorem FifoSt.drop {A : List Int} {fr a : Nat} (h : FifoSt A most fr L) (ha : a < L.length) : FifoSt (slid A fr a (L.length - 1)) most fr (L.eraseIdx a) := by
  have hf := h.fit
  have hm := h.most32
  have hl : (L.eraseIdx a).length = L.length - 1 := by rw [List.length_eraseIdx, if_pos ha]
  refine ⟨by rw [slid_len _ _ _ _ (by omega), h.len], hm, by omega, h.frl, fun k hk => ?_⟩
  rw [hl] at hk
  have := slid_get (fr := fr) (a := a) h.len (L.length - 1 - a) k (by omega) (by omega)
  rw [show a + (L.length - 1 - a) = L.length - 1 by omega] at this
  rw [this, List.getElem?_eraseIdx]
  by_cases h2 : k < a
  · rw [if_neg (by omega), if_pos h2, h.get k (by omega)]
  · rw [if_pos (by omega), if_neg h2, h.get (k + 1) (by omega)]
theorem erase_idx {k : Int} (hk : k ∈ L) : L.eraseIdx (L.idxOf k) = L.erase k := by
  exact (List.erase_eq_eraseIdx_of_idxOf rfl).symm
theorem place_any (p fr : Nat) (k : Int) (w : World) (hf : fr ≤ 64) (h0 : 0 ≤ k) (hk : k ≤ 64) (h32 : w.cell? ⟨p, 32, none⟩ = some (.int .i64 fr)) :
    Calls Try.prog 38 #[.pointer (some ⟨p, 0, none⟩), .int .i64 k] w fun e w' => e = .returned (.int .i64 (((fr : Int) + k) % 32)) ∧ w' = w := by
  go_enter Try.func38, Try.ntmps38
  go_wp2
  go_ret
  exact ⟨rfl, rfl⟩
theorem list_nil (w : World) : Calls Try.prog 32 #[.pointer none] w fun e w' => e = .returned (.slice none 0 0) ∧ Below w.heap.size w w' := by
  go_enter Try.func32, Try.ntmps32
  go_wp2_with (fail)
  refine bodyPost_ret (v := .slice none 0 0) (by simp [results, Try.f32, go_sem]) rfl ?_
  exact ⟨rfl, ((Below.refl _ w).alloc (Nat.le_refl _) _)⟩
end
end Go.Proofs.Ytmhnfcodppfaiaf.FifoCode
