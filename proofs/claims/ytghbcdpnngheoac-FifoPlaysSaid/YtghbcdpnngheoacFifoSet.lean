/- The sets of tasks. -/
import Derived.Test.YtghbcdpnngheoacRefFifo
import Derived.Test.YtghbcdpnngheoacFifoCopy
namespace Go.Proofs.Ytghbcdpnngheoac.FifoSet
open Go Go.RowKit Go.Proofs.Ytghbcdpnngheoac.Obj Go.Proofs.Ytghbcdpnngheoac.FifoCode Go.Proofs.Ytghbcdpnngheoac.FifoTurns
set_option maxRecDepth 100000
set_option linter.unusedVariables false
/-- A task's bit; a row's. -/
def bit1 (k : Nat) : Int := IntKind.u64.wrap (2 ^ k)
def ored (s : Int) (k : Int) : Int := bits .or .u64 s (bit1 k.toNat)
def setL (L : List Int) : Int := L.foldl ored 0
theorem setL_snoc (L : List Int) (k : Int) : setL (L ++ [k]) = ored (setL L) k := by simp [setL]
theorem ret_u {a b : Int} (h : a = b) : Ending.returned (.int .u64 a) = .returned (.int .u64 b) := by rw [h]
theorem bit_at (k : Nat) (h : k < 32) (w : World) : Calls Try.prog 50 #[.int .i64 (k : Int)] w fun e w' => e = .returned (.int .u64 (bit1 k)) ∧ w' = w := by
  go_enter Try.func50, Try.ntmps50
  go_wp2
  go_ret
  exact ⟨rfl, rfl⟩
theorem of_at (A : Option Addr) (c : Nat) (L : List Int) (w : World) (hN : Nums w .i64 A L) (hT : Tasks L) : Calls Try.prog 49 #[.slice A L.length c] w fun e w' => e = .returned (.int .u64 (setL L)) ∧ w' = w := by
  have hL := hT.len
  go_enter Try.func49, Try.ntmps49
  go_wp2
  go_loopg [2, 7] L.length (fun kq v2 v7 w' => ∃ i : Nat, kq + i = L.length ∧ v7 = .int .i64 (i : Int) ∧ v2 = .int .u64 (setL (L.take i)) ∧ w' = w)
  case atStart => exact ⟨0, rfl, rfl, rfl, rfl⟩
  case round =>
    obtain ⟨i, hi, rfl, rfl, rfl⟩ := hrel
    cases gk with
    | zero =>
      have hin : ¬ ((i : Int) < (L.length : Int)) := by omega
      go_wp2
      go_ret
      exact ⟨ret_u (by rw [List.take_of_length_le (by omega)]), rfl⟩
    | succ m =>
      have hin : ((i : Int) < (L.length : Int)) := by omega
      obtain ⟨b, o, rfl, _, hc⟩ := hN.at i (by omega)
      obtain ⟨x, hx⟩ : ∃ x, L[i]? = some x := ⟨_, List.getElem?_eq_getElem (by omega)⟩
      rw [show L.getD i 0 = x by simp [List.getD, hx]] at hc
      obtain ⟨hx0, hx1⟩ := hT.rng x (List.mem_of_getElem? hx)
      have hS : setL (L.take (i + 1)) = ored (setL (L.take i)) x := by rw [List.take_add_one, hx]; exact setL_snoc _ _
      have hSH := hid hS
      obtain ⟨k, rfl⟩ : ∃ k : Nat, x = (k : Int) := ⟨x.toNat, by omega⟩
      clear hx hS
      go_wp2_with (go_at_call 50; refine (bit_at k (by omega) _).mono ?_; rintro e w' ⟨rfl, rfl⟩)
      go_roundg m
      case measure => omega
      case rel => exact ⟨i + 1, by omega, by go_num, by rw [hSH.out]; rfl, rfl⟩
theorem refset_at {w : World} {q most : Nat} {L : List Int} (h : RefFifo.RefAt w q most L) (hT : Tasks L) : Calls Try.prog 46 #[.pointer (some ⟨q, 0, none⟩)] w fun e w' => e = .returned (.int .u64 (setL L)) ∧ w' = w := by
  have hL := hT.len
  obtain ⟨v, hb, hown⟩ := h
  obtain ⟨A, c, rfl⟩ := own_form hown
  have c1 : w.cell? ⟨q, 1, none⟩ = some (.slice A L.length c) := hb.cell 1
  have hN : Nums w .i64 A L := own_nums hown
  clear hb hown
  go_enter Try.func46, Try.ntmps46
  go_wp2
  go_loopg [3, 4] L.length (fun kq v2 v7 w' => ∃ i : Nat, kq + i = L.length ∧ v7 = .int .i64 (i : Int) ∧ v2 = .int .u64 (setL (L.take i)) ∧ w' = w)
  case atStart => exact ⟨0, rfl, rfl, rfl, rfl⟩
  case round =>
    obtain ⟨i, hi, rfl, rfl, rfl⟩ := hrel
    cases gk with
    | zero =>
      have hin : ¬ ((i : Int) < (L.length : Int)) := by omega
      go_wp2
      go_ret
      exact ⟨ret_u (by rw [List.take_of_length_le (by omega)]), rfl⟩
    | succ m =>
      have hin : ((i : Int) < (L.length : Int)) := by omega
      obtain ⟨b, o, rfl, _, hc⟩ := hN.at i (by omega)
      obtain ⟨x, hx⟩ : ∃ x, L[i]? = some x := ⟨_, List.getElem?_eq_getElem (by omega)⟩
      rw [show L.getD i 0 = x by simp [List.getD, hx]] at hc
      obtain ⟨hx0, hx1⟩ := hT.rng x (List.mem_of_getElem? hx)
      have hS : setL (L.take (i + 1)) = ored (setL (L.take i)) x := by rw [List.take_add_one, hx]; exact setL_snoc _ _
      have hSH := hid hS
      obtain ⟨k, rfl⟩ : ∃ k : Nat, x = (k : Int) := ⟨x.toNat, by omega⟩
      clear hx hS
      go_wp2_with (go_quiet (fail))
      go_roundg m
      case measure => omega
      case rel => exact ⟨i + 1, by omega, by go_num, by rw [hSH.out]; rfl, rfl⟩
theorem set_at {w : World} {p most : Nat} {L : List Int} (h : FifoAt w p most L) (hT : Tasks L) : Calls Try.prog 44 #[.pointer (some ⟨p, 0, none⟩)] w fun e w' => e = .returned (.int .u64 (setL L)) ∧ Below w.heap.size w w' := by
  go_enter Try.func44, Try.ntmps44
  go_wp2_with (fail)
  refine (list_nums h).mono ?_
  rintro e w1 ⟨A, c, rfl, hN, hB⟩
  go_wp2_with (fail)
  refine (of_at A c L _ hN hT).mono ?_
  rintro e w2 ⟨rfl, rfl⟩
  go_wp2_with (fail)
  go_ret
  exact ⟨rfl, hB⟩
theorem set_nil (w : World) : Calls Try.prog 44 #[.pointer none] w fun e w' => e = .returned (.int .u64 0) ∧ Below w.heap.size w w' := by
  go_enter Try.func44, Try.ntmps44
  go_wp2_with (fail)
  refine (list_nil _).mono ?_
  rintro e w1 ⟨rfl, hB⟩
  go_wp2_with (fail)
  refine (of_at none 0 [] _ (Nums.nil _ _ _) Tasks.nil).mono ?_
  rintro e w2 ⟨rfl, rfl⟩
  go_wp2_with (fail)
  go_ret
  exact ⟨rfl, hB⟩
theorem at_nil (k : Int) (w : World) : Calls Try.prog 28 #[.pointer none, .int .i64 k] w fun e w' => e = .returned (.int .i64 (-1)) ∧ Below w.heap.size w w' := by
  go_enter Try.func28, Try.ntmps28
  go_wp2_with (fail)
  go_step3
  go_wp2_with (fail)
  rw [Exit.noGoto_ret]
  go_ret
  exact ⟨rfl, ((Below.refl _ w).alloc (Nat.le_refl _) _).alloc (by simp) _⟩
theorem has_nil (k : Int) (w : World) : Calls Try.prog 30 #[.pointer none, .int .i64 k] w fun e w' => e = .returned (.bool false) ∧ Below w.heap.size w w' := by
  go_enter Try.func30, Try.ntmps30
  go_wp2_with (fail)
  refine (at_nil k _).mono ?_
  rintro e w1 ⟨rfl, hB⟩
  go_wp2_with (fail)
  go_ret
  exact ⟨rfl, hB⟩
set_option maxHeartbeats 2000000 in
theorem nothing_at (w : World) : Calls Try.prog 33 #[] w fun e w' => e = .returned (.bool true) ∧ Below w.heap.size w w' := by
  go_enter Try.func33, Try.ntmps33
  go_wp2_with (first | (go_at_call 29; (refine (pop_nil _).mono ?_); rintro e w1 ⟨rfl, rfl⟩) | (go_at_call 43; (refine (front_nil _).mono ?_); rintro e w1 ⟨rfl, rfl⟩) | (go_at_call 25; (refine (push_nil 1 _).mono ?_); rintro e w1 ⟨rfl, rfl⟩) | (go_at_call 32; (refine (drop_nil 1 _).mono ?_); rintro e w1 ⟨rfl, rfl⟩) | (go_at_call 30; (refine (has_nil 1 _).mono ?_); rintro e w1 ⟨rfl, hB1⟩) | (go_at_call 28; (refine (at_nil 1 _).mono ?_); rintro e w2 ⟨rfl, hB2⟩) | (go_at_call 26; (refine (len_nil _).mono ?_); rintro e w3 ⟨rfl, rfl⟩) | (go_at_call 27; (refine (list_nil _).mono ?_); rintro e w4 ⟨rfl, hB4⟩) | (go_at_call 44; (refine (set_nil _).mono ?_); rintro e w5 ⟨rfl, hB5⟩) | (go_at_call 37; (refine (copy_nil _).mono ?_); rintro e w6 ⟨rfl, rfl⟩))
  go_ret
  exact ⟨rfl, ((hB1.trans (hB2.mono hB1.size)).trans (hB4.mono (Nat.le_trans hB1.size hB2.size))).trans (hB5.mono (Nat.le_trans (Nat.le_trans hB1.size hB2.size) hB4.size))⟩
/-- The row and the document's, the same; told of a world, and of all that are made of it. -/
structure Both (w : World) (p q most : Nat) (L : List Int) : Prop where
  f : FifoAt w p most L
  r : RefFifo.RefAt w q most L
  t : Tasks L
section
variable {w W : World} {p q most : Nat} {L : List Int}
theorem at_b (h : Both w p q most L) (hb : Below w.heap.size w W) (k : Int) : Calls Try.prog 28 #[.pointer (some ⟨p, 0, none⟩), .int .i64 k] W fun e w' => e = .returned (.int .i64 (at_ L k)) ∧ Below w.heap.size w w' :=
  (at_at (h.f.same (hb.block _ h.f.lt)) k).mono fun e w' ⟨h1, h2⟩ => ⟨h1, hb.trans (h2.mono hb.size)⟩
theorem has_b (h : Both w p q most L) (hb : Below w.heap.size w W) (k : Int) : Calls Try.prog 30 #[.pointer (some ⟨p, 0, none⟩), .int .i64 k] W fun e w' => e = .returned (.bool (decide (0 ≤ at_ L k))) ∧ Below w.heap.size w w' :=
  (has_at (h.f.same (hb.block _ h.f.lt)) k).mono fun e w' ⟨h1, h2⟩ => ⟨by rw [h1]; congr 2; exact decide_eq_decide.2 at_nn.symm, hb.trans (h2.mono hb.size)⟩
theorem refat_b (h : Both w p q most L) (hb : Below w.heap.size w W) (k : Int) : Calls Try.prog 45 #[.pointer (some ⟨q, 0, none⟩), .int .i64 k] W fun e w' => e = .returned (.int .i64 (at_ L k)) ∧ w' = W :=
  RefFifo.at_at (h.r.below hb) k (by have := h.t.len; omega)
theorem len_b (h : Both w p q most L) (hb : Below w.heap.size w W) : Calls Try.prog 26 #[.pointer (some ⟨p,0,none⟩)] W fun e w' => e = .returned (.int .i64 L.length) ∧ w' = W :=
  len_at (h.f.same (hb.block _ h.f.lt))
theorem list_b (h : Both w p q most L) (hb : Below w.heap.size w W) : Calls Try.prog 27 #[.pointer (some ⟨p, 0, none⟩)] W fun e w' => ∃ A c, e = .returned (.slice A L.length c) ∧ Nums w' .i64 A L ∧ Below w.heap.size w w' :=
  (list_nums (h.f.same (hb.block _ h.f.lt))).mono fun e w' ⟨A, c, h1, h2, h3⟩ => ⟨A, c, h1, h2, hb.trans (h3.mono hb.size)⟩
theorem set_b (h : Both w p q most L) (hb : Below w.heap.size w W) : Calls Try.prog 44 #[.pointer (some ⟨p, 0, none⟩)] W fun e w' => e = .returned (.int .u64 (setL L)) ∧ Below w.heap.size w w' :=
  (set_at (h.f.same (hb.block _ h.f.lt)) h.t).mono fun e w' ⟨h1, h2⟩ => ⟨h1, hb.trans (h2.mono hb.size)⟩
theorem refset_b (h : Both w p q most L) (hb : Below w.heap.size w W) : Calls Try.prog 46 #[.pointer (some ⟨q, 0, none⟩)] W fun e w' => e = .returned (.int .u64 (setL L)) ∧ w' = W :=
  refset_at (h.r.below hb) h.t
theorem same_b {A A2 : Option Addr} {c c2 : Nat} (hb : Below w.heap.size w W) (h1 : Nums W .i64 A L) (h2 : Nums W .i64 A2 L) (hL : L.length ≤ 32) : Calls Try.prog 31 #[.slice A L.length c, .slice A2 L.length c2] W fun e w' => e = .returned (.bool true) ∧ Below w.heap.size w w' :=
  (Same08.same_eq A A2 c c2 L W h1 h2 (by omega)).mono fun e w' ⟨h1, n, h2⟩ => ⟨h1, by rw [h2]; exact below_drewN hb n⟩
theorem front_b {x : Int} {r : List Int} (h : Both w p q most (x :: r)) (hb : Below w.heap.size w W) : Calls Try.prog 43 #[.pointer (some ⟨p,0,none⟩)] W fun e w' => e = .returned (.tuple #[.int .i64 x, .bool true]) ∧ Below w.heap.size w w' :=
  (front_at (h.f.same (hb.block _ h.f.lt))).mono fun e w' ⟨h1, n, h2⟩ => ⟨h1, by rw [h2]; exact below_drewN hb n⟩
theorem below_drew {B : Nat} {a w : World} (h : Below B a w) : Below B a w.drew := ⟨h.os, h.tape, h.output, h.size, h.block⟩
set_option maxHeartbeats 8000000 in
theorem same_nil (h : Both w p q most []) (k : Int) : Calls Try.prog 38 #[.pointer (some ⟨p, 0, none⟩), .pointer (some ⟨q, 0, none⟩), .int .i64 k] w fun e w' => e = .returned (.bool true) ∧ Below w.heap.size w w' := by
  obtain ⟨v, hb, hown⟩ := h.r
  obtain ⟨A, c, rfl⟩ := own_form hown
  have hq := hb.lt
  have c1 : w.cell? ⟨q, 1, none⟩ = some (.slice A 0 c) := hb.cell 1
  have hN : Nums w .i64 A [] := own_nums hown
  clear hb hown
  have hB0 : Below w.heap.size w w.drew := below_drew (Below.refl _ _)
  have hcell : ∀ W, Below w.heap.size w W → W.cell? ⟨q, 1, none⟩ = some (.slice A ([] : List Int).length c) := fun W hb => by rw [List.length_nil, ← c1]; exact hb.cell (p := ⟨_, _, none⟩) hq
  have hcH := hid hcell
  have hNs : ∀ W, Below w.heap.size w W → Nums W .i64 A [] := fun W hb => hN.below hb
  have hNH := hid hNs
  clear hcell hNs hN
  have hL32 := hid (show ([] : List Int).length ≤ 32 by simp)
  have hH := hid h
  have hf := front_none h.f
  have hfH := hid hf
  clear h hf
  go_enter Try.func38, Try.ntmps38
  go_wp2_with (fail)
  refine hfH.out.mono ?_
  rintro e w1 ⟨rfl, rfl⟩
  go_wp2_with (fail)
  generalize hLL : ([] : List Int) = L at *
  generalize at_ L k = z at *
  generalize setL L = sl at *
  clear hLL
  clear c1
  go_region_held3 (fun w' : World => w'.cell? ⟨q, 1, none⟩ = some (.slice A L.length c)) (first | assumption | exact hcH.out _ (by assumption)) (first | (go_at_call 28; refine (at_b hH.out (by assumption) k).mono ?_; rintro e wA ⟨rfl, hbA⟩; have hcA := hcH.out _ hbA) | (go_at_call 45; refine (refat_b hH.out (by assumption) k).mono ?_; rintro e wB ⟨rfl, rfl⟩) | (go_at_call 30; refine (has_b hH.out (by assumption) k).mono ?_; rintro e wC ⟨rfl, hbC⟩; have hcC := hcH.out _ hbC) | (go_at_call 26; refine (len_b hH.out (by assumption)).mono ?_; rintro e wD ⟨rfl, rfl⟩) | (go_at_call 27; refine (list_b hH.out (by assumption)).mono ?_; rintro e wE ⟨AE, cE, rfl, hNE, hbE⟩; have hcE := hcH.out _ hbE) | (go_at_call 31; refine (same_b (by assumption) hNE (hNH.out _ (by assumption)) hL32.out).mono ?_; rintro e wF ⟨rfl, hbF⟩; have hcF := hcH.out _ hbF) | (go_at_call 44; refine (set_b hH.out (by assumption)).mono ?_; rintro e wG ⟨rfl, hbG⟩; have hcG := hcH.out _ hbG) | (go_at_call 46; refine (refset_b hH.out (by assumption)).mono ?_; rintro e wI ⟨rfl, rfl⟩))
  go_wp2_with (fail)
  go_ret
  exact ⟨rfl, hbG⟩
set_option maxHeartbeats 8000000 in
theorem same_cons {x : Int} {r : List Int} (h : Both w p q most (x :: r)) (k : Int) : Calls Try.prog 38 #[.pointer (some ⟨p, 0, none⟩), .pointer (some ⟨q, 0, none⟩), .int .i64 k] w fun e w' => e = .returned (.bool true) ∧ Below w.heap.size w w' := by
  obtain ⟨v, hb, hown⟩ := h.r
  obtain ⟨A, c, rfl⟩ := own_form hown
  have hq := hb.lt
  have c1 : w.cell? ⟨q, 1, none⟩ = some (.slice A (r.length + 1) c) := hb.cell 1
  have hN : Nums w .i64 A (x :: r) := own_nums hown
  clear hb hown
  have hcell : ∀ W, Below w.heap.size w W → W.cell? ⟨q, 1, none⟩ = some (.slice A (x :: r).length c) := fun W hb => by rw [List.length_cons, ← c1]; exact hb.cell (p := ⟨_, _, none⟩) hq
  have hcH := hid hcell
  have hNs : ∀ W, Below w.heap.size w W → Nums W .i64 A (x :: r) := fun W hb => hN.below hb
  have hNH := hid hNs
  have hL32 := hid (show (x :: r).length ≤ 32 from h.t.len)
  have hH := hid h
  have hf := front_b h (Below.refl _ _)
  have hfH := hid hf
  clear h hf hcell hNs hN
  go_enter Try.func38, Try.ntmps38
  go_wp2_with (fail)
  refine hfH.out.mono ?_
  rintro e w1 ⟨rfl, hb1⟩
  have hB0 : Below w.heap.size w w1.drew := below_drew hb1
  have hc1 := hcH.out _ hb1
  obtain ⟨g, o, rfl, hg, hc0⟩ := (hNH.out _ hb1).at 0 (by simp)
  simp only [List.getD_cons_zero, Nat.add_zero] at hc0
  have hr0 : (0 : Int) < (r.length : Int) + 1 := by omega
  rw [List.length_cons] at hc1
  go_wp2_with (fail)
  have hlen : (r.length + 1) = (x :: r).length := rfl
  rw [hlen]
  generalize hLL : (x :: r) = L at *
  generalize at_ L k = z at *
  generalize setL L = sl at *
  generalize hA : (some ⟨g, o, none⟩ : Option Addr) = A at *
  clear hLL hA hlen hr0 hc0
  clear c1 hc1
  go_region_held3 (fun w' : World => w'.cell? ⟨q, 1, none⟩ = some (.slice A L.length c)) (first | assumption | exact hcH.out _ (by assumption)) (first | (go_at_call 28; refine (at_b hH.out (by assumption) k).mono ?_; rintro e wA ⟨rfl, hbA⟩; have hcA := hcH.out _ hbA) | (go_at_call 45; refine (refat_b hH.out (by assumption) k).mono ?_; rintro e wB ⟨rfl, rfl⟩) | (go_at_call 30; refine (has_b hH.out (by assumption) k).mono ?_; rintro e wC ⟨rfl, hbC⟩; have hcC := hcH.out _ hbC) | (go_at_call 26; refine (len_b hH.out (by assumption)).mono ?_; rintro e wD ⟨rfl, rfl⟩) | (go_at_call 27; refine (list_b hH.out (by assumption)).mono ?_; rintro e wE ⟨AE, cE, rfl, hNE, hbE⟩; have hcE := hcH.out _ hbE) | (go_at_call 31; refine (same_b (by assumption) hNE (hNH.out _ (by assumption)) hL32.out).mono ?_; rintro e wF ⟨rfl, hbF⟩; have hcF := hcH.out _ hbF) | (go_at_call 44; refine (set_b hH.out (by assumption)).mono ?_; rintro e wG ⟨rfl, hbG⟩; have hcG := hcH.out _ hbG) | (go_at_call 46; refine (refset_b hH.out (by assumption)).mono ?_; rintro e wI ⟨rfl, rfl⟩))
  go_wp2_with (fail)
  go_ret
  exact ⟨rfl, hbG⟩
theorem same_at (h : Both w p q most L) (k : Int) : Calls Try.prog 38 #[.pointer (some ⟨p, 0, none⟩), .pointer (some ⟨q, 0, none⟩), .int .i64 k] w fun e w' => e = .returned (.bool true) ∧ Below w.heap.size w w' := by
  cases L with
  | nil => exact same_nil h k
  | cons x r => exact same_cons h k
end
end Go.Proofs.Ytghbcdpnngheoac.FifoSet
