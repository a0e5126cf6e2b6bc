
/- The document's ring: a block of two cells, and a row of its own. -/
import Derived.Test.YtmhnfcodppfaiacRingList
namespace Go.Proofs.Ytmhnfcodppfaiac.RefRing
open Go Go.RowKit Go.Proofs.Ytmhnfcodppfaiac.Obj Go.Proofs.Ytmhnfcodppfaiac.RingCode Go.Proofs.YtmhnfcodppfaiacW.PrintWords Go.Proofs.YtmhnfcodppfaiacW.PrintMore
set_option maxRecDepth 100000
set_option linter.unusedVariables false
structure RefAt (w : World) (q most : Nat) (L : List Int) : Prop where
  row : ∃ v, Blk w q 71 [.int .i64 most, v] ∧ w.ownsRow (q + 1) 2 1 v L.length (nums .i64 L)
set_option maxHeartbeats 1000000 in
theorem put_at {w : World} {q most : Nat} {L : List Int} (h : RefAt w q most L) (hl : L.length < most) (hm : L.length ≤ 1000) (hm8 : most ≤ 8) (x : Int) :
    Calls Try.prog 42 #[.pointer (some ⟨q,0,none⟩), .int .i64 x] w fun e w' => e = .returned (.int .i64 0) ∧ RefAt w' q most (L ++ [x]) ∧ Only (· = q) w w' := by
  obtain ⟨v, hb, hown⟩ := h
  obtain ⟨A, c, rfl⟩ := own_form hown
  have c0 : w.cell? ⟨q, 0, none⟩ = some (.int .i64 most) := hb.cell 0
  have c1 : w.cell? ⟨q, 1, none⟩ = some (.slice A L.length c) := hb.cell 1
  have hq := hb.lt
  have hN : Nums w .i64 A L := own_nums hown
  have hlt : ¬ ((most : Int) ≤ (L.length : Int)) := by omega
  go_enter Try.func42, Try.ntmps42
  have hr := ReadsInt.drewN (own_reads' hown)
  have hq1 : q + 1 ≤ w.heap.size := hq
  have hz := hb.frozen
  go_wp2_with (first | go_quiet (fail) | ((with_reducible refine gate_builtin (b := .append) (xs := #[.const (Value.slice none 0 0), .tmp 19]) rfl ?_); at_builtin; go_loud (refine print_append_row (w0 := w) (q + 1) rfl (.const (Value.slice none 0 0)) (.tmp 19) 38 2 .i64 8 rfl Try.underlying38 info2 (by decide) (.slice none 0 0) [] L A L.length c rfl rfl (own_nil _ _ _ _) (hr _) ⟨rfl, rfl, rfl, Nat.le_refl _, fun _ _ => rfl⟩ hq1 (by simp; omega) ?_); intro v1 w1 ho hb1 hg hat; simp only [List.nil_append] at ho; obtain ⟨A1, c1', rfl⟩ := own_form ho; have hq2 : q + 1 ≤ w1.heap.size := Nat.le_trans hq1 hb1.size; have d1 : w1.cell? ⟨q, 1, none⟩ = some (.slice A L.length c) := (by rw [← c1]; exact cell_same (hb1.block q (Nat.lt_succ_self _))); have z1 : ∀ i, w1.frozen? ⟨q, i, none⟩ = false := (fun i => by rw [← hz i]; exact frozen_same (hb1.block q (Nat.lt_succ_self _)))) | ((with_reducible refine gate_builtin (b := .append) (xs := #[.tmp 20, .tmp 22]) rfl ?_); at_builtin; go_loud (refine print_append_cells (w0 := w1) (q + 1) rfl (.tmp 20) (.tmp 22) 38 2 (.int .i64 0) 1 8 rfl Try.underlying38 info2 rfl (by decide) (by decide) (.slice A1 L.length c1') L.length (nums .i64 L) [.int .i64 x] rfl rfl rfl (by simp [Value.oneCell']) ho (Below.refl _ _) hq2 (by omega) ?_); intro v2 w2 ho2 hb2 hg2 hat2; obtain ⟨A2, c2', rfl⟩ := own_form ho2; have d2 : w2.cell? ⟨q, 1, none⟩ = some (.slice A L.length c) := (by rw [← d1]; exact cell_same (hb2.block q (Nat.lt_succ_self _))); have z2 : ∀ i, w2.frozen? ⟨q, i, none⟩ = false := (fun i => by rw [← z1 i]; exact frozen_same (hb2.block q (Nat.lt_succ_self _)))))
  go_ret
  have e1 : w2.heap[q]? = w.heap[q]? := (hb2.block q (Nat.lt_succ_self _)).trans (hb1.block q (Nat.lt_succ_self _))
  have o0 : Only (· = q) w w1 := ⟨hb1.os, hb1.tape, hb1.output, hb1.size, fun k hk _ => (Only.of_grown hg).block k hk (fun e => by cases e)⟩
  have o1 : Only (· = q) w w2 := o0.trans' (Only.of_grown hg2) (fun k hk e => by
    rcases hat with hat | ⟨b, hb', hl'⟩
    · rw [hat] at e; cases e
    · rw [hb'] at e
      obtain rfl := Option.some.inj e
      exact absurd hk (Nat.not_lt.2 hl'))
  refine ⟨rfl, ⟨_, (hb.same e1).set 1 _, ?_⟩, o1.trans (Only.setCell _ _ _ rfl)⟩
  have := own_only ho2 (Only.setCell (S := (· = q)) w2 ⟨q, 1, none⟩ (.slice A2 (L.length + 1) c2') rfl) (fun k hk e => by have := own_block_ge ho2 hk; omega)
  simpa [nums] using this
theorem put_full_at {w : World} {q most : Nat} {L : List Int} (h : RefAt w q most L) (hl : L.length = most) (x : Int) :
    Calls Try.prog 42 #[.pointer (some ⟨q,0,none⟩), .int .i64 x] w fun e w' => e = .returned (.int .i64 4) ∧ ∃ n, w' = w.drewN n := by
  obtain ⟨v, hb, hown⟩ := h
  obtain ⟨A, c, rfl⟩ := own_form hown
  have c0 : w.cell? ⟨q, 0, none⟩ = some (.int .i64 most) := hb.cell 0
  have c1 : w.cell? ⟨q, 1, none⟩ = some (.slice A L.length c) := hb.cell 1
  rw [hl] at c1
  clear hl
  go_enter Try.func42, Try.ntmps42
  go_wp2_with (go_quiet (fail))
  go_ret
  exact ⟨rfl, _, rfl⟩
theorem take_none_at {w : World} {q most : Nat} (h : RefAt w q most []) :
    Calls Try.prog 43 #[.pointer (some ⟨q,0,none⟩)] w fun e w' => e = .returned (.tuple #[.int .i64 0, .int .i64 3]) ∧ w' = w := by
  obtain ⟨v, hb, hown⟩ := h
  obtain ⟨A, c, rfl⟩ := own_form hown
  have c1 : w.cell? ⟨q, 1, none⟩ = some (.slice A 0 c) := hb.cell 1
  go_enter Try.func43, Try.ntmps43
  go_wp2_with (fail)
  go_ret2
  exact ⟨rfl, rfl⟩
set_option maxHeartbeats 1000000 in
theorem take_at {w : World} {q most : Nat} {x : Int} {r : List Int} (h : RefAt w q most (x :: r)) (hm : r.length ≤ 1000) :
    Calls Try.prog 43 #[.pointer (some ⟨q,0,none⟩)] w fun e w' => e = .returned (.tuple #[.int .i64 x, .int .i64 0]) ∧ RefAt w' q most r ∧ Only (· = q) w w' := by
  obtain ⟨v, hb, hown⟩ := h
  obtain ⟨A, c, rfl⟩ := own_form hown
  have hr := own_reads' hown
  rcases own_cases hown with ⟨_, h0, _⟩ | ⟨g, rfl, _, hgl, hnc⟩
  · simp at h0
  have c1 : w.cell? ⟨q, 1, none⟩ = some (.slice (some ⟨g, 0, none⟩) (r.length + 1) c) := hb.cell 1
  have cg : w.cell? ⟨g, 0, none⟩ = some (.int .i64 x) := by
    obtain ⟨y, h1, h2⟩ := (own_nums hown).cell 0 (by simp)
    cases h1
    exact h2
  have hd := hr.drop_ 1 (by simp) hnc
  simp only [List.length_cons, Nat.add_sub_cancel, List.drop_succ_cons, List.drop_zero, Option.map_some, addr_add0] at hd hnc
  have hq := hb.lt
  have hq1 : q + 1 ≤ w.heap.size := hq
  have hz := hb.frozen
  have hc0 : 1 ≤ c := by omega
  have hn0 : ((r.length : Int) + 1 == 0) = false := beq_eq_false_iff_ne.2 (by omega)
  by_cases hc : c = 1
  · subst hc
    simp only [if_true] at hd
    go_enter Try.func43, Try.ntmps43
    obtain rfl : r = [] := List.length_eq_zero_iff.1 (by omega)
    go_wp2_with (fail)
    go_ret2
    exact ⟨rfl, ⟨_, hb.set 1 _, own_nil _ _ _ _⟩, Only.setCell _ _ _ rfl⟩
  · simp only [if_neg hc] at hd
    go_enter Try.func43, Try.ntmps43
    go_wp2_with (first | ((with_reducible refine gate_builtin (b := .append) (xs := #[.const (Value.slice none 0 0), .tmp 22]) rfl ?_); at_builtin; go_loud (refine print_append_row (w0 := w) (q + 1) rfl (.const (Value.slice none 0 0)) (.tmp 22) 38 2 .i64 8 rfl Try.underlying38 info2 (by decide) (.slice none 0 0) [] r (some ⟨g, 1, none⟩) r.length (c - 1) rfl rfl (own_nil _ _ _ _) hd ⟨rfl, rfl, rfl, Nat.le_refl _, fun _ _ => rfl⟩ hq1 (by simp; omega) ?_); intro v1 w1 ho hb1 hg hat; simp only [List.nil_append] at ho; obtain ⟨A1, c1', rfl⟩ := own_form ho; have d1 : w1.cell? ⟨q, 1, none⟩ = some (.slice (some ⟨g, 0, none⟩) (r.length + 1) c) := (by rw [← c1]; exact cell_same (hb1.block q (Nat.lt_succ_self _))); have z1 : ∀ i, w1.frozen? ⟨q, i, none⟩ = false := (fun i => by rw [← hz i]; exact frozen_same (hb1.block q (Nat.lt_succ_self _)))))
    go_ret2
    have e1 : w1.heap[q]? = w.heap[q]? := hb1.block q (Nat.lt_succ_self _)
    have o0 : Only (· = q) w w1 := ⟨hb1.os, hb1.tape, hb1.output, hb1.size, fun k hk _ => (Only.of_grown hg).block k hk (fun e => by cases e)⟩
    exact ⟨rfl, ⟨_, (hb.same e1).set 1 _, own_only ho (Only.setCell (S := (· = q)) w1 ⟨q, 1, none⟩ (.slice A1 r.length c1') rfl) (fun k hk e => by have := own_block_ge ho hk; omega)⟩, o0.trans (Only.setCell _ _ _ rfl)⟩
theorem RefAt.drewN {w : World} {q most : Nat} {L : List Int} (h : RefAt w q most L) (n : Nat) : RefAt (w.drewN n) q most L := by
  obtain ⟨v, h1, h2⟩ := h; exact ⟨v, h1, h2⟩
theorem RefAt.drew {w : World} {q most : Nat} {L : List Int} (h : RefAt w q most L) : RefAt w.drew q most L := h.drewN 1
theorem RefAt.lt {w : World} {q most : Nat} {L : List Int} (h : RefAt w q most L) : q < w.heap.size := by obtain ⟨v, h1, _⟩ := h; exact h1.lt
theorem RefAt.only {w w' : World} {q most : Nat} {L : List Int} {S : Nat → Prop} (h : RefAt w q most L) (o : Only S w w') (hs : ∀ k, q ≤ k → k < w.heap.size → ¬ S k) : RefAt w' q most L := by
  obtain ⟨v, h1, h2⟩ := h
  exact ⟨v, h1.only o (hs q (Nat.le_refl _) h1.lt), own_only h2 o (fun k hk => hs k (by have := (own_block_ge h2 hk).1; omega) (own_block_ge h2 hk).2)⟩
theorem swap_none_at {w : World} {q most : Nat} {L : List Int} (h : RefAt w q most L) (hl : L = [] ∨ L.length < most) (x : Int) :
    Calls Try.prog 44 #[.pointer (some ⟨q,0,none⟩), .int .i64 x] w fun e w' => e = .returned (.tuple #[.int .i64 0, .int .i64 3]) ∧ ∃ n, w' = w.drewN n := by
  obtain ⟨v, hb, hown⟩ := h
  obtain ⟨A, c, rfl⟩ := own_form hown
  have c0 : w.cell? ⟨q, 0, none⟩ = some (.int .i64 most) := hb.cell 0
  have c1 : w.cell? ⟨q, 1, none⟩ = some (.slice A L.length c) := hb.cell 1
  by_cases h0 : L = []
  · subst h0
    have c1' : w.cell? ⟨q, 1, none⟩ = some (.slice A 0 c) := c1
    clear c1 hl
    go_enter Try.func44, Try.ntmps44
    go_wp2_with (go_quiet (fail))
    go_ret2
    exact ⟨rfl, _, rfl⟩
  · have hlt : (L.length : Int) < most := by
      rcases hl with h | h
      · exact absurd h h0
      · omega
    have hn0 : ((L.length : Int) == 0) = false := beq_eq_false_iff_ne.2 (by have := List.length_pos_iff.2 h0; omega)
    have hn1 : decide (L.length < most) = true := decide_eq_true (by omega)
    generalize L.length = m at *
    clear hl h0 hb hown
    go_enter Try.func44, Try.ntmps44
    go_wp2_with (go_quiet (fail))
    go_ret2
    exact ⟨rfl, _, rfl⟩
theorem swap_at {w : World} {q most : Nat} {y : Int} {r : List Int} (h : RefAt w q most (y :: r)) (hl : (y :: r).length = most) (hm8 : most ≤ 8) (x : Int) :
    Calls Try.prog 44 #[.pointer (some ⟨q,0,none⟩), .int .i64 x] w fun e w' => e = .returned (.tuple #[.int .i64 y, .int .i64 0]) ∧ RefAt w' q most (r ++ [x]) ∧ Only (· = q) w w' := by
  have h' := h
  obtain ⟨v, hb, hown⟩ := h
  obtain ⟨A, c, rfl⟩ := own_form hown
  have c0 : w.cell? ⟨q, 0, none⟩ = some (.int .i64 most) := hb.cell 0
  have c1 : w.cell? ⟨q, 1, none⟩ = some (.slice A (y :: r).length c) := hb.cell 1
  rw [hl] at c1
  have hr : r.length < most := by simp at hl; omega
  have hr2 := hid (show r.length ≤ 1000 by omega)
  have hn0 : ((most : Int) == 0) = false := beq_eq_false_iff_ne.2 (by omega)
  have hn1 : ¬ ((most : Int) < most) := by omega
  clear hl hb hown
  go_enter Try.func44, Try.ntmps44
  go_wp2_with (go_quiet (fail))
  refine (take_at (h'.drewN nq) hr2.out).mono ?_
  rintro e w1 ⟨rfl, k1, o1⟩
  have o1' : Only (· = q) w w1 := ⟨o1.os, o1.tape, o1.output, o1.size, o1.block⟩
  clear c0 c1 h' o1
  go_wp2_with (fail)
  refine (put_at k1 hr hr2.out hm8 x).mono ?_
  rintro e w2 ⟨rfl, k2, o2⟩
  have o2' := o1'.trans o2
  clear k1 o1' o2
  go_wp2_with (fail)
  go_ret2
  exact ⟨rfl, k2, o2'⟩
end Go.Proofs.Ytmhnfcodppfaiac.RefRing
