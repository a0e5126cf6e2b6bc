
/- The document's scheduler: Next, Back, Leave, End. -/
import Derived.Test.YtghbcdpnngheoagRefSched
namespace Go.Proofs.Ytghbcdpnngheoag.RefSched
open Go Go.RowKit Go.Proofs.Ytghbcdpnngheoag.Obj Go.Proofs.Ytghbcdpnngheoag.FifoCode Go.Proofs.Ytghbcdpnngheoag.SchedCode Go.Proofs.Ytghbcdpnngheoag.Row Go.Proofs.YtghbcdpnngheoagW.PrintWords Go.Proofs.YtghbcdpnngheoagW.PrintMore
set_option maxRecDepth 100000
set_option linter.unusedVariables false
section
variable {w w' : World} {q : Nat} {s : Sc}
set_option maxHeartbeats 1000000 in
theorem rnext_some {x : Int} {r : List Int} (h : RefAt w q s) (hsL : s.L = x :: r) (hb : s.busy < 1000) : Calls Try.prog 44 #[.pointer (some ⟨q, 0, none⟩)] w fun e w' => e = .returned (.tuple #[.int .i64 x, .int .u8 1]) ∧ RefAt w' q { s with busy := s.busy + 1, L := r } ∧ Only (· = q) w w' := by
  have hL := h.ok.len
  have hm := h.ok.made
  have hm2 := h.ok.most32
  have hok := h.ok.next hb
  unfold Sc.next at hok
  rw [hsL] at hok hL
  have hrl : r.length ≤ 32 := by rw [List.length_cons] at hL; omega
  have hok1 : ({ s with L := r } : Sc).Ok := ⟨hok.most32, hok.made, hok.live, by show s.busy ≤ 1000; omega, hok.rng, hok.nodup⟩
  obtain ⟨c0, c2, c3, c4, _⟩ := h.cells
  have hH := hid h
  obtain ⟨⟨v, hbk, hown⟩, _⟩ := h
  rw [hsL] at hown
  have fin : ∀ w2 v2, Fresh w w2 (q + 1) 3 .i64 v2 r → RefAt ((w2.setCell ⟨q, 1, none⟩ v2).setCell ⟨q, 4, none⟩ (.int .i64 ((s.busy : Int) + 1))) q { s with busy := s.busy + 1, L := r } ∧ Only (· = q) w ((w2.setCell ⟨q, 1, none⟩ v2).setCell ⟨q, 4, none⟩ (.int .i64 ((s.busy : Int) + 1))) := fun w2 v2 hf => by
    obtain ⟨h1, o1⟩ := hH.out.of_fresh (t := { s with L := r }) hok1 (fun _ => rfl) hf
    exact ⟨h1.num 4 _ hok rfl (fun _ => rfl), o1.trans (setO _ _ _ _)⟩
  have finH := hid fin
  have hb1 : (s.busy : Int) ≤ 1000 := by omega
  clear fin hok hok1 hsL
  obtain ⟨A, c, rfl⟩ := own_form hown
  have hr := own_reads' hown
  rcases own_cases hown with ⟨_, h0, _⟩ | ⟨g, rfl, _, hgl, hnc⟩
  · simp at h0
  have c1 : w.cell? ⟨q, 1, none⟩ = some (.slice (some ⟨g, 0, none⟩) (r.length + 1) c) := hbk.cell 1
  have cg : w.cell? ⟨g, 0, none⟩ = some (.int .i64 x) := by
    obtain ⟨y, h1, h2⟩ := (own_nums hown).cell 0 (by simp)
    cases h1
    exact h2
  have hd := hr.drop_ 1 (by simp) hnc
  simp only [List.length_cons, Nat.add_sub_cancel, List.drop_succ_cons, List.drop_zero, Option.map_some, addr_add0] at hd hnc
  have hq1 : q + 1 ≤ w.heap.size := hbk.lt
  have hz := hbk.frozen
  have hc0 : 1 ≤ c := by omega
  have hr0 : (0 : Int) < (r.length : Int) + 1 := by omega
  clear hbk
  by_cases hc : c = 1
  · subst hc
    simp only [if_true] at hd
    obtain rfl : r = [] := List.length_eq_zero_iff.1 (by omega)
    go_enter Try.func44, Try.ntmps44
    go_wp2_with (fail)
    go_ret2
    exact ⟨rfl, finH.out _ _ (Fresh.nil _ _ _ _)⟩
  · simp only [if_neg hc] at hd
    go_enter Try.func44, Try.ntmps44
    go_wp2_with (first | ((with_reducible refine gate_builtin (b := .append) (xs := #[.const (Value.slice none 0 0), .tmp 22]) rfl ?_); at_builtin; go_loud (refine print_append_row (w0 := w) (q + 1) rfl (.const (Value.slice none 0 0)) (.tmp 22) 34 3 .i64 8 rfl Try.underlying34 info2 (by decide) (.slice none 0 0) [] r (some ⟨g, 1, none⟩) r.length (c - 1) rfl rfl (own_nil _ _ _ _) hd (Below.refl _ _) hq1 (by simp; omega) ?_); intro v1 w1 ho hb1 hg hat; simp only [List.nil_append] at ho; have hf1 := (Fresh.nil _ _ _ _).app ho hg hat; obtain ⟨A1, n1, c1', rfl⟩ := own_form3 ho; have e1 : w1.heap[q]? = w.heap[q]? := hb1.block q (Nat.lt_succ_self _); have d1 : w1.cell? ⟨q, 1, none⟩ = some (.slice (some ⟨g, 0, none⟩) (r.length + 1) c) := (by rw [← c1]; exact cell_same e1); have d4 : w1.cell? ⟨q, 4, none⟩ = some (.int .i64 s.busy) := (by rw [← c4]; exact cell_same e1); have z1 : ∀ i, w1.frozen? ⟨q, i, none⟩ = false := (fun i => by rw [← hz i]; exact frozen_same e1)))
    go_ret2
    exact ⟨rfl, finH.out _ _ hf1⟩
theorem rnext_at (h : RefAt w q s) (hb : s.busy < 1000) : Calls Try.prog 44 #[.pointer (some ⟨q, 0, none⟩)] w fun e w' => e = .returned (.tuple #[.int .i64 s.nextV, .int .u8 s.nextC]) ∧ RefAt w' q s.next ∧ Only (· = q) w w' := by
  unfold Sc.nextV Sc.nextC Sc.next
  cases hL : s.L with
  | cons x r => exact rnext_some h hL hb
  | nil =>
    obtain ⟨c0, c2, c3, c4, _⟩ := h.cells
    have hH := hid h
    obtain ⟨⟨v, hbk, hown⟩, _⟩ := h
    rw [hL] at hown
    obtain ⟨A, c, rfl⟩ := own_form hown
    have c1 : w.cell? ⟨q, 1, none⟩ = some (.slice A 0 c) := hbk.cell 1
    clear hbk hown hL
    simp only []
    by_cases h1 : 0 < s.busy
    · rw [if_pos h1]
      have h1' : (0 : Int) < (s.busy : Int) := by omega
      go_enter Try.func44, Try.ntmps44
      go_wp2
      go_ret2
      exact ⟨rfl, hH.out, Only.refl _ _⟩
    · rw [if_neg h1]
      have h1' : s.busy = 0 := by omega
      rw [h1'] at c4
      clear h1 h1' hb
      by_cases h2 : s.live = 0
      · rw [if_pos h2]
        rw [h2] at c3
        clear h2
        go_enter Try.func44, Try.ntmps44
        go_wp2
        go_ret2
        exact ⟨rfl, hH.out, Only.refl _ _⟩
      · rw [if_neg h2]
        have h2' : ((s.live : Int) == 0) = false := beq_eq_false_iff_ne.2 (by omega)
        clear h2
        go_enter Try.func44, Try.ntmps44
        go_wp2
        go_ret2
        exact ⟨rfl, hH.out, Only.refl _ _⟩
theorem rback_at (h : RefAt w q s) (t : Int) : Calls Try.prog 46 #[.pointer (some ⟨q, 0, none⟩), .int .i64 t] w fun e w' => e = .returned (.int .i64 (s.backC t)) ∧ RefAt w' q (s.back t) ∧ Only (· = q) w w' := by
  obtain ⟨c0, c2, c3, c4, hz⟩ := h.cells
  unfold Sc.backC Sc.back
  by_cases hb : s.busy = 0
  · rw [if_pos hb, if_pos hb]
    rw [hb] at c4
    have hH := hid h
    clear h hb
    go_enter Try.func46, Try.ntmps46
    go_wp2
    go_ret
    exact ⟨rfl, hH.out, Only.refl _ _⟩
  · rw [if_neg hb, if_neg hb]
    have hb' : ((s.busy : Int) == 0) = false := beq_eq_false_iff_ne.2 (by omega)
    have hP := rpush_at h t
    have hb2 : (s.busy : Int) ≤ 1000 := by have := h.ok.busy; omega
    have hb1 : (0 : Int) < (s.busy : Int) := by omega
    have hbk := h.ok.back t
    have hal := h.lt
    unfold Sc.back at hbk
    rw [if_neg hb] at hbk
    unfold Sc.push at hP
    by_cases hc : s.pushC t = 0
    · rw [if_pos hc, hc] at hP
      rw [if_pos hc] at hbk ⊢
      rw [hc]
      have hbkH := hid hbk
      clear h hc hbk
      go_enter Try.func46, Try.ntmps46
      go_wp2_with (fail)
      refine hP.mono ?_
      rintro e w2 ⟨rfl, hS, o⟩
      obtain ⟨d0, d2, d3, d4, z2⟩ := hS.cells
      have hSH := hid hS
      have hal2 := hS.lt
      clear hS c0 c2 c3 c4 hz
      go_wp2_with (fail)
      go_ret
      have hB := hSH.out.num 4 (.int .i64 ((s.busy - 1 : Nat) : Int)) hbkH.out rfl (fun _ => rfl)
      have e1 : (s.busy : Int) - 1 = ((s.busy - 1 : Nat) : Int) := by omega
      rw [e1]
      exact ⟨rfl, hB, o.trans (setO _ _ _ _)⟩
    · rw [if_neg hc] at hP hbk ⊢
      have hc' : (s.pushC t == 0) = false := beq_eq_false_iff_ne.2 hc
      generalize s.pushC t = cd at *
      clear h hc hbk
      go_enter Try.func46, Try.ntmps46
      go_wp2_with (fail)
      refine hP.mono ?_
      rintro e w2 ⟨rfl, hS, o⟩
      clear c0 c2 c3 c4 hz
      go_wp2_with (fail)
      go_ret
      exact ⟨rfl, hS, o⟩
theorem rleave_at (h : RefAt w q s) : Calls Try.prog 47 #[.pointer (some ⟨q, 0, none⟩)] w fun e w' => e = .returned (.int .i64 s.leaveC) ∧ RefAt w' q s.leave ∧ Only (· = q) w w' := by
  obtain ⟨c0, c2, c3, c4, hz⟩ := h.cells
  unfold Sc.leaveC
  by_cases hb : s.busy = 0
  · rw [if_pos hb, Sc.leave_zero hb]
    rw [hb] at c4
    have hH := hid h
    clear h hb
    go_enter Try.func47, Try.ntmps47
    go_wp2
    go_ret
    exact ⟨rfl, hH.out, Only.refl _ _⟩
  · rw [if_neg hb]
    have hb' : ((s.busy : Int) == 0) = false := beq_eq_false_iff_ne.2 (by omega)
    have hb1 : (0 : Int) < (s.busy : Int) := by omega
    have hb2 : (s.busy : Int) ≤ 1000 := by have := h.ok.busy; omega
    have hal := h.lt
    have hH := hid h
    have hb0 := hid hb
    clear h hb
    go_enter Try.func47, Try.ntmps47
    go_wp2
    go_ret
    have hB := hH.out.num 4 (.int .i64 ((s.busy - 1 : Nat) : Int)) hH.out.ok.leave rfl (fun _ => rfl)
    have e1 : (s.busy : Int) - 1 = ((s.busy - 1 : Nat) : Int) := by have := hb0.out; omega
    rw [e1]
    exact ⟨rfl, hB, setO _ _ _ _⟩
theorem rend_at (h : RefAt w q s) : Calls Try.prog 48 #[.pointer (some ⟨q, 0, none⟩)] w fun e w' => e = .returned (.int .i64 s.endC) ∧ RefAt w' q s.ended ∧ Only (· = q) w w' := by
  obtain ⟨c0, c2, c3, c4, hz⟩ := h.cells
  have hok := h.ok.ended
  unfold Sc.endC Sc.ended at *
  by_cases hb : s.busy = 0
  · rw [if_pos (.inl hb), if_pos (.inl hb)]
    rw [hb] at c4
    have hH := hid h
    clear h hb hok
    go_enter Try.func48, Try.ntmps48
    go_wp2
    go_ret
    exact ⟨rfl, hH.out, Only.refl _ _⟩
  · have hb' : ((s.busy : Int) == 0) = false := beq_eq_false_iff_ne.2 (by omega)
    by_cases hl : s.live = 0
    · rw [if_pos (.inr hl), if_pos (.inr hl)]
      rw [hl] at c3
      have hH := hid h
      clear h hb hl hok
      go_enter Try.func48, Try.ntmps48
      go_wp2
      go_ret
      exact ⟨rfl, hH.out, Only.refl _ _⟩
    · have hno : ¬ (s.busy = 0 ∨ s.live = 0) := fun h => h.elim hb hl
      have hl' : ((s.live : Int) == 0) = false := beq_eq_false_iff_ne.2 (by omega)
      rw [if_neg hno] at hok
      rw [if_neg hno, if_neg hno]
      have hb1 : (0 : Int) < (s.busy : Int) := by omega
      have hl1 : (0 : Int) < (s.live : Int) := by omega
      have hb2 : (s.busy : Int) ≤ 1000 := by have := h.ok.busy; omega
      have hl2 : (s.live : Int) ≤ 32 := by have := h.ok.live; have := h.ok.made; have := h.ok.most32; omega
      have hal := h.lt
      have hH := hid h
      have hb0 := hid hb
      have hl0 := hid hl
      have hokH := hid hok
      clear h hb hl hno hok
      go_enter Try.func48, Try.ntmps48
      go_wp2
      go_ret
      have hB := (hH.out.num 4 (.int .i64 ((s.busy - 1 : Nat) : Int)) hH.out.ok.leave rfl (fun _ => rfl)).num 3 (.int .i64 ((s.live - 1 : Nat) : Int)) hokH.out rfl (fun _ => rfl)
      have e1 : (s.busy : Int) - 1 = ((s.busy - 1 : Nat) : Int) := by have := hb0.out; omega
      have e2 : (s.live : Int) - 1 = ((s.live - 1 : Nat) : Int) := by have := hl0.out; omega
      rw [e1, e2]
      exact ⟨rfl, hB, (setO _ _ _ _).trans (setO _ _ _ _)⟩
end
end Go.Proofs.Ytghbcdpnngheoag.RefSched
