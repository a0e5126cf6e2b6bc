
/- Push, Back, Leave, End, Copy of a scheduler; what no scheduler answers; the chapter's example. -/
import Derived.Test.YtmhnfcodppfaiafSched
namespace Go.Proofs.Ytmhnfcodppfaiaf.SchedCode
open Go Go.RowKit Go.Proofs.Ytmhnfcodppfaiaf.Obj Go.Proofs.Ytmhnfcodppfaiaf.FifoCode
set_option maxRecDepth 100000
set_option linter.unusedVariables false
section
variable {w w' : World} {a p : Nat} {s : Sc}
theorem spush_arg (h : SchedAt w a p s) {t : Int} (ht : t < 0 ∨ t ≥ s.made) : Calls Try.prog 14 #[.pointer (some ⟨a, 0, none⟩), .int .i64 t] w fun e w' => e = .returned (.int .i64 2) ∧ w' = w := by
  obtain ⟨c0, c1, c2, c3, c4⟩ := h.cells
  clear h
  by_cases h0 : t < 0
  · go_enter Try.func14, Try.ntmps14
    go_wp2
    go_ret
    exact ⟨rfl, rfl⟩
  · have h1 : (s.made : Int) ≤ t := by omega
    clear ht
    go_enter Try.func14, Try.ntmps14
    go_wp2
    go_ret
    exact ⟨rfl, rfl⟩
theorem spush_have (h : SchedAt w a p s) {t : Int} (h0 : 0 ≤ t) (h1 : t < s.made) (ht : t ∈ s.L) : Calls Try.prog 14 #[.pointer (some ⟨a, 0, none⟩), .int .i64 t] w fun e w' => e = .returned (.int .i64 9) ∧ Below w.heap.size w w' := by
  obtain ⟨c0, c1, c2, c3, c4⟩ := h.cells
  have hm := h.ok.most32
  have hm2 := h.ok.made
  have hP := push_have h.row h0 (by omega) ht
  clear h ht
  go_enter Try.func14, Try.ntmps14
  go_wp2_with (fail)
  refine hP.mono ?_
  rintro e w2 ⟨rfl, hB⟩
  go_wp2_with (fail)
  go_ret
  exact ⟨rfl, hB⟩
theorem spush_some (h : SchedAt w a p s) {t : Int} (hc : s.pushC t = 0) : Calls Try.prog 14 #[.pointer (some ⟨a, 0, none⟩), .int .i64 t] w fun e w' => e = .returned (.int .i64 0) ∧ SchedAt w' a p { s with L := s.L ++ [t] } ∧ Only (· = p) w w' := by
  obtain ⟨h0, h1, ht⟩ := Sc.push_ok hc
  obtain ⟨c0, c1, c2, c3, c4⟩ := h.cells
  have hm := h.ok.most32
  have hm2 := h.ok.made
  have hok := h.ok.snoc hc h.ok.busy
  have hlen : s.L.length < 32 := by
    have h3 : (s.L ++ [t]).length ≤ s.made := hok.len
    rw [List.length_append] at h3
    simp at h3
    omega
  have hP := push_at h.row h0 (by omega) ht hlen
  have hne := h.ne
  have hH := hid h
  have hokH := hid hok
  clear h ht hc hok
  go_enter Try.func14, Try.ntmps14
  go_wp2_with (fail)
  refine hP.mono ?_
  rintro e w2 ⟨rfl, hF, o⟩
  go_wp2_with (fail)
  go_ret
  exact ⟨rfl, ⟨hH.out.blk.only o hne, hF, hokH.out⟩, o⟩
theorem spush_at (h : SchedAt w a p s) (t : Int) : Calls Try.prog 14 #[.pointer (some ⟨a, 0, none⟩), .int .i64 t] w fun e w' => e = .returned (.int .i64 (s.pushC t)) ∧ SchedAt w' a p (s.push t) ∧ Only (· = p) w w' := by
  unfold Sc.push
  by_cases hc : s.pushC t = 0
  · rw [if_pos hc, hc]; exact spush_some h hc
  · rw [if_neg hc]
    unfold Sc.pushC at hc ⊢
    by_cases h1 : t < 0 ∨ t ≥ s.made
    · rw [if_pos h1]
      refine (spush_arg h h1).mono ?_
      rintro e w' ⟨rfl, rfl⟩
      exact ⟨rfl, h, Only.refl _ _⟩
    · rw [if_neg h1] at hc ⊢
      by_cases h2 : t ∈ s.L
      · rw [if_pos h2]
        refine (spush_have h (by omega) (by omega) h2).mono ?_
        rintro e w' ⟨rfl, hB⟩
        exact ⟨rfl, h.below hB, only_below hB⟩
      · rw [if_neg h2] at hc; exact absurd rfl hc
theorem back_at (h : SchedAt w a p s) (t : Int) : Calls Try.prog 11 #[.pointer (some ⟨a, 0, none⟩), .int .i64 t] w fun e w' => e = .returned (.int .i64 (s.backC t)) ∧ SchedAt w' a p (s.back t) ∧ Only (fun k => k = a ∨ k = p) w w' := by
  obtain ⟨c0, c1, c2, c3, c4⟩ := h.cells
  unfold Sc.backC Sc.back
  by_cases hb : s.busy = 0
  · rw [if_pos hb, if_pos hb]
    rw [hb] at c4
    have hH := hid h
    clear h hb
    go_enter Try.func11, Try.ntmps11
    go_wp2
    go_ret
    exact ⟨rfl, hH.out, Only.refl _ _⟩
  · rw [if_neg hb, if_neg hb]
    have hb' : ((s.busy : Int) == 0) = false := beq_eq_false_iff_ne.2 (by omega)
    have hP := spush_at h t
    have hb2 : (s.busy : Int) ≤ 1000 := by have := h.ok.busy; omega
    have hbk := h.ok.back t
    have hal := h.lt.1
    have hne := h.ne
    unfold Sc.back at hbk
    rw [if_neg hb] at hbk
    unfold Sc.push at hP
    by_cases hc : s.pushC t = 0
    · rw [if_pos hc, hc] at hP
      rw [if_pos hc] at hbk ⊢
      rw [hc]
      have hbkH := hid hbk
      clear h hc hbk
      go_enter Try.func11, Try.ntmps11
      go_wp2_with (fail)
      refine hP.mono ?_
      rintro e w2 ⟨rfl, hS, o⟩
      obtain ⟨d0, d1, d2, d3, d4⟩ := hS.cells
      have hz := hS.blk.frozen
      have hSH := hid hS
      have hne2 := hS.ne
      have hb1 : (0 : Int) < (s.busy : Int) := by omega
      clear hS c0 c1 c2 c3 c4
      go_wp2_with (fail)
      go_ret
      have hB := hSH.out.blk.set 4 (.int .i64 ((s.busy - 1 : Nat) : Int))
      have e1 : (s.busy : Int) - 1 = ((s.busy - 1 : Nat) : Int) := by omega
      rw [e1]
      exact ⟨rfl, ⟨hB, hSH.out.row.only (setO _ a 4 _) (fun e => hne2 e.symm), hbkH.out⟩, (o.mono (fun _ _ h => .inr h)).trans (Only.setCell _ _ _ (.inl rfl))⟩
    · rw [if_neg hc] at hP hbk ⊢
      have hc' : (s.pushC t == 0) = false := beq_eq_false_iff_ne.2 hc
      generalize s.pushC t = cd at *
      clear h hc hbk
      go_enter Try.func11, Try.ntmps11
      go_wp2_with (fail)
      refine hP.mono ?_
      rintro e w2 ⟨rfl, hS, o⟩
      clear c0 c1 c2 c3 c4
      go_wp2_with (fail)
      go_ret
      exact ⟨rfl, hS, o.mono (fun _ _ h => .inr h)⟩
theorem leave_at (h : SchedAt w a p s) : Calls Try.prog 12 #[.pointer (some ⟨a, 0, none⟩)] w fun e w' => e = .returned (.int .i64 s.leaveC) ∧ SchedAt w' a p s.leave ∧ Only (fun k => k = a ∨ k = p) w w' := by
  have less : Calls Try.prog 31 #[.pointer (some ⟨a, 0, none⟩), .bool false] w fun e w' => e = .returned (.int .i64 s.leaveC) ∧ SchedAt w' a p s.leave ∧ Only (fun k => k = a ∨ k = p) w w' := by
    obtain ⟨c0, c1, c2, c3, c4⟩ := h.cells
    unfold Sc.leaveC
    by_cases hb : s.busy = 0
    · rw [if_pos hb, Sc.leave_zero hb]
      rw [hb] at c4
      have hH := hid h
      clear h hb
      go_enter Try.func31, Try.ntmps31
      go_wp2
      go_ret
      exact ⟨rfl, hH.out, Only.refl _ _⟩
    · rw [if_neg hb]
      have hb' : ((s.busy : Int) == 0) = false := beq_eq_false_iff_ne.2 (by omega)
      have hb1 : (0 : Int) < (s.busy : Int) := by omega
      have hal := h.lt.1
      have hb2 : (s.busy : Int) ≤ 1000 := by have := h.ok.busy; omega
      have hz := h.blk.frozen
      have hH := hid h
      have hne := h.ne
      have hb0 := hid hb
      clear h hb
      go_enter Try.func31, Try.ntmps31
      go_wp2
      go_ret
      have hB := hH.out.blk.set 4 (.int .i64 ((s.busy - 1 : Nat) : Int))
      have e1 : (s.busy : Int) - 1 = ((s.busy - 1 : Nat) : Int) := by have := hb0.out; omega
      rw [e1]
      exact ⟨rfl, ⟨hB, hH.out.row.only (setO _ a 4 _) (fun e => hne e.symm), hH.out.ok.leave⟩, Only.setCell _ _ _ (.inl rfl)⟩
  generalize s.leaveC = cd at *
  generalize s.leave = s2 at *
  clear h
  go_enter Try.func12, Try.ntmps12
  go_wp2_with (fail)
  refine less.mono ?_
  rintro e w2 ⟨rfl, hS, o⟩
  go_wp2_with (fail)
  go_ret
  exact ⟨rfl, hS, o⟩
theorem end_at (h : SchedAt w a p s) : Calls Try.prog 13 #[.pointer (some ⟨a, 0, none⟩)] w fun e w' => e = .returned (.int .i64 s.endC) ∧ SchedAt w' a p s.ended ∧ Only (fun k => k = a ∨ k = p) w w' := by
  have less : Calls Try.prog 31 #[.pointer (some ⟨a, 0, none⟩), .bool true] w fun e w' => e = .returned (.int .i64 s.endC) ∧ SchedAt w' a p s.ended ∧ Only (fun k => k = a ∨ k = p) w w' := by
    obtain ⟨c0, c1, c2, c3, c4⟩ := h.cells
    have hok := h.ok.ended
    unfold Sc.endC Sc.ended at *
    by_cases hl : s.live = 0
    · rw [if_pos (.inr hl), if_pos (.inr hl)]
      rw [hl] at c3
      have hH := hid h
      clear h hl hok
      go_enter Try.func31, Try.ntmps31
      go_wp2
      go_ret
      exact ⟨rfl, hH.out, Only.refl _ _⟩
    · have hl' : ((s.live : Int) == 0) = false := beq_eq_false_iff_ne.2 (by omega)
      by_cases hb : s.busy = 0
      · rw [if_pos (.inl hb), if_pos (.inl hb)]
        rw [hb] at c4
        have hH := hid h
        clear h hb hl hok
        go_enter Try.func31, Try.ntmps31
        go_wp2
        go_ret
        exact ⟨rfl, hH.out, Only.refl _ _⟩
      · have hno : ¬ (s.busy = 0 ∨ s.live = 0) := fun h => h.elim hb hl
        rw [if_neg hno] at hok
        rw [if_neg hno, if_neg hno]
        have hb' : ((s.busy : Int) == 0) = false := beq_eq_false_iff_ne.2 (by omega)
        have hb1 : (0 : Int) < (s.busy : Int) := by omega
        have hl1 : (0 : Int) < (s.live : Int) := by omega
        have hal := h.lt.1
        have hb2 : (s.busy : Int) ≤ 1000 := by have := h.ok.busy; omega
        have hl2 : (s.live : Int) ≤ 32 := by have := h.ok.live; have := h.ok.made; have := h.ok.most32; omega
        have hz := h.blk.frozen
        have hH := hid h
        have hne := h.ne
        have hb0 := hid hb
        have hl0 := hid hl
        have hokH := hid hok
        clear h hb hl hno hok
        go_enter Try.func31, Try.ntmps31
        go_wp2
        go_ret
        have hB := (hH.out.blk.set 3 (.int .i64 ((s.live - 1 : Nat) : Int))).set 4 (.int .i64 ((s.busy - 1 : Nat) : Int))
        have e1 : (s.busy : Int) - 1 = ((s.busy - 1 : Nat) : Int) := by have := hb0.out; omega
        have e2 : (s.live : Int) - 1 = ((s.live - 1 : Nat) : Int) := by have := hl0.out; omega
        rw [e1, e2]
        exact ⟨rfl, ⟨hB, hH.out.row.only ((setO _ a 3 _).trans (setO _ a 4 _)) (fun e => hne e.symm), hokH.out⟩, (Only.setCell _ _ _ (.inl rfl)).trans (Only.setCell _ _ _ (.inl rfl))⟩
  generalize s.endC = cd at *
  generalize s.ended = s2 at *
  clear h
  go_enter Try.func13, Try.ntmps13
  go_wp2_with (fail)
  refine less.mono ?_
  rintro e w2 ⟨rfl, hS, o⟩
  go_wp2_with (fail)
  go_ret
  exact ⟨rfl, hS, o⟩
end
end Go.Proofs.Ytmhnfcodppfaiaf.SchedCode
