
/- The document's scheduler: a block of five cells, and a row of its own. -/
import Derived.Test.YtghbcdpnngheoagSchedAlive
import Derived.Test.YtghbcdpnngheoagRow
namespace Go.Proofs.Ytghbcdpnngheoag.RefSched
open Go Go.RowKit Go.Proofs.Ytghbcdpnngheoag.Obj Go.Proofs.Ytghbcdpnngheoag.FifoCode Go.Proofs.Ytghbcdpnngheoag.SchedCode Go.Proofs.Ytghbcdpnngheoag.Row Go.Proofs.YtghbcdpnngheoagW.PrintWords Go.Proofs.YtghbcdpnngheoagW.PrintMore
set_option maxRecDepth 100000
set_option linter.unusedVariables false
def refCells (v : Value) (s : Sc) : List Value := [.int .i64 s.most, v, .int .i64 s.made, .int .i64 s.live, .int .i64 s.busy]
structure RefAt (w : World) (q : Nat) (s : Sc) : Prop where
  row : ∃ v, Blk w q 84 (refCells v s) ∧ w.ownsRow (q + 1) 3 1 v s.L.length (nums .i64 s.L)
  ok : s.Ok
section
variable {w w' : World} {q : Nat} {s : Sc}
theorem RefAt.drewN (h : RefAt w q s) (n : Nat) : RefAt (w.drewN n) q s := by
  obtain ⟨⟨v, h1, h2⟩, h3⟩ := h; exact ⟨⟨v, h1, h2⟩, h3⟩
theorem RefAt.drew (h : RefAt w q s) : RefAt w.drew q s := h.drewN 1
theorem RefAt.lt (h : RefAt w q s) : q < w.heap.size := by obtain ⟨⟨v, h1, _⟩, _⟩ := h; exact h1.lt
theorem RefAt.only {S : Nat → Prop} (h : RefAt w q s) (o : Only S w w') (hs : ∀ k, q ≤ k → k < w.heap.size → ¬ S k) : RefAt w' q s := by
  obtain ⟨⟨v, h1, h2⟩, h3⟩ := h
  exact ⟨⟨v, h1.only o (hs q (Nat.le_refl _) h1.lt), own_only h2 o (fun k hk => hs k (by have := (own_block_ge h2 hk).1; omega) (own_block_ge h2 hk).2)⟩, h3⟩
theorem RefAt.below (h : RefAt w q s) (hb : Below w.heap.size w w') : RefAt w' q s := h.only (Only.none_of_below hb) (fun _ _ _ => id)
/-- A number of it is another one. -/
theorem RefAt.num (h : RefAt w q s) (i : Nat) (x : Value) {t : Sc} (ht : t.Ok) (hL : t.L = s.L) (hc : ∀ v, (refCells v s).set i x = refCells v t) : RefAt (w.setCell ⟨q, i, none⟩ x) q t := by
  obtain ⟨⟨v, h1, h2⟩, h3⟩ := h
  refine ⟨⟨v, by rw [← hc v]; exact h1.set i x, ?_⟩, ht⟩
  rw [hL]
  exact own_only h2 (setO w q i x) (fun k hk e => by have := own_block_ge h2 hk; omega)
theorem RefAt.of_fresh {w1 : World} {v : Value} {t : Sc} (h : RefAt w q s) (ht : t.Ok) (hc : ∀ v0, (refCells v0 s).set 1 v = refCells v t) (hf : Fresh w w1 (q + 1) 3 .i64 v t.L) : RefAt (w1.setCell ⟨q, 1, none⟩ v) q t ∧ Only (· = q) w (w1.setCell ⟨q, 1, none⟩ v) := by
  obtain ⟨⟨v0, h1, h2⟩, _⟩ := h
  refine ⟨⟨⟨v, by rw [← hc v0]; exact (h1.only hf.keep id).set 1 v, own_only hf.own (setO w1 q 1 v) (fun k hk e => by have := own_block_ge hf.own hk; omega)⟩, ht⟩, ?_⟩
  exact (hf.keep.mono (fun _ _ h => h.elim)).trans (setO _ _ _ _)
theorem RefAt.cells (h : RefAt w q s) : w.cell? ⟨q, 0, none⟩ = some (.int .i64 s.most) ∧ w.cell? ⟨q, 2, none⟩ = some (.int .i64 s.made) ∧ w.cell? ⟨q, 3, none⟩ = some (.int .i64 s.live) ∧ w.cell? ⟨q, 4, none⟩ = some (.int .i64 s.busy) ∧ (∀ i, w.frozen? ⟨q, i, none⟩ = false) := by
  obtain ⟨⟨v, h1, _⟩, _⟩ := h
  exact ⟨h1.cell 0, h1.cell 2, h1.cell 3, h1.cell 4, h1.frozen⟩
set_option maxHeartbeats 1000000 in
theorem has_at (h : RefAt w q s) (k : Int) : Calls Try.prog 76 #[.pointer (some ⟨q, 0, none⟩), .int .i64 k] w fun e w' => e = .returned (.bool (decide (k ∈ s.L))) ∧ w' = w := by
  have hL := h.ok.len
  have hm := h.ok.made
  have hm2 := h.ok.most32
  obtain ⟨⟨v, hb, hown⟩, _⟩ := h
  generalize s.L = L at *
  obtain ⟨A, c, rfl⟩ := own_form hown
  have c1 : w.cell? ⟨q, 1, none⟩ = some (.slice A L.length c) := hb.cell 1
  have hN : Nums w .i64 A L := own_nums hown
  clear hb hown
  go_enter Try.func76, Try.ntmps76
  go_wp2
  go_loopg [5] L.length (fun kq v5 w' => ∃ i : Nat, kq + i = L.length ∧ v5 = .int .i64 (i : Int) ∧ k ∉ L.take i ∧ w' = w)
  case atStart => exact ⟨0, rfl, rfl, by simp, rfl⟩
  case round =>
    obtain ⟨i, hi, rfl, hn, rfl⟩ := hrel
    cases gk with
    | zero =>
      have hin : ¬ ((i : Int) < (L.length : Int)) := by omega
      have hd : decide (k ∈ L) = false := by
        rw [List.take_of_length_le (by omega)] at hn
        exact decide_eq_false hn
      have hdH := hid hd
      clear hd hn
      go_wp2
      go_ret
      exact ⟨by rw [hdH.out]; rfl, rfl⟩
    | succ m =>
      have hin : ((i : Int) < (L.length : Int)) := by omega
      obtain ⟨b, o, rfl, _, hc⟩ := hN.at i (by omega)
      obtain ⟨x, hx⟩ : ∃ x, L[i]? = some x := ⟨_, List.getElem?_eq_getElem (by omega)⟩
      rw [show L.getD i 0 = x by simp [List.getD, hx]] at hc
      by_cases e : x = k
      · have e' : (x == k) = true := by simp [e]
        have hd : decide (k ∈ L) = true := decide_eq_true (e ▸ List.mem_of_getElem? hx)
        have hdH := hid hd
        clear e hd hx hn
        go_wp2
        go_ret
        exact ⟨by rw [hdH.out]; rfl, rfl⟩
      · have e' : (x == k) = false := by simp [e]
        have hn2 : k ∉ L.take (i + 1) := by
          rw [List.take_add_one, hx]
          intro h
          rcases List.mem_append.1 h with h | h
          · exact hn h
          · simp at h; exact e h.symm
        have hnH := hid hn2
        clear e hx hn hn2
        go_wp2
        go_roundg m
        case measure => omega
        case rel => exact ⟨i + 1, by omega, by go_num, hnH.out, rfl⟩
set_option maxHeartbeats 1000000 in
theorem put_at (h : RefAt w q s) (k : Int) (ht : ({ s with L := s.L ++ [k] } : Sc).Ok) : Calls Try.prog 75 #[.pointer (some ⟨q, 0, none⟩), .int .i64 k] w fun e w' => (∃ v, e = .returned v) ∧ RefAt w' q { s with L := s.L ++ [k] } ∧ Only (· = q) w w' := by
  have hL := h.ok.len
  have hm := h.ok.made
  have hm2 := h.ok.most32
  have hH := hid h
  have htH := hid ht
  obtain ⟨⟨v, hb, hown⟩, _⟩ := h
  have fin : ∀ w2 v2, Fresh w w2 (q + 1) 3 .i64 v2 (s.L ++ [k]) → RefAt (w2.setCell ⟨q, 1, none⟩ v2) q { s with L := s.L ++ [k] } ∧ Only (· = q) w (w2.setCell ⟨q, 1, none⟩ v2) := fun w2 v2 hf => hH.out.of_fresh htH.out (fun _ => rfl) hf
  have finH := hid fin
  clear fin ht
  generalize s.L = L at *
  obtain ⟨A, c, rfl⟩ := own_form hown
  have c1 : w.cell? ⟨q, 1, none⟩ = some (.slice A L.length c) := hb.cell 1
  have hq1 : q + 1 ≤ w.heap.size := hb.lt
  have hz := hb.frozen
  have hr := own_reads' hown
  clear hb hown
  go_enter Try.func75, Try.ntmps75
  go_wp2_with (first | ((with_reducible refine gate_builtin (b := .append) (xs := #[.const (Value.slice none 0 0), .tmp 8]) rfl ?_); at_builtin; go_loud (refine print_append_row (w0 := w) (q + 1) rfl (.const (Value.slice none 0 0)) (.tmp 8) 34 3 .i64 8 rfl Try.underlying34 info2 (by decide) (.slice none 0 0) [] L A L.length c rfl rfl (own_nil _ _ _ _) hr (Below.refl _ _) hq1 (by simp; omega) ?_); intro v1 w1 ho hb1 hg hat; simp only [List.nil_append] at ho; have hf1 := (Fresh.nil _ _ _ _).app ho hg hat; obtain ⟨A1, c1', rfl⟩ := own_form ho; have hq2 : q + 1 ≤ w1.heap.size := Nat.le_trans hq1 hb1.size; have d1 : w1.cell? ⟨q, 1, none⟩ = some (.slice A L.length c) := (by rw [← c1]; exact cell_same (hb1.block q (Nat.lt_succ_self _))); have z1 : ∀ i, w1.frozen? ⟨q, i, none⟩ = false := (fun i => by rw [← hz i]; exact frozen_same (hb1.block q (Nat.lt_succ_self _)))) | ((with_reducible refine gate_builtin (b := .append) (xs := #[.tmp 9, .tmp 11]) rfl ?_); at_builtin; go_loud (refine print_append_cells (w0 := w1) (q + 1) rfl (.tmp 9) (.tmp 11) 34 3 (.int .i64 0) 1 8 rfl Try.underlying34 info2 rfl (by decide) (by decide) (.slice A1 L.length c1') L.length (nums .i64 L) [.int .i64 k] rfl rfl rfl (by simp [Value.oneCell']) ho (Below.refl _ _) hq2 (by omega) ?_); intro v2 w2 ho2 hb2 hg2 hat2; have hf2 := hf1.app (zs := L ++ [k]) (by rw [List.length_append, nums_append]; exact ho2) hg2 hat2; obtain ⟨A2, n2, c2', rfl⟩ := own_form3 ho2; have d2 : w2.cell? ⟨q, 1, none⟩ = some (.slice A L.length c) := (by rw [← d1]; exact cell_same (hb2.block q (Nat.lt_succ_self _))); have z2 : ∀ i, w2.frozen? ⟨q, i, none⟩ = false := (fun i => by rw [← z1 i]; exact frozen_same (hb2.block q (Nat.lt_succ_self _)))))
  go_end0
  exact ⟨⟨_, rfl⟩, finH.out _ _ hf2⟩
theorem rmake_at (h : RefAt w q s) : Calls Try.prog 43 #[.pointer (some ⟨q, 0, none⟩)] w fun e w' => e = .returned (.tuple #[.int .i64 s.makeV, .int .i64 s.makeC]) ∧ RefAt w' q s.make ∧ Only (· = q) w w' := by
  obtain ⟨c0, c2, c3, c4, hz⟩ := h.cells
  unfold Sc.makeV Sc.makeC Sc.make
  have hm := h.ok.made
  have hm2 := h.ok.most32
  by_cases hf : s.made < s.most
  · rw [if_pos hf, if_pos hf, if_pos hf]
    have hok := h.ok.make
    unfold Sc.make at hok
    rw [if_pos hf] at hok
    have hge : ¬ ((s.most : Int) ≤ (s.made : Int)) := by omega
    have hge' : decide (s.made ≥ s.most) = false := decide_eq_false (by omega)
    have hlv := h.ok.live
    have hal := h.lt
    have hH := hid h
    have hkH := hid hok
    clear h hok hf
    go_enter Try.func43, Try.ntmps43
    go_wp2_with (go_quiet (fail))
    have hR1 := (hH.out.drewN nq).num 2 (.int .i64 ((s.made + 1 : Nat) : Int)) (t := { s with made := s.made + 1 }) ⟨hH.out.ok.most32, hkH.out.made, Nat.le_succ_of_le hH.out.ok.live, hH.out.ok.busy, fun x hx => by have := hH.out.ok.rng x hx; simp; omega, hH.out.ok.nodup⟩ rfl (fun _ => rfl)
    have hR2 := hR1.num 3 (.int .i64 ((s.live + 1 : Nat) : Int)) (t := { s with made := s.made + 1, live := s.live + 1 }) ⟨hH.out.ok.most32, hkH.out.made, Nat.succ_le_succ hH.out.ok.live, hH.out.ok.busy, fun x hx => by have := hH.out.ok.rng x hx; simp; omega, hH.out.ok.nodup⟩ rfl (fun _ => rfl)
    have hO : Only (· = q) w (((w.drewN nq).setCell ⟨q, 2, none⟩ (.int .i64 ((s.made : Int) + 1))).setCell ⟨q, 3, none⟩ (.int .i64 ((s.live : Int) + 1))) := ((Only.drewN _ _ _).trans (setO _ _ _ _)).trans (setO _ _ _ _)
    clear c0 c2 c3 c4 hz hR1
    refine (put_at hR2 (s.made : Int) hkH.out).mono ?_
    rintro e w2 ⟨⟨v, rfl⟩, hR3, o3⟩
    go_wp2_with (fail)
    go_ret2
    exact ⟨rfl, hR3, hO.trans o3⟩
  · rw [if_neg hf, if_neg hf, if_neg hf]
    have e : s.made = s.most := by omega
    rw [e] at c2
    have hH := hid h
    clear h hf e
    go_enter Try.func43, Try.ntmps43
    go_wp2_with (go_quiet (fail))
    go_ret2
    exact ⟨rfl, hH.out.drewN _, Only.drewN _ _ _⟩
theorem rpush_at (h : RefAt w q s) (t : Int) : Calls Try.prog 45 #[.pointer (some ⟨q, 0, none⟩), .int .i64 t] w fun e w' => e = .returned (.int .i64 (s.pushC t)) ∧ RefAt w' q (s.push t) ∧ Only (· = q) w w' := by
  obtain ⟨c0, c2, c3, c4, hz⟩ := h.cells
  unfold Sc.push
  by_cases hc : s.pushC t = 0
  · rw [if_pos hc, hc]
    obtain ⟨h0, h1, ht⟩ := Sc.push_ok hc
    have hH := has_at h t
    rw [decide_eq_false ht] at hH
    have hP := put_at h t (h.ok.snoc hc h.ok.busy)
    have h1' : ¬ ((s.made : Int) ≤ t) := by omega
    clear h hc ht
    go_enter Try.func45, Try.ntmps45
    go_wp2_with (fail)
    refine hH.mono ?_
    rintro e w1 ⟨rfl, rfl⟩
    go_wp2_with (fail)
    refine hP.mono ?_
    rintro e w2 ⟨⟨v, rfl⟩, hR, o⟩
    go_wp2_with (fail)
    go_ret
    exact ⟨rfl, hR, o⟩
  · rw [if_neg hc]
    unfold Sc.pushC at hc ⊢
    by_cases h1 : t < 0 ∨ t ≥ s.made
    · rw [if_pos h1]
      have hH := hid h
      clear h hc
      by_cases h0 : t < 0
      · go_enter Try.func45, Try.ntmps45
        go_wp2
        go_ret
        exact ⟨rfl, hH.out, Only.refl _ _⟩
      · have h1' : (s.made : Int) ≤ t := by omega
        clear h1
        go_enter Try.func45, Try.ntmps45
        go_wp2
        go_ret
        exact ⟨rfl, hH.out, Only.refl _ _⟩
    · rw [if_neg h1] at hc ⊢
      by_cases h2 : t ∈ s.L
      · rw [if_pos h2]
        have hH := has_at h t
        rw [decide_eq_true h2] at hH
        have h0 : ¬ (t < 0) := by omega
        have h1' : ¬ ((s.made : Int) ≤ t) := by omega
        have hR := hid h
        clear h hc h2 h1
        go_enter Try.func45, Try.ntmps45
        go_wp2_with (fail)
        refine hH.mono ?_
        rintro e w1 ⟨rfl, rfl⟩
        go_wp2_with (fail)
        go_ret
        exact ⟨rfl, hR.out, Only.refl _ _⟩
      · rw [if_neg h2] at hc; exact absurd rfl hc
end
end Go.Proofs.Ytghbcdpnngheoag.RefSched
