
/- order's row: what the functions that go over no iterator do. -/
import Derived.Test.YtabcodjalacdjaaRow
import Derived.Test.YtabcodjalacdjaaIter
import Derived.BigQuiet
namespace Go.Proofs.Ytabcodjalacdjaa.OrderCode
open Go Go.RowKit Go.Proofs.Ytabcodjalacdjaa.Obj Go.Proofs.Ytabcodjalacdjaa.Row Go.Proofs.YtabcodjalacdjaaW.PrintWords Go.Proofs.YtabcodjalacdjaaW.PrintMore
set_option linter.unusedVariables false
set_option maxRecDepth 100000
/-- An order in memory: six places, of which the first n are its row. -/
structure OrdAt (w : World) (o : Nat) (L : List Int) : Prop where
  row : ∃ pad : List Int, L.length + pad.length = 6 ∧ Blk w o 60 (nums .i64 (L ++ pad) ++ [.int .i64 (L.length : Int)])
section
variable {w w' : World} {o : Nat} {L : List Int}
theorem OrdAt.lt (h : OrdAt w o L) : o < w.heap.size := by obtain ⟨p, _, h⟩ := h; exact h.lt
theorem OrdAt.six (h : OrdAt w o L) : L.length ≤ 6 := by obtain ⟨p, h, _⟩ := h; omega
theorem OrdAt.same (h : OrdAt w o L) (e : w'.heap[o]? = w.heap[o]?) : OrdAt w' o L := by obtain ⟨p, h1, h2⟩ := h; exact ⟨p, h1, h2.same e⟩
theorem OrdAt.below (h : OrdAt w o L) (hb : Below w.heap.size w w') : OrdAt w' o L := h.same (hb.block _ h.lt)
theorem OrdAt.drewN (h : OrdAt w o L) (n : Nat) : OrdAt (w.drewN n) o L := by obtain ⟨p, h1, h2⟩ := h; exact ⟨p, h1, h2⟩
theorem OrdAt.drew (h : OrdAt w o L) : OrdAt w.drew o L := h.drewN 1
theorem OrdAt.n (h : OrdAt w o L) : w.cell? ⟨o, 6, none⟩ = some (.int .i64 (L.length : Int)) := by
  obtain ⟨p, h1, h2⟩ := h
  rw [h2.cell 6, List.getElem?_append_right (by simp [nums]; omega)]
  simp [nums, h1]
theorem OrdAt.at (h : OrdAt w o L) (i : Nat) (hi : i < L.length) : w.cell? ⟨o, i, none⟩ = some (.int .i64 (L.getD i 0)) := by
  obtain ⟨p, h1, h2⟩ := h
  rw [h2.cell i, List.getElem?_append_left (by simp [nums]; omega)]
  rw [nums, List.getElem?_map, List.getElem?_append_left hi, List.getElem?_eq_getElem hi, List.getD_eq_getElem?_getD, List.getElem?_eq_getElem hi]; rfl
theorem OrdAt.reads (h : OrdAt w o L) : Nums w .i64 (some ⟨o, 0, none⟩) L := by
  refine ⟨fun i hi => ⟨⟨o, 0, none⟩, rfl, ?_⟩⟩
  rw [addr_add0]
  exact h.at i hi
theorem slice_run (w : World) (o n : Nat) (h : n ≤ 6) : (Instr.sliceAt 58 (.pointer (some ⟨o, 0, none⟩)) none (some (.int .i64 (n : Int))) none).run Try.prog w = .ok (.slice (some ⟨o, 0, none⟩) n 6) w := by
  have hc : n = 0 ∨ n = 1 ∨ n = 2 ∨ n = 3 ∨ n = 4 ∨ n = 5 ∨ n = 6 := by omega
  rcases hc with rfl | rfl | rfl | rfl | rfl | rfl | rfl
  all_goals (refine Eq.symm (Eq.symm ?_); kernel_rfl)
theorem row_at (h : OrdAt w o L) : Calls Try.prog 21 #[.pointer (some ⟨o, 0, none⟩)] w fun e w' => e = .returned (.slice (some ⟨o, 0, none⟩) L.length 6) ∧ w' = w.drew := by
  have h6 := h.six
  have hn := h.n
  have ho := h.lt
  generalize L.length = n at *
  clear h
  have hsl := slice_run w.drew o n h6
  go_enter Try.func21, Try.ntmps21
  go_wp2_with (go_quiet (fail))
  go_region_with (fail)
  all_goals go_wp2
  all_goals go_ret
  all_goals exact ⟨rfl, rfl⟩
/-- The place of one; below 0: it is none. -/
def at_ (L : List Int) (k : Int) : Int := if k ∈ L then (L.idxOf k : Int) else -1
theorem at_yes {L : List Int} {k : Int} (h : k ∈ L) : at_ L k = (L.idxOf k : Int) := if_pos h
theorem at_no {L : List Int} {k : Int} (h : k ∉ L) : at_ L k = -1 := if_neg h
theorem idxOf_le : ∀ {L : List Int} {i : Nat} (h : i < L.length), L.idxOf L[i] ≤ i
  | [], i, h => by simp at h
  | a :: r, 0, h => by simp
  | a :: r, i + 1, h => by
    have := idxOf_le (L := r) (i := i) (by simpa using h)
    simp only [List.getElem_cons_succ, List.idxOf_cons]
    cases (a == r[i]'(by simpa using h)) <;> simp <;> omega
theorem at_first {L : List Int} {k : Int} {i : Nat} (h : L[i]? = some k) (hn : ∀ j, j < i → L[j]? ≠ some k) : at_ L k = (i : Int) := by
  obtain ⟨hi, e⟩ := List.getElem?_eq_some_iff.1 h
  have hm : k ∈ L := e ▸ List.getElem_mem hi
  rw [at_yes hm]
  have h3 := List.idxOf_lt_length_iff.2 hm
  have h4 : L.idxOf k ≤ i := by rw [← e]; exact idxOf_le hi
  rcases Nat.lt_or_ge (L.idxOf k) i with h5 | h5
  · exact absurd (by rw [List.getElem?_eq_getElem h3]; simp) (hn _ h5)
  · congr 1; omega
theorem at_none {L : List Int} {k : Int} (hn : ∀ j, j < L.length → L[j]? ≠ some k) : at_ L k = -1 := at_no fun hm => by
  obtain ⟨j, hj, e⟩ := List.mem_iff_getElem.1 hm
  exact hn j hj (by rw [List.getElem?_eq_getElem hj, e])
theorem ret_int {a b : Int} (h : a = b) : Ending.returned (.int .i64 a) = Ending.returned (.int .i64 b) := by rw [h]
set_option maxHeartbeats 1000000 in
theorem index_at {w : World} {A : Option Addr} {L : List Int} (c : Nat) (hN : Nums w .i64 A L) (hL : L.length ≤ 1000) (k : Int) : Calls Try.prog 22 #[.slice A L.length c, .int .i64 k] w fun e w' => e = .returned (.int .i64 (at_ L k)) ∧ w' = w := by
  go_enter Try.func22, Try.ntmps22
  go_wp2
  go_loopg [8] L.length (fun kq v8 w' => ∃ i : Nat, kq + i = L.length ∧ v8 = .int .i64 (i : Int) ∧ (∀ j, j < i → L[j]? ≠ some k) ∧ w' = w)
  case atStart => exact ⟨0, rfl, rfl, fun j hj => absurd hj (by omega), rfl⟩
  case round =>
    obtain ⟨i, hi, rfl, hn, rfl⟩ := hrel
    have hnH := hid hn
    clear hn
    cases gk with
    | zero =>
      have hin : ¬ ((i : Int) < (L.length : Int)) := by omega
      go_wp2
      go_ret
      exact ⟨ret_int (at_none (fun j hj => hnH.out j (by omega))).symm, rfl⟩
    | succ m =>
      have hin : ((i : Int) < (L.length : Int)) := by omega
      obtain ⟨b, o, rfl, _, hc⟩ := hN.at i (by omega)
      obtain ⟨x, hx⟩ : ∃ x, L[i]? = some x := ⟨_, List.getElem?_eq_getElem (by omega)⟩
      rw [show L.getD i 0 = x by simp [List.getD, hx]] at hc
      have hxH := hid hx
      clear hx
      by_cases e : x = k
      · have eH := hid e
        have e' : (k == x) = true := by simp [e]
        clear e
        go_wp2
        go_ret
        exact ⟨ret_int (at_first (by rw [hxH.out, eH.out]) hnH.out).symm, rfl⟩
      · have e' : (k == x) = false := by simp only [beq_eq_false_iff_ne]; exact fun h => e h.symm
        have eH := hid e
        clear e
        go_wp2
        go_roundg m
        case measure => omega
        case rel =>
          refine ⟨i + 1, by omega, by first | rfl | go_num, fun j hj => ?_, rfl⟩
          rcases Nat.lt_or_ge j i with h | h
          · exact hnH.out j h
          · obtain rfl : j = i := by omega
            rw [hxH.out]; intro e; exact eH.out (Option.some.inj e)
def ageV (L : List Int) (k : Int) : Int := if k ∈ L then (L.length : Int) - 1 - L.idxOf k else -1
theorem age_at {w : World} {o : Nat} {L : List Int} (h : OrdAt w o L) (k : Int) : Calls Try.prog 11 #[.pointer (some ⟨o, 0, none⟩), .int .i64 k] w fun e w' => e = .returned (.int .i64 (ageV L k)) ∧ ∃ m, w' = w.drewN m := by
  have h6 := h.six
  have hn := h.n
  have ho := h.lt
  have hR := row_at h
  have hI := index_at 6 h.drew.reads (by omega) k
  have hv : at_ L k = -1 ∧ ageV L k = -1 ∨ ∃ i : Nat, i < L.length ∧ at_ L k = (i : Int) ∧ ageV L k = (L.length : Int) - 1 - (i : Int) := by
    unfold at_ ageV
    by_cases hk : k ∈ L
    · exact .inr ⟨L.idxOf k, List.idxOf_lt_length_iff.2 hk, if_pos hk, if_pos hk⟩
    · exact .inl ⟨if_neg hk, if_neg hk⟩
  generalize ageV L k = av at *
  generalize at_ L k = iv at *
  generalize L.length = n at *
  clear h
  rcases hv with ⟨rfl, rfl⟩ | ⟨i, hi, rfl, rfl⟩
  · go_enter Try.func11, Try.ntmps11
    go_wp2_with (fail)
    refine hR.mono ?_
    rintro e w1 ⟨rfl, rfl⟩
    go_wp2_with (fail)
    refine hI.mono ?_
    rintro e w1 ⟨rfl, rfl⟩
    go_wp2_with (fail)
    go_ret
    exact ⟨rfl, 1, rfl⟩
  · go_enter Try.func11, Try.ntmps11
    go_wp2_with (fail)
    refine hR.mono ?_
    rintro e w1 ⟨rfl, rfl⟩
    go_wp2_with (fail)
    refine hI.mono ?_
    rintro e w1 ⟨rfl, rfl⟩
    go_wp2_with (fail)
    go_ret
    exact ⟨rfl, 1, rfl⟩
theorem info2 : (Try.prog.info? 3).map (fun i => (i.zero, i.size, i.bytes)) = some (some (.int .i64 0), 1, 8) := by kernel_rfl
set_option maxHeartbeats 1000000 in
theorem clone_at {w : World} {g c : Nat} {L : List Int} (hN : Nums w .i64 (some ⟨g, 0, none⟩) L) (hL : L.length ≤ 1000) : Calls Try.prog 23 #[.slice (some ⟨g, 0, none⟩) L.length c] w fun e w' => ∃ v, e = .returned v ∧ w'.ownsRow w.heap.size 3 1 v L.length (nums .i64 L) ∧ Below w.heap.size w w' := by
  have hEq : (binOp .eql 28 (.slice (some ⟨g, 0, none⟩) L.length c) (.slice none 0 0)).run Try.prog w = .ok (.bool false) w := by kernel_rfl
  have hO : (w.alloc (.cells #[] 3)).ownsRow w.heap.size 3 1 (.slice (some ⟨w.heap.size, 0, none⟩) 0 0) ([] : List Int).length (nums .i64 []) :=
    ⟨rfl, .inr ⟨w.heap.size, 0, #[], rfl, Nat.le_refl _, heap_alloc_new w _, Nat.le_refl _, Nat.zero_le _, rfl, rfl⟩⟩
  have hb0 : Below w.heap.size w (w.alloc (.cells #[] 3)) := (Below.refl _ _).alloc (Nat.le_refl _) _
  have hR : ReadsInt (w.alloc (.cells #[] 3)) .i64 (some ⟨g, 0, none⟩) L.length L := by
    refine ⟨rfl, by omega, fun _ => ⟨⟨g, 0, none⟩, rfl, fun j hj => ?_⟩⟩
    obtain ⟨x, hx, hc⟩ := (hN.below hb0).cell j hj
    cases hx
    exact hc
  have hm3 : w.heap.size ≤ (w.alloc (.cells #[] 3)).heap.size := by simp
  go_enter Try.func23, Try.ntmps23
  go_wp2_with (first | ((with_reducible refine gate_builtin (b := .append) (xs := #[.tmp 5, .tmp 6]) rfl ?_); at_builtin; go_loud (refine print_append_row (w0 := w) w.heap.size rfl (.tmp 5) (.tmp 6) 28 3 .i64 8 rfl Try.underlying28 info2 (by decide) (.slice (some ⟨w.heap.size, 0, none⟩) 0 0) [] L (some ⟨g, 0, none⟩) L.length c rfl rfl hO hR hb0 hm3 (by simp; omega) ?_); intro v1 w1 ho hb hgr hat))
  go_ret
  exact ⟨_, rfl, ho, hb⟩
theorem list_at {w : World} {o : Nat} {L : List Int} (h : OrdAt w o L) : Calls Try.prog 10 #[.pointer (some ⟨o, 0, none⟩)] w fun e w' => ∃ v, e = .returned v ∧ w'.ownsRow w.heap.size 3 1 v L.length (nums .i64 L) ∧ Below w.heap.size w w' := by
  have hR := row_at h
  have h6 := h.six
  have hC := clone_at (c := 6) h.drew.reads (by omega)
  go_enter Try.func10, Try.ntmps10
  go_wp2_with (fail)
  refine hR.mono ?_
  rintro e w1 ⟨rfl, rfl⟩
  go_wp2_with (fail)
  refine hC.mono ?_
  rintro e w2 ⟨v, rfl, ho, hb⟩
  have hbb : Below w.heap.size w w2 := ⟨hb.os, hb.tape, hb.output, hb.size, hb.block⟩
  go_wp2_with (fail)
  go_ret
  exact ⟨_, rfl, ho, hbb⟩
end
end Go.Proofs.Ytabcodjalacdjaa.OrderCode
