
/- The document's queue: a block of one cell, and a row of its own. -/
import Derived.Deep.RegionLaw
import Derived.Test.YtmhnfcodppfaiacListPure
import Derived.Test.YtmhnfcodppfaiacProg
import Derived.Test.YtmhnfcodppfaiacRow
namespace Go.Proofs.Ytmhnfcodppfaiac.RefList
open Go Go.RowKit Go.Proofs.Ytmhnfcodppfaiac.Obj Go.Proofs.Ytmhnfcodppfaiac.ListPure Go.Proofs.Ytmhnfcodppfaiac.Row Go.Proofs.YtmhnfcodppfaiacW.PrintWords Go.Proofs.YtmhnfcodppfaiacW.PrintMore
set_option maxRecDepth 100000
set_option linter.unusedVariables false
theorem ret_int {k : IntKind} {a b : Int} (h : a = b) : Ending.returned (.int k a) = .returned (.int k b) := by rw [h]
theorem info2 : (Try.prog.info? 3).map (fun i => (i.zero, i.size, i.bytes)) = some (some (.int .i64 0), 1, 8) := by kernel_rfl
def at_ (L : List Int) (k : Int) : Int := if k ∈ L then (L.idxOf k : Int) else -1
theorem at_yes {L : List Int} {k : Int} (h : k ∈ L) : at_ L k = (L.idxOf k : Int) := if_pos h
theorem at_no {L : List Int} {k : Int} (h : k ∉ L) : at_ L k = -1 := if_neg h
theorem at_lt (L : List Int) (k : Int) : at_ L k < L.length := by
  unfold at_
  split
  · have := List.idxOf_lt_length_iff.2 (by assumption : k ∈ L); omega
  · omega
theorem at_nn {L : List Int} {k : Int} : 0 ≤ at_ L k ↔ k ∈ L := by
  unfold at_
  split
  · simp_all
  · simp_all
theorem idxOf_le : ∀ {L : List Int} {i : Nat} (h : i < L.length), L.idxOf L[i] ≤ i
  | [], i, h => by simp at h
  | a :: r, 0, h => by simp
  | a :: r, i + 1, h => by
    have := idxOf_le (L := r) (i := i) (by simpa using h)
    simp only [List.getElem_cons_succ, List.idxOf_cons]
    cases (a == r[i]'(by simpa using h)) <;> simp <;> omega
theorem erase_idx {L : List Int} {k : Int} (hk : k ∈ L) : L.eraseIdx (L.idxOf k) = L.erase k := (List.erase_eq_eraseIdx_of_idxOf rfl).symm
structure RefAt (w : World) (q : Nat) (L : List Int) : Prop where
  row : ∃ v, Blk w q 74 [v] ∧ w.ownsRow (q + 1) 3 1 v L.length (nums .i64 L)
section
variable {w w' : World} {q : Nat} {L : List Int}
theorem RefAt.drewN (h : RefAt w q L) (n : Nat) : RefAt (w.drewN n) q L := by
  obtain ⟨v, h1, h2⟩ := h; exact ⟨v, h1, h2⟩
theorem RefAt.drew (h : RefAt w q L) : RefAt w.drew q L := h.drewN 1
theorem RefAt.lt (h : RefAt w q L) : q < w.heap.size := by obtain ⟨v, h1, _⟩ := h; exact h1.lt
theorem RefAt.only {S : Nat → Prop} (h : RefAt w q L) (o : Only S w w') (hs : ∀ k, q ≤ k → k < w.heap.size → ¬ S k) : RefAt w' q L := by
  obtain ⟨v, h1, h2⟩ := h
  exact ⟨v, h1.only o (hs q (Nat.le_refl _) h1.lt), own_only h2 o (fun k hk => hs k (by have := (own_block_ge h2 hk).1; omega) (own_block_ge h2 hk).2)⟩
theorem RefAt.below (h : RefAt w q L) (hb : Below w.heap.size w w') : RefAt w' q L := h.only (Only.none_of_below hb) (fun _ _ _ => id)
theorem at_first {k : Int} {i : Nat} (hi : L[i]? = some k) (hn : ∀ j, j < i → L[j]? ≠ some k) : at_ L k = i := by
  have hm := List.mem_of_getElem? hi
  obtain ⟨hl, hg⟩ := List.getElem?_eq_some_iff.1 hi
  rw [at_yes hm]
  have h3 := List.idxOf_lt_length_iff.2 hm
  have h4 : L.idxOf k ≤ i := by rw [← hg]; exact idxOf_le hl
  rcases Nat.lt_or_ge (L.idxOf k) i with h | h
  · exact absurd (by rw [List.getElem?_eq_getElem h3]; simp) (hn _ h)
  · congr 1; omega
theorem at_none {k : Int} (hn : ∀ j, j < L.length → L[j]? ≠ some k) : at_ L k = -1 := at_no fun hm => by
  obtain ⟨j, hj, e⟩ := List.mem_iff_getElem.1 hm
  exact hn j hj (by rw [List.getElem?_eq_getElem hj, e])
set_option maxHeartbeats 1000000 in
theorem at_at (h : RefAt w q L) (k : Int) (hL : L.length ≤ 1000) : Calls Try.prog 49 #[.pointer (some ⟨q, 0, none⟩), .int .i64 k] w fun e w' => e = .returned (.int .i64 (at_ L k)) ∧ w' = w := by
  obtain ⟨v, hb, hown⟩ := h
  obtain ⟨A, c, rfl⟩ := own_form hown
  have c1 : w.cell? ⟨q, 0, none⟩ = some (.slice A L.length c) := hb.cell 0
  have hN : Nums w .i64 A L := own_nums hown
  clear hb hown
  go_enter Try.func49, Try.ntmps49
  go_wp2
  go_loopg [5] L.length (fun kq v5 w' => ∃ i : Nat, kq + i = L.length ∧ v5 = .int .i64 (i : Int) ∧ (∀ j, j < i → L[j]? ≠ some k) ∧ w' = w)
  case atStart => exact ⟨0, rfl, rfl, fun j hj => absurd hj (by omega), rfl⟩
  case round =>
    obtain ⟨i, hi, rfl, hn, rfl⟩ := hrel
    have hnH := hid hn
    clear hn
    cases gk with
    | zero =>
      have hin : ¬ ((i : Int) < (L.length : Int)) := by omega
      go_wp2
      go_ret
      exact ⟨ret_int (at_none (fun j hj => hnH.out j (by omega))).symm, rfl⟩
    | succ m =>
      have hin : ((i : Int) < (L.length : Int)) := by omega
      obtain ⟨b, o, rfl, _, hc⟩ := hN.at i (by omega)
      obtain ⟨x, hx⟩ : ∃ x, L[i]? = some x := ⟨_, List.getElem?_eq_getElem (by omega)⟩
      rw [show L.getD i 0 = x by simp [List.getD, hx]] at hc
      have hxH := hid hx
      clear hx
      by_cases e : x = k
      · have eH := hid e
        have e' : (x == k) = true := by simp [e]
        clear e
        go_wp2
        go_ret
        exact ⟨ret_int (at_first (by rw [hxH.out, eH.out]) hnH.out).symm, rfl⟩
      · have e' : (x == k) = false := by simp [e]
        have eH := hid e
        clear e
        go_wp2
        go_roundg m
        case measure => omega
        case rel =>
          refine ⟨i + 1, by omega, by go_num, fun j hj => ?_, rfl⟩
          rcases Nat.lt_or_ge j i with h | h
          · exact hnH.out j h
          · obtain rfl : j = i := by omega
            rw [hxH.out]; intro e; exact eH.out (Option.some.inj e)
theorem push_arg (q : Nat) (k : Int) (w : World) (hk : k < 0 ∨ k ≥ 1024) : Calls Try.prog 46 #[.pointer (some ⟨q, 0, none⟩), .int .i64 k] w fun e w' => e = .returned (.int .i64 2) ∧ w' = w := by
  by_cases h0 : k < 0
  · go_enter Try.func46, Try.ntmps46
    go_wp2_with (fail)
    go_ret
    exact ⟨rfl, rfl⟩
  · have h1 : 1024 ≤ k := by omega
    clear hk
    go_enter Try.func46, Try.ntmps46
    go_wp2_with (fail)
    go_ret
    exact ⟨rfl, rfl⟩
theorem push_have (h : RefAt w q L) {k : Int} (h0 : 0 ≤ k) (h1 : k < 1024) (hk : k ∈ L) (hL : L.length ≤ 1000) : Calls Try.prog 46 #[.pointer (some ⟨q, 0, none⟩), .int .i64 k] w fun e w' => e = .returned (.int .i64 9) ∧ w' = w := by
  have H := at_at h k hL
  have hz := at_nn.2 hk
  generalize at_ L k = z at *
  clear hk
  go_enter Try.func46, Try.ntmps46
  go_wp2_with (fail)
  refine H.mono ?_
  rintro e w1 ⟨rfl, rfl⟩
  go_wp2_with (fail)
  go_ret
  exact ⟨rfl, rfl⟩
theorem RefAt.of_fresh {w1 : World} {v : Value} {M : List Int} (h : RefAt w q L) (hf : Fresh w w1 (q + 1) 3 .i64 v M) : RefAt (w1.setCell ⟨q, 0, none⟩ v) q M ∧ Only (· = q) w (w1.setCell ⟨q, 0, none⟩ v) := by
  obtain ⟨v0, h1, h2⟩ := h
  refine ⟨⟨v, (h1.only hf.keep id).set 0 v, own_only hf.own (Only.setCell (S := (· = q)) w1 ⟨q, 0, none⟩ v rfl) (fun k hk e => by have := own_block_ge hf.own hk; omega)⟩, ?_⟩
  exact (hf.keep.mono (fun _ _ h => h.elim)).trans (Only.setCell _ _ _ rfl)
set_option maxHeartbeats 1000000 in
theorem push_at (h : RefAt w q L) {k : Int} (h0 : 0 ≤ k) (h1 : k < 1024) (hk : k ∉ L) (hL : L.length ≤ 1000) : Calls Try.prog 46 #[.pointer (some ⟨q, 0, none⟩), .int .i64 k] w fun e w' => e = .returned (.int .i64 0) ∧ RefAt w' q (L ++ [k]) ∧ Only (· = q) w w' := by
  have H := at_at h k hL
  rw [at_no hk] at H
  have hR := hid h
  obtain ⟨v, hb, hown⟩ := h
  obtain ⟨A, c, rfl⟩ := own_form hown
  have c1 : w.cell? ⟨q, 0, none⟩ = some (.slice A L.length c) := hb.cell 0
  have hq1 : q + 1 ≤ w.heap.size := hb.lt
  have hz := hb.frozen
  have hr := own_reads' hown
  clear hk hown
  go_enter Try.func46, Try.ntmps46
  go_wp2_with (fail)
  refine H.mono ?_
  rintro e w0 ⟨rfl, rfl⟩
  go_wp2_with (first | ((with_reducible refine gate_builtin (b := .append) (xs := #[.const (Value.slice none 0 0), .tmp 19]) rfl ?_); at_builtin; go_loud (refine print_append_row (w0 := w0) (q + 1) rfl (.const (Value.slice none 0 0)) (.tmp 19) 28 3 .i64 8 rfl Try.underlying28 info2 (by decide) (.slice none 0 0) [] L A L.length c rfl rfl (own_nil _ _ _ _) hr ⟨rfl, rfl, rfl, Nat.le_refl _, fun _ _ => rfl⟩ hq1 (by simp; omega) ?_); intro v1 w1 ho hb1 hg hat; simp only [List.nil_append] at ho; have hf1 := (Fresh.nil _ _ _ _).app ho hg hat; obtain ⟨A1, c1', rfl⟩ := own_form ho; have hq2 : q + 1 ≤ w1.heap.size := Nat.le_trans hq1 hb1.size; have d1 : w1.cell? ⟨q, 0, none⟩ = some (.slice A L.length c) := (by rw [← c1]; exact cell_same (hb1.block q (Nat.lt_succ_self _))); have z1 : ∀ i, w1.frozen? ⟨q, i, none⟩ = false := (fun i => by rw [← hz i]; exact frozen_same (hb1.block q (Nat.lt_succ_self _)))) | ((with_reducible refine gate_builtin (b := .append) (xs := #[.tmp 20, .tmp 22]) rfl ?_); at_builtin; go_loud (refine print_append_cells (w0 := w1) (q + 1) rfl (.tmp 20) (.tmp 22) 28 3 (.int .i64 0) 1 8 rfl Try.underlying28 info2 rfl (by decide) (by decide) (.slice A1 L.length c1') L.length (nums .i64 L) [.int .i64 k] rfl rfl rfl (by simp [Value.oneCell']) ho (Below.refl _ _) hq2 (by omega) ?_); intro v2 w2 ho2 hb2 hg2 hat2; have hf2 := hf1.app (zs := L ++ [k]) (by rw [List.length_append, nums_append]; exact ho2) hg2 hat2; obtain ⟨A2, c2', rfl⟩ := own_form ho2; have d2 : w2.cell? ⟨q, 0, none⟩ = some (.slice A L.length c) := (by rw [← d1]; exact cell_same (hb2.block q (Nat.lt_succ_self _))); have z2 : ∀ i, w2.frozen? ⟨q, i, none⟩ = false := (fun i => by rw [← z1 i]; exact frozen_same (hb2.block q (Nat.lt_succ_self _)))))
  go_ret
  exact ⟨rfl, hR.out.of_fresh hf2⟩
theorem drop_none (h : RefAt w q L) {k : Int} (hk : k ∉ L) (hL : L.length ≤ 1000) : Calls Try.prog 47 #[.pointer (some ⟨q, 0, none⟩), .int .i64 k] w fun e w' => e = .returned (.int .i64 3) ∧ w' = w := by
  have H := at_at h k hL
  rw [at_no hk] at H
  clear hk
  go_enter Try.func47, Try.ntmps47
  go_wp2_with (fail)
  refine H.mono ?_
  rintro e w1 ⟨rfl, rfl⟩
  go_wp2_with (fail)
  go_ret
  exact ⟨rfl, rfl⟩
theorem erase_split {k : Int} (hk : k ∈ L) : L.take (L.idxOf k) ++ L.drop (L.idxOf k + 1) = L.erase k := by
  rw [← erase_idx hk, List.eraseIdx_eq_take_drop_succ]
set_option maxHeartbeats 2000000 in
theorem drop_at (h : RefAt w q L) {k : Int} (hk : k ∈ L) (hL : L.length ≤ 1000) : Calls Try.prog 47 #[.pointer (some ⟨q, 0, none⟩), .int .i64 k] w fun e w' => e = .returned (.int .i64 0) ∧ RefAt w' q (L.erase k) ∧ Only (· = q) w w' := by
  have H := at_at h k hL
  rw [at_yes hk] at H
  have ha := List.idxOf_lt_length_iff.2 hk
  have hE := hid (erase_split hk)
  generalize L.idxOf k = a at *
  have hR := hid h
  obtain ⟨v, hb, hown⟩ := h
  obtain ⟨A, c, rfl⟩ := own_form hown
  have hr := own_reads' hown
  rcases own_cases hown with ⟨_, h0, _⟩ | ⟨g, rfl, _, hgl, hnc⟩
  · omega
  have c1 : w.cell? ⟨q, 0, none⟩ = some (.slice (some ⟨g, 0, none⟩) L.length c) := hb.cell 0
  have hrT := hr.take_ a (by omega)
  have hrD := hr.drop_ (a + 1) (by omega) hnc
  have hq1 : q + 1 ≤ w.heap.size := hb.lt
  have hz := hb.frozen
  have ha0 : ¬ ((a : Int) < 0) := by omega
  have b0 : (0 : Int) ≤ (a : Int) := by omega
  have b1 : (a : Int) ≤ (c : Int) := by omega
  have b2 : (0 : Int) ≤ (a : Int) + 1 := by omega
  have b3 : (a : Int) + 1 ≤ (L.length : Int) := by omega
  have b4 : (a : Int) ≤ (L.length : Int) := by omega
  have b5 : (L.length : Int) ≤ (c : Int) := by omega
  have b6 : (a : Int) + 1 ≤ (c : Int) := by omega
  clear hk hown hb
  have fin : ∀ w2 v2, Fresh w w2 (q + 1) 3 .i64 v2 (L.take a ++ L.drop (a + 1)) → RefAt (w2.setCell ⟨q, 0, none⟩ v2) q (L.erase k) ∧ Only (· = q) w (w2.setCell ⟨q, 0, none⟩ v2) := fun w2 v2 hf => hR.out.of_fresh (by rw [← hE.out]; exact hf)
  have finH := hid fin
  clear fin
  have step1 : ∀ (w1 : World) (v1 : Value), w1.ownsRow (q + 1) 3 1 v1 ([] ++ L.take a).length (nums .i64 ([] ++ L.take a)) → (w.drewN 1).grownBy w1 (Value.slice none 0 0).ownBlock → (v1.ownBlock = (Value.slice none 0 0).ownBlock ∨ ∃ b, v1.ownBlock = some b ∧ (w.drewN 1).heap.size ≤ b) →
      Fresh w w1 (q + 1) 3 .i64 v1 (L.take a) ∧ w1.ownsRow (q + 1) 3 1 v1 (L.take a).length (nums .i64 (L.take a)) ∧ w1.cell? ⟨q, 0, none⟩ = some (.slice (some ⟨g, 0, none⟩) L.length c) ∧ (∀ i, w1.frozen? ⟨q, i, none⟩ = false) ∧ q + 1 ≤ w1.heap.size ∧ Below w.heap.size w w1 := fun w1 v1 ho hg hat => by
    have hf := ((Fresh.nil (w.drewN 1) _ _ _).app ho hg hat).of_drewN
    have e1 : w1.heap[q]? = w.heap[q]? := hf.keep.block q hq1 id
    exact ⟨hf, by simpa using ho, by rw [← c1]; exact cell_same e1, fun i => by rw [← hz i]; exact frozen_same e1, Nat.le_trans hq1 hf.keep.size, ⟨hf.keep.os, hf.keep.tape, hf.keep.output, hf.keep.size, fun k hk => hf.keep.block k hk id⟩⟩
  have st1 := hid step1
  clear step1
  have step2 : ∀ (w1 w2 : World) (v1 v2 : Value), Fresh w w1 (q + 1) 3 .i64 v1 (L.take a) → w2.ownsRow (q + 1) 3 1 v2 (L.take a ++ L.drop (a + 1)).length (nums .i64 (L.take a ++ L.drop (a + 1))) → w1.grownBy w2 v1.ownBlock → (v2.ownBlock = v1.ownBlock ∨ ∃ b, v2.ownBlock = some b ∧ w1.heap.size ≤ b) →
      Fresh w w2 (q + 1) 3 .i64 v2 (L.take a ++ L.drop (a + 1)) ∧ w2.cell? ⟨q, 0, none⟩ = some (.slice (some ⟨g, 0, none⟩) L.length c) ∧ (∀ i, w2.frozen? ⟨q, i, none⟩ = false) := fun w1 w2 v1 v2 h1 ho hg hat => by
    have hf := h1.app ho hg hat
    have e1 : w2.heap[q]? = w.heap[q]? := hf.keep.block q hq1 id
    exact ⟨hf, by rw [← c1]; exact cell_same e1, fun i => by rw [← hz i]; exact frozen_same e1⟩
  have st2 := hid step2
  clear step2
  by_cases hc : c = a + 1
  · simp only [if_pos hc] at hrD
    subst hc
    have hLl : L.length = a + 1 := by omega
    rw [hLl] at c1 hrD
    simp only [Nat.sub_self] at hrD
    simp only [hLl] at st1 st2
    have bb : (a : Int) ≤ (a : Int) + 1 := by omega
    clear b1 b3 b4 b5 b6 hr
    go_enter Try.func47, Try.ntmps47
    go_wp2_with (fail)
    refine H.mono ?_
    rintro e w0 ⟨rfl, rfl⟩
    go_wp2_with (fail)
    have bw : IntKind.i64.wrap ((a : Int) + 1) = (a : Int) + 1 := IntWalk.i64_in _ (by omega)
    go_region_law (first | (refine rows_step (q + 1) (by simp [Region.wanted]) (.const (Value.slice none 0 0)) (.tmp 17) 28 3 .i64 8 (by rfl) Try.underlying28 info2 (by decide) (.slice none 0 0) [] (L.take a) (some ⟨g, 0, none⟩) a (a + 1) (by rfl) (by rfl) (own_nil _ _ _ _) (hrT.drewN 1) hq1 (by simp; omega) ?_; intro v1 w1 ho hg hat; obtain ⟨hf1, ho1, d1, z1, hq2, hB1⟩ := st1.out w1 v1 ho hg hat; have hrD1 := hrD.below hB1; clear ho hg hat) | (refine rows_step (q + 1) (by simp [Region.wanted]) (.tmp 18) (.tmp 25) 28 3 .i64 8 (by rfl) Try.underlying28 info2 (by decide) v1 (L.take a) (L.drop (a + 1)) (some ⟨g, 0, none⟩) 0 0 (by rfl) (by rfl) ho1 hrD1 hq2 (by simp; omega) ?_; intro v2 w2 ho2 hg2 hat2; obtain ⟨hf2, d2, z2⟩ := st2.out w1 w2 v1 v2 hf1 ho2 hg2 hat2; obtain ⟨A2, n2, c2', rfl⟩ := own_form3 ho2))
    all_goals clear bw
    all_goals go_wp2
    all_goals go_ret
    all_goals exact ⟨rfl, finH.out _ _ hf2⟩
  · simp only [if_neg hc, Option.map_some, addr_add0] at hrD
    go_enter Try.func47, Try.ntmps47
    go_wp2_with (fail)
    refine H.mono ?_
    rintro e w0 ⟨rfl, rfl⟩
    go_wp2_with (fail)
    have bw : IntKind.i64.wrap ((a : Int) + 1) = (a : Int) + 1 := IntWalk.i64_in _ (by omega)
    go_region_law (first | (refine rows_step (q + 1) (by simp [Region.wanted]) (.const (Value.slice none 0 0)) (.tmp 17) 28 3 .i64 8 (by rfl) Try.underlying28 info2 (by decide) (.slice none 0 0) [] (L.take a) (some ⟨g, 0, none⟩) a c (by rfl) (by rfl) (own_nil _ _ _ _) (hrT.drewN 1) hq1 (by simp; omega) ?_; intro v1 w1 ho hg hat; obtain ⟨hf1, ho1, d1, z1, hq2, hB1⟩ := st1.out w1 v1 ho hg hat; have hrD1 := hrD.below hB1; clear ho hg hat) | (refine rows_step (q + 1) (by simp [Region.wanted]) (.tmp 18) (.tmp 25) 28 3 .i64 8 (by rfl) Try.underlying28 info2 (by decide) v1 (L.take a) (L.drop (a + 1)) (some ⟨g, a + 1, none⟩) (L.length - (a + 1)) (c - (a + 1)) (by rfl) (by rfl) ho1 hrD1 hq2 (by simp; omega) ?_; intro v2 w2 ho2 hg2 hat2; obtain ⟨hf2, d2, z2⟩ := st2.out w1 w2 v1 v2 hf1 ho2 hg2 hat2; obtain ⟨A2, n2, c2', rfl⟩ := own_form3 ho2))
    all_goals clear bw
    all_goals go_wp2
    all_goals go_ret
    all_goals exact ⟨rfl, finH.out _ _ hf2⟩
/-- What stands behind a number, by its place. -/
def nextR (L : List Int) (i : Int) : Int × Bool := if i ∈ L ∧ L.idxOf i + 1 < L.length then (L.getD (L.idxOf i + 1) 0, true) else (0, false)
end
end Go.Proofs.Ytmhnfcodppfaiac.RefList
