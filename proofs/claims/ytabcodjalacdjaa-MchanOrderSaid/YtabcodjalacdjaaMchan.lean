
/- mchan: rows of those that wait, in memory; a channel. -/
import Derived.Test.YtabcodjalacdjaaRingAt
import Derived.Test.YtabcodjalacdjaaIter
namespace Go.Proofs.Ytabcodjalacdjaa.MchanCode
open Go Go.RowKit Go.Proofs.Ytabcodjalacdjaa.Obj Go.Proofs.Ytabcodjalacdjaa.RingCode Go.Proofs.YtabcodjalacdjaaW.PrintWords Go.Proofs.YtabcodjalacdjaaW.PrintMore
set_option linter.unusedVariables false
set_option linter.unusedSimpArgs false
set_option maxRecDepth 100000
/-- One that waits. -/
structure Wt where
  task : Int
  case : Int
  val : Int
instance : Inhabited Wt := ⟨⟨0, 0, 0⟩⟩
def Wt.cells (x : Wt) : List Value := [.int .i64 x.task, .int .i64 x.case, .int .i64 x.val]
def Wt.v (x : Wt) : Value := .agg #[.int .i64 x.task, .int .i64 x.case, .int .i64 x.val]
def wcells (L : List Wt) : List Value := L.flatMap Wt.cells
theorem wcells_len (L : List Wt) : (wcells L).length = L.length * 3 := by
  induction L with
  | nil => rfl
  | cons x L ih => rw [wcells, List.flatMap_cons, List.length_append]; show 3 + (wcells L).length = _; rw [ih, List.length_cons]; omega
theorem wcells_app (L M : List Wt) : wcells (L ++ M) = wcells L ++ wcells M := List.flatMap_append
theorem wcells_one (x : Wt) : wcells [x] = x.cells := by simp [wcells]
theorem wcells_at (L : List Wt) {i : Nat} (hi : i < L.length) (j : Nat) (hj : j < 3) : (wcells L)[i * 3 + j]? = ((L.getD i default).cells)[j]? := by
  induction L generalizing i with
  | nil => cases hi
  | cons x L ih =>
    rw [wcells, List.flatMap_cons]
    cases i with
    | zero => rw [List.getElem?_append_left (by show 0 * 3 + j < 3; omega)]; simp
    | succ i =>
      rw [List.getElem?_append_right (by show 3 ≤ _; omega), show (i + 1) * 3 + j - x.cells.length = i * 3 + j by show _ - 3 = _; omega]
      have := ih (i := i) (by simpa using hi)
      rw [show ((x :: L).getD (i + 1) default) = L.getD i default by simp [List.getD]]
      exact this
/-- A row in a block of one's own, from lo on; it may begin inside its block. -/
def WRow (lo : Nat) (w : World) (v : Value) (L : List Wt) : Prop := QRow w lo 48 3 v L.length (wcells L)
section
variable {lo : Nat} {w w' : World} {v : Value} {L : List Wt}
theorem WRow.nil (lo : Nat) (w : World) : WRow lo w (.slice none 0 0) [] := q_of_own (own_nil _ _ _ _)
theorem WRow.form (h : WRow lo w v L) : ∃ A c, v = .slice A L.length c ∧ L.length ≤ c := q_slice h
theorem WRow.block (h : WRow lo w v L) {g : Nat} (hg : v.ownBlock = some g) : lo ≤ g ∧ g < w.heap.size := ⟨(q_typed h g hg).1, q_lt h g hg⟩
theorem WRow.typed (h : WRow lo w v L) {g : Nat} (hg : v.ownBlock = some g) : ∃ cells, w.heap[g]? = some (.cells cells 48 (0, 0)) := (q_typed h g hg).2
theorem WRow.same (h : WRow lo w v L) (e : ∀ g, v.ownBlock = some g → w'.heap[g]? = w.heap[g]?) : WRow lo w' v L := q_move h e
theorem WRow.below (h : WRow lo w v L) (hb : Below w.heap.size w w') : WRow lo w' v L := h.same fun g hg => hb.block _ (h.block hg).2
theorem WRow.lower {lo' : Nat} (h : WRow lo w v L) (hb : lo' ≤ lo) : WRow lo' w v L := q_lower h hb
theorem WRow.at {A : Option Addr} {n c : Nat} (h : WRow lo w (.slice A n c) L) {i : Nat} (hi : i < L.length) : ∃ b o, A = some ⟨b, o, none⟩ ∧ lo ≤ b ∧ b < w.heap.size ∧ n = L.length ∧
    w.cell? ⟨b, o + i * 3, none⟩ = some (.int .i64 (L.getD i default).task) ∧ w.cell? ⟨b, o + i * 3 + 1, none⟩ = some (.int .i64 (L.getD i default).case) ∧ w.cell? ⟨b, o + i * 3 + 2, none⟩ = some (.int .i64 (L.getD i default).val) := by
  obtain ⟨A', c', e1, hnc⟩ := h.form
  simp only [Value.slice.injEq] at e1
  obtain ⟨rfl, rfl, rfl⟩ := e1
  obtain ⟨⟨b, o, sp⟩, rfl, hc⟩ := q_cells h (by omega)
  have h0 := hc (i * 3) _ ((wcells_at L hi 0 (by omega)).trans rfl)
  have h1 := hc (i * 3 + 1) _ ((wcells_at L hi 1 (by omega)).trans rfl)
  have h2 := hc (i * 3 + 2) _ ((wcells_at L hi 2 (by omega)).trans rfl)
  have hz := hc 0 _ ((wcells_at L (i := 0) (by omega) 0 (by omega)).trans rfl)
  have hs := cell_spot hz
  simp only [Addr.add, if_true] at hs
  subst hs
  have ha : ∀ k, (⟨b, o, none⟩ : Addr).add k = ⟨b, o + k, none⟩ := fun k => by
    unfold Addr.add
    split
    · rename_i e; rw [e, Nat.add_zero]
    · rfl
  rw [ha] at h0 h1 h2
  have hb := h.block (g := b) (by simp [Value.ownBlock])
  exact ⟨b, o, rfl, hb.1, hb.2, rfl, h0, by rw [Nat.add_assoc]; exact h1, by rw [Nat.add_assoc]; exact h2⟩
theorem WRow.tail1 {g o n c : Nat} {x : Wt} {r : List Wt} (h : WRow lo w (.slice (some ⟨g, o, none⟩) n c) (x :: r)) (hc : c ≠ 1) : WRow lo w (.slice (some ⟨g, o + 3, none⟩) r.length (c - 1)) r := by
  obtain ⟨A', c', e1, hnc⟩ := h.form
  simp only [Value.slice.injEq] at e1
  obtain ⟨rfl, rfl, rfl⟩ := e1
  have := q_drop h (k := 1) (by simp)
  rw [if_neg hc] at this
  simpa [WRow, Addr.add, wcells, Wt.cells] using this
theorem WRow.tail0 {g o n : Nat} {x : Wt} {r : List Wt} (h : WRow lo w (.slice (some ⟨g, o, none⟩) n 1) (x :: r)) : r = [] ∧ WRow lo w (.slice (some ⟨g, o, none⟩) 0 0) [] := by
  obtain ⟨A', c', e1, hnc⟩ := h.form
  simp only [Value.slice.injEq] at e1
  obtain ⟨rfl, rfl, rfl⟩ := e1
  obtain rfl : r = [] := by simpa using hnc
  have := q_drop h (k := 1) (by simp)
  simp at this
  exact ⟨rfl, by simpa [WRow, wcells, Wt.cells] using this⟩
end
theorem wait_info : (Try.prog.info? 48).map (fun i => (i.zero, i.size, i.bytes)) = some (some (.agg #[.int .i64 0, .int .i64 0, .int .i64 0]), 3, 24) := by kernel_rfl
section
variable {ops : Array Oper} {rest : List Oper} {o : Oper} {a : Act} {Q : Exit → Act → World → Prop}
/-- What append(v, y) comes to. -/
theorem wrow_run {W : World} {lo : Nat} (ty : TypeId) {v : Value} {L : List Wt} (y : Wt) {b : Nat} (HO : WRow lo W v L) (hb : Blk W b 48 y.cells) (hbase : lo ≤ W.heap.size) (hl : L.length ≤ 100000) :
    ∃ v1 w1, (Builtin.append_ #[55, 55] ty #[v, .slice (some ⟨b, 0, none⟩) 1 1]).run Try.prog W = .ok v1 w1 ∧ WRow lo w1 v1 (L ++ [y]) ∧ W.grownBy w1 v.ownBlock ∧ (v1.ownBlock = v.ownBlock ∨ ∃ k, v1.ownBlock = some k ∧ W.heap.size ≤ k) := by
  obtain ⟨i0, hi, hzz⟩ := Option.map_eq_some_iff.1 wait_info
  simp only [Prod.mk.injEq] at hzz
  obtain ⟨hz0, hz1, hz2⟩ := hzz
  obtain ⟨v1, w1, hrun, hq1, hg1, hat⟩ := q_append (P := Try.prog) W lo 55 ty 48 i0 _ 3 24 Try.underlying55 hi hz0 hz1 hz2 rfl (by decide) v L.length (wcells L) HO ⟨b, 0, none⟩ 1 1 y.cells rfl
    (fun j u hu => by rw [addr_add0, hb.cell j]; exact hu) (fun u hu => by simp only [Wt.cells, List.mem_cons, List.not_mem_nil, or_false] at hu; rcases hu with rfl | rfl | rfl <;> rfl) (by omega) (by simp only [maxLen]; omega) (by omega) hbase
  refine ⟨v1, w1, hrun, ?_, hg1, hat⟩
  unfold WRow
  rw [List.length_append, wcells_app, wcells_one]
  exact hq1
end
/-- A channel that is not closed. -/
structure ChAt (lo : Nat) (w : World) (c : Nat) (most : Nat) (Bf : List Int) (R0 R1 : List Wt) : Prop where
  obj : ∃ r v0 v1, Blk w c 72 [.pointer (some ⟨r, 0, none⟩), .bool false, v0, v1] ∧ lo ≤ r ∧ RingAt w r most Bf ∧ WRow lo w v0 R0 ∧ WRow lo w v1 R1 ∧ ∀ g, v0.ownBlock = some g → v1.ownBlock ≠ some g
  lo : lo ≤ c
  few0 : R0.length ≤ 100000
  few1 : R1.length ≤ 100000
section
variable {lo : Nat} {w w' : World} {c most : Nat} {Bf : List Int} {R0 R1 : List Wt}
theorem ChAt.lt (h : ChAt lo w c most Bf R0 R1) : c < w.heap.size := by obtain ⟨r, v0, v1, h1, _⟩ := h.obj; exact h1.lt
theorem ChAt.below (h : ChAt lo w c most Bf R0 R1) (hb : Below w.heap.size w w') : ChAt lo w' c most Bf R0 R1 := by
  obtain ⟨r, v0, v1, h1, h2, h3, h4, h5, h6⟩ := h.obj
  exact ⟨⟨r, v0, v1, h1.same (hb.block _ h1.lt), h2, h3.same (hb.block _ h3.lt), h4.below hb, h5.below hb, h6⟩, h.lo, h.few0, h.few1⟩
theorem bl_drewN {w w' : World} {B n : Nat} (h : Below B w w') : Below B w (w'.drewN n) := ⟨h.os, h.tape, h.output, h.size, h.block⟩
theorem ChAt.drewN (h : ChAt lo w c most Bf R0 R1) (n : Nat) : ChAt lo (w.drewN n) c most Bf R0 R1 := h.below (bl_drewN (Below.refl _ w))
theorem of_at (b : Bool) (w : World) : Calls Try.prog 28 #[.bool b] w fun e w' => e = .returned (.int .i64 (if b then 1 else 0)) ∧ w' = w := by
  cases b with
  | true =>
    go_enter Try.func28, Try.ntmps28
    go_wp2_with (fail)
    go_ret
    exact ⟨rfl, rfl⟩
  | false =>
    go_enter Try.func28, Try.ntmps28
    go_wp2_with (fail)
    go_ret
    exact ⟨rfl, rfl⟩
set_option maxHeartbeats 2000000 in
theorem new_at (most : Nat) (h : most ≤ 8) (w : World) : Calls Try.prog 14 #[.int .i64 (most : Int)] w fun e w' => ∃ c, e = .returned (.tuple #[.pointer (some ⟨c, 0, none⟩), .int .i64 0]) ∧ ChAt w.heap.size w' c most [] [] [] ∧ Below w.heap.size w w' := by
  have hN := RingCode.new_at most w h
  go_enter Try.func14, Try.ntmps14
  go_wp2_with (fail)
  refine hN.mono ?_
  rintro e w1 ⟨rfl, hR, hb, hsz⟩
  clear hN
  go_wp2_with (fail)
  go_ret2
  have hB := Blk.new w1 72 [.pointer (some ⟨w.heap.size, 0, none⟩), .bool false, .slice none 0 0, .slice none 0 0]
  exact ⟨_, rfl, ⟨⟨_, _, _, hB, Nat.le_refl _, hR.alloc _, WRow.nil _ _, WRow.nil _ _, fun g h => by cases h⟩, hb.size, by simp, by simp⟩, hb.alloc hb.size _⟩
theorem new_out (k : Int) (w : World) (h : k < 0 ∨ k > 8) : Calls Try.prog 14 #[.int .i64 k] w fun e w' => e = .returned (.tuple #[.pointer none, .int .i64 2]) ∧ w' = w := by
  have hN := RingCode.new_out k w h
  go_enter Try.func14, Try.ntmps14
  go_wp2_with (fail)
  refine hN.mono ?_
  rintro e w1 ⟨rfl, rfl⟩
  clear hN h
  go_wp2_with (fail)
  go_ret2
  exact ⟨rfl, rfl⟩
/-- What an operation does that comes. -/
def whatV (send : Bool) (most : Nat) (Bf : List Int) (R0 R1 : List Wt) : Int :=
  match send with
  | true => match R0 with
    | _ :: _ => 2
    | [] => if Bf.length < most then 3 else 6
  | false => match R1 with
    | _ :: _ => if most = 0 then 2 else 4
    | [] => match Bf with
      | _ :: _ => 3
      | [] => 6
set_option maxHeartbeats 2000000 in
theorem what_at (h : ChAt lo w c most Bf R0 R1) (send : Bool) : Calls Try.prog 15 #[.pointer (some ⟨c, 0, none⟩), .bool send] w fun e w' => e = .returned (.int .u8 (whatV send most Bf R0 R1)) ∧ ∃ n, w' = w.drewN n := by
  obtain ⟨r, v0, v1, hO, hr, hR, h0, h1, _⟩ := h.obj
  have m8 := hR.most8
  have fit := hR.fit
  obtain ⟨A0, c0, rfl, _⟩ := h0.form
  obtain ⟨A1, c1, rfl, _⟩ := h1.form
  have g0 : w.cell? ⟨c, 0, none⟩ = some (.pointer (some ⟨r, 0, none⟩)) := hO.cell 0
  have g1 : w.cell? ⟨c, 1, none⟩ = some (.bool false) := hO.cell 1
  have g2 : w.cell? ⟨c, 2, none⟩ = some (.slice A0 R0.length c0) := hO.cell 2
  have g3 : w.cell? ⟨c, 3, none⟩ = some (.slice A1 R1.length c1) := hO.cell 3
  have qL : ∀ n, Calls Try.prog 25 #[.pointer (some ⟨r, 0, none⟩)] (w.drewN n) fun e w' => e = .returned (.int .i64 (Bf.length : Int)) ∧ ∃ m, w' = w.drewN m := fun n => (RingCode.len_at (hR.same (w' := w.drewN n) rfl)).mono fun e w' ⟨a, b⟩ => ⟨a, n, b⟩
  have qC : ∀ n, Calls Try.prog 26 #[.pointer (some ⟨r, 0, none⟩)] (w.drewN n) fun e w' => e = .returned (.int .i64 (most : Int)) ∧ ∃ m, w' = w.drewN m := fun n => (RingCode.cap_at (hR.same (w' := w.drewN n) rfl)).mono fun e w' ⟨a, b⟩ => ⟨a, n, b⟩
  have qL0 := RingCode.len_at hR
  have qC0 := RingCode.cap_at hR
  have few0 := h.few0
  have few1 := h.few1
  clear h hO hR h0 h1
  cases send with
  | true =>
    cases R0 with
    | cons x l =>
      have hp : (0 : Int) < ((x :: l).length : Int) := by simp
      rw [show whatV true most Bf (x :: l) R1 = 2 from rfl]
      generalize (x :: l).length = k at *
      go_enter Try.func15, Try.ntmps15
      go_wp2_with (fail)
      go_ret
      exact ⟨rfl, 0, rfl⟩
    | nil =>
      obtain ⟨bb, hbb⟩ : ∃ bb, bb = decide (Bf.length < most) := ⟨_, rfl⟩
      have hV : whatV true most Bf [] R1 = if bb then 3 else 6 := by rw [hbb]; simp [whatV]
      rw [hV]
      have hdn : decide (Bf.length < most) = bb := hbb.symm
      have hdi : decide ((Bf.length : Int) < (most : Int)) = bb := by rw [hbb, decide_eq_decide]; omega
      clear hbb hV qL0 qC0
      generalize Bf.length = k at *
      cases bb with
      | true =>
        go_enter Try.func15, Try.ntmps15
        go_wp2_with (fail)
        go_quiet (first | exact qL _ | exact qC _)
        go_wp2_with (fail)
        go_ret
        exact ⟨rfl, _, rfl⟩
      | false =>
        go_enter Try.func15, Try.ntmps15
        go_wp2_with (fail)
        go_quiet (first | exact qL _ | exact qC _)
        go_wp2_with (fail)
        go_ret
        exact ⟨rfl, _, rfl⟩
  | false =>
    clear qL qC
    cases R1 with
    | cons x l =>
      have hp : (0 : Int) < ((x :: l).length : Int) := by simp
      by_cases hm : most = 0
      · rw [show whatV false most Bf R0 (x :: l) = 2 by simp [whatV, hm]]
        generalize (x :: l).length = k at *
        have hm0 : ((most : Int) == 0) = true := by rw [beq_iff_eq]; omega
        clear hm fit
        go_enter Try.func15, Try.ntmps15
        go_wp2_with (fail)
        refine qC0.mono ?_
        rintro e w1 ⟨rfl, rfl⟩
        go_wp2_with (fail)
        go_ret
        exact ⟨rfl, 0, rfl⟩
      · rw [show whatV false most Bf R0 (x :: l) = 4 by simp [whatV, hm]]
        generalize (x :: l).length = k at *
        have hm0 : ((most : Int) == 0) = false := by rw [beq_eq_false_iff_ne]; omega
        clear hm fit
        go_enter Try.func15, Try.ntmps15
        go_wp2_with (fail)
        refine qC0.mono ?_
        rintro e w1 ⟨rfl, rfl⟩
        go_wp2_with (fail)
        go_ret
        exact ⟨rfl, 0, rfl⟩
    | nil =>
      cases Bf with
      | cons y b =>
        rw [show whatV false most (y :: b) R0 [] = 3 from rfl]
        have hp : (0 : Int) < ((y :: b).length : Int) := by simp
        generalize (y :: b).length = k at *
        go_enter Try.func15, Try.ntmps15
        go_wp2_with (fail)
        refine qL0.mono ?_
        rintro e w1 ⟨rfl, rfl⟩
        go_wp2_with (fail)
        go_ret
        exact ⟨rfl, 0, rfl⟩
      | nil =>
        rw [show whatV false most [] R0 [] = 6 from rfl]
        go_enter Try.func15, Try.ntmps15
        go_wp2_with (fail)
        refine qL0.mono ?_
        rintro e w1 ⟨rfl, rfl⟩
        go_wp2_with (fail)
        go_ret
        exact ⟨rfl, 0, rfl⟩
end
end Go.Proofs.Ytabcodjalacdjaa.MchanCode
