
/- fifo.List is the row, in a row of its own. -/
import Derived.Test.YtmhnfcodppfaiafFifoAt
namespace Go.Proofs.Ytmhnfcodppfaiaf.FifoCode
open Go Go.RowKit Go.Shelf Go.Proofs.Ytmhnfcodppfaiaf.Obj Go.Proofs.Ytmhnfcodppfaiaf.Iter Go.Proofs.Ytmhnfcodppfaiaf.Meth Go.Proofs.YtmhnfcodppfaiafW.PrintWords Go.Proofs.YtmhnfcodppfaiafW.PrintLast Go.Proofs.YtmhnfcodppfaiafW.PrintMore
attribute [local go_sem] Oper.semAt_some
set_option linter.unusedVariables false
set_option maxRecDepth 100000
theorem upto_map (L : List Int) : (upto L L.length).map (fun x => Value.int .i64 x.2) = L.map (Value.int .i64) := by
  have := congrArg (List.map (Value.int .i64)) (upto_vals L)
  rw [List.map_map] at this
  exact this
theorem info2 : (Try.prog.info? 3).map (fun i => (i.zero, i.size, i.bytes)) = some (some (.int .i64 0), 1, 8) := by kernel_rfl
set_option maxHeartbeats 2000000 in
theorem List_in {p most : Nat} {L : List Int} {w : World} (h : FifoAt w p most L) : CallsIn Fence.wide 5 Try.prog 32 #[.pointer (some ⟨p, 0, none⟩)] w fun e W' => ∃ v, e = .returned v ∧ W'.ownsRow w.heap.size 3 1 v L.length (L.map (Value.int .i64)) ∧ Below w.heap.size w W' := by
  have hro : Fence.wide.round = none := rfl
  have h48 : Fence.wide.fn 39 := trivial
  have hwd : Fence.wide.depth = none := rfl
  have hmf : ∀ (fn : Fn) (first cap : Array Value) (w : World), (Instr.makeFunc fn first cap).run Try.prog w = .ok (.func fn first cap) w := fun _ _ _ _ => rfl
  have hL8 : L.length ≤ 32 := Nat.le_trans h.fit h.most32
  have hp := h.lt
  obtain ⟨i0, hi, hz0, hz1, hz2⟩ := info_parts info2
  refine callsIn_of_wp_marks Try.func32 rfl trivial ?_ hro
  simp only [Try.ntmps32, List.size_toArray, List.length_cons, List.length_nil, Nat.reduceAdd, Nat.reduceSub, Array.replicate_succ, Array.replicate_zero, List.push_toArray, List.append_toArray, List.nil_append, List.cons_append]
  gi_wp2
  have bO := Boxed.new w 28 (.slice none 0 0)
  have hB0 : Below w.heap.size w (w.alloc (.cells #[.slice none 0 0] 28)) := (Below.refl _ w).alloc (Nat.le_refl _) _
  refine wpIn_range_meth hro (by decide) (gf := 39) (fst := #[.pointer (some ⟨p, 0, none⟩)]) (lb := #[]) rfl h48 (enters_of Try.func39 (by kernel_rfl) rfl)
    (each_seq 4 p most L _ (h.alloc _)) Kb1_t (Kb1_b (by simp; omega)) (Below.refl _ _) (fun _ => rfl)
    (fun pre W => (∃ v, Boxed W w.heap.size 28 v ∧ W.ownsRow w.heap.size 3 1 v pre.length (pre.map (fun x => Value.int .i64 x.2)) ∧ True) ∧ Below w.heap.size w W)
    (fun _ _ _ => False)
    (OwnFrom.and (Own.from (holdsRow_own w.heap.size w.heap.size 28 3 1 (fun pre : List (Nat × Int) => pre.length) (fun pre : List (Nat × Int) => pre.map (fun x => Value.int .i64 x.2)) (fun (pre : List (Nat × Int)) v => True)) _) (ownFrom_below (Nat.le_refl _) (by simp)))
    (fun _ _ _ _ _ hs _ _ => hs)
    ⟨⟨_, bO, World.ownsRow_nil _ _ _ _, trivial⟩, hB0⟩
    (fun x => { tmps := #[.pointer (some ⟨p, 0, none⟩), undef, .pointer (some ⟨w.heap.size, 0, none⟩), undef, .int .i64 x.2, .pointer (some ⟨p, 0, none⟩), .bool false, .pointer (some ⟨p, 0, none⟩), .func (.func 39) #[.pointer (some ⟨p, 0, none⟩)] #[], .int .i64 (x.1 : Nat), .int .i64 x.2, undef, undef, undef, undef, undef], defers := [] }) ?assign ?body ?done ?stop
  case assign =>
    intro l x W K hK
    gi_wp2
    first | exact hK | simpa using hK
  case body =>
    rintro lb pre x W ⟨⟨v, hv, hrow, -⟩, hB⟩ hlt
    have hc := hv.cell
    gi_wp2_with (gi_at_builtin; refine wpListIn_append_own _ rfl _ _ 28 rfl w.heap.size 3 i0 (.int .i64 0) 1 8 Try.underlying28 hi hz0 hz1 hz2 rfl (by decide) _ _ _ rfl (hrow.alloc _) ⟨W.heap.size, 0, none⟩ 1 1 [.int .i64 x.2] rfl rfl (cell_one_new _ _ _) (by simp [Value.oneCell']) (by unfold maxLen; omega) (by omega) (by have := hB.size; simp; omega) ?_; intro v' w1 hown' hgrow _; obtain ⟨g', cap', rfl⟩ := ownsRow_succ hown'; obtain ⟨hv1, hv2, hr2, hk2, hb2⟩ := hv.appended (by decide) hrow hB.size (Nat.le_refl _) hown' hgrow; have hc1 := hv1.cell; have hf1 := hv1.frozen)
    exact ⟨hk2.from _, hb2.block p hp, ⟨_, hv2, by simpa using hr2, trivial⟩, hB.trans hb2⟩
  case done =>
    rintro D ys W hD rfl ⟨⟨v, hv, hrow, -⟩, hB⟩ hK
    rw [upto_len, upto_map] at hrow
    obtain ⟨A, n, c, rfl⟩ : ∃ A n c, v = .slice A n c := by
      rcases hrow.2 with ⟨rfl, _⟩ | ⟨g, cap, cur, rfl, _⟩ <;> exact ⟨_, _, _, rfl⟩
    have hc := hv.cell
    have hf := hv.frozen
    gi_wp2
    have hne : some w.heap.size ≠ (Value.slice A n c).ownBlock := Boxed.not_row hv (by decide) hrow
    have hrow' : (W.setCell ⟨w.heap.size, 0, none⟩ (.slice A n c)).ownsRow w.heap.size 3 1 (.slice A n c) L.length (L.map (Value.int .i64)) :=
      own_move hrow (fun k hk => Below.heap_setCell W ⟨w.heap.size, 0, none⟩ _ k (fun e => hne (by rw [hk]; simpa using e.symm)))
    have hK' := (KeepsOthers.setCell W ⟨w.heap.size, 0, none⟩ (.slice A n c)).same D _ hK rfl
    refine ⟨by simp, .inl ⟨_, _, rfl, run_takeDeferred hK', ?_⟩⟩
    have hc5 := cell_kept (World.cell?_setCell_same' W ⟨w.heap.size, 0, none⟩ (.slice A n c) (by rw [hc]; rfl)) (grownBy_putObj' _ D (.deferred none)) (fun r e => by cases e; exact ⟨_, hK', rfl⟩)
    refine ⟨.slice A n c, ?_, _, rfl, ownsRow_putObj hrow' _ hK' rfl, (hB.setCell (p := ⟨w.heap.size, 0, none⟩) (Nat.le_refl _) _).trans (belowK_b (w := w) (Nat.le_refl _) _ D _ _ (by simp at hD; omega) hK' rfl rfl)⟩
    simp [results, Try.f32, go_sem, hc5]
  case stop =>
    rintro D c pre W _ _ h _
    exact h.elim
theorem list_at {p most : Nat} {L : List Int} {w : World} (h : FifoAt w p most L) : Calls Try.prog 32 #[.pointer (some ⟨p, 0, none⟩)] w fun e W' => ∃ v, e = .returned v ∧ W'.ownsRow w.heap.size 3 1 v L.length (L.map (Value.int .i64)) ∧ Below w.heap.size w W' :=
  callsIn_wide.1 (List_in h)
theorem list_nums {p most : Nat} {L : List Int} {w : World} (h : FifoAt w p most L) : Calls Try.prog 32 #[.pointer (some ⟨p, 0, none⟩)] w fun e W' => ∃ A c, e = .returned (.slice A L.length c) ∧ Nums W' .i64 A L ∧ Below w.heap.size w W' := by
  refine (list_at h).mono ?_
  rintro e W' ⟨v, rfl, hrow, hB⟩
  obtain ⟨A, c, rfl⟩ := own_form hrow
  exact ⟨A, c, rfl, own_nums hrow, hB⟩
theorem at_at {p most : Nat} {L : List Int} {w : World} (h : FifoAt w p most L) (k : Int) : Calls Try.prog 42 #[.pointer (some ⟨p, 0, none⟩), .int .i64 k] w fun e W' => e = .returned (.int .i64 (at_ L k)) ∧ Below w.heap.size w W' :=
  callsIn_wide.1 (At_in h k)
theorem has_at {p most : Nat} {L : List Int} {w : World} (h : FifoAt w p most L) (k : Int) : Calls Try.prog 37 #[.pointer (some ⟨p, 0, none⟩), .int .i64 k] w fun e W' => e = .returned (.bool (decide (k ∈ L))) ∧ Below w.heap.size w W' := by
  have hd : decide (k ∈ L) = decide (0 ≤ at_ L k) := by rw [decide_eq_decide, at_nn]
  rw [hd]
  have H := at_at h k
  generalize at_ L k = z at *
  clear hd
  go_enter Try.func37, Try.ntmps37
  go_wp2_with (fail)
  refine H.mono ?_
  rintro e w1 ⟨rfl, hB⟩
  go_wp2_with (fail)
  go_ret
  exact ⟨rfl, hB⟩
end Go.Proofs.Ytmhnfcodppfaiaf.FifoCode
