
/- pool.List is the slots that are taken, rising. -/
import Derived.Test.YtmhnfcodppfaiaaPoolTaken
namespace Go.Proofs.Ytmhnfcodppfaiaa.PoolCode
open Go Go.RowKit Go.Shelf Go.Proofs.YtmhnfcodppfaiaaW.PrintWords Go.Proofs.YtmhnfcodppfaiaaW.PrintLast Go.Proofs.YtmhnfcodppfaiaaW.PrintMore
attribute [local go_sem] Oper.semAt_some
set_option linter.unusedVariables false
theorem info3 : (Try.prog.info? 3).map (fun i => (i.zero, i.size, i.bytes)) = some (some (.int .i64 0), 1, 8) := by kernel_rfl
theorem Kc_t {Bn p q : Nat} {A B C : World} (h : Kc Bn p q A B) (k : Kc Bn p q B C) : Kc Bn p q A C := ⟨k.1.trans h.1, k.2.1.trans h.2.1, k.2.2.trans h.2.2⟩
theorem Kc_b {Bn p q : Nat} {w : World} (hp : p < w.heap.size) (hq : q < w.heap.size) (hn : Bn < w.heap.size) (W : World) (l : Nat) (o o' : Obj) (hl : w.heap.size ≤ l) (h : W.heap[l]? = some o) (_ : o.isCells = false) (_ : o.isWalk = false) : Kc Bn p q W (W.putObj l o') := by
  have hlt := (Array.getElem?_eq_some_iff.1 h).1
  exact ⟨(grownBy_putObj' W l o').block p (by omega) (by simp; omega), (grownBy_putObj' W l o').block q (by omega) (by simp; omega), (grownBy_putObj' W l o').block Bn (by omega) (by simp; omega)⟩
theorem tk_len (l : List Slot) (k : Nat) : (tk l k).length ≤ k := by
  have := List.length_filter_le (isAt l) (List.range k)
  simpa [tk] using this
set_option maxRecDepth 100000 in
set_option maxHeartbeats 2000000 in
theorem List_in {p q cp : Nat} {l : List Slot} {pad : List Value} {f m : Int} {w : World} (h : PoolAt w p q l pad cp f m) (hl : l.length ≤ 1024) : CallsIn Fence.wide 5 Try.prog 13 #[.pointer (some ⟨p, 0, none⟩)] w fun e W' => ∃ v, e = .returned v ∧ W'.ownsRow w.heap.size 3 1 v (tk l l.length).length ((tk l l.length).map (Value.int .i64)) ∧ Below w.heap.size w W' := by
  have hro : Fence.wide.round = none := rfl
  have h22 : Fence.wide.fn 22 := trivial
  have h25 : Fence.wide.fn 25 := trivial
  have hwd : Fence.wide.depth = none := rfl
  have h64 := tk_len l l.length
  have hp := h.lp
  have hq := h.lq
  obtain ⟨i0, hi, hz0, hz1, hz2⟩ := info_parts info3
  refine callsIn_of_wp_marks Try.func13 rfl trivial ?_ hro
  simp only [Try.ntmps13, List.size_toArray, List.length_cons, List.length_nil, Nat.reduceAdd, Nat.reduceSub, Array.replicate_succ, Array.replicate_zero, List.push_toArray, List.append_toArray, List.nil_append, List.cons_append]
  gi_wp2_with (gi_at_call 22; refine (taken_in Fence.wide _ h22 hro _ _).mono ?_; rintro e w' ⟨rfl, rfl⟩)
  have bO := Boxed.new w 42 (.slice none 0 0)
  have bN := Boxed.new (w.alloc (.cells #[.slice none 0 0] 42)) 24 (.pointer (some ⟨p, 0, none⟩))
  rw [World.size_alloc] at bN
  have hB0 : Below w.heap.size w ((w.alloc (.cells #[.slice none 0 0] 42)).alloc (.cells #[.pointer (some ⟨p, 0, none⟩)] 24)) := ((Below.refl _ w).alloc (Nat.le_refl _) _).alloc (by simp) _
  have hS : Stays ((w.alloc (.cells #[.slice none 0 0] 42)).alloc (.cells #[.pointer (some ⟨p, 0, none⟩)] 24)) (w.heap.size + 1) p q l pad cp f m := ⟨bN.cell, h.alloc.alloc⟩
  refine wpIn_rangeFunc_ownG hro (by decide) (gf := 25) (lb := #[.pointer (some ⟨w.heap.size + 1, 0, none⟩)]) rfl h25 (enters_of Try.func25 (by kernel_rfl) rfl)
    (taken1_stops 4 (w.heap.size + 1) p q cp l pad f m hl _ hS) Kc_t (Kc_b (by simp; omega) (by simp; omega) (by simp)) (Below.refl _ _) (fun _ => rfl)
    (fun pre W => (∃ v, Boxed W w.heap.size 42 v ∧ W.ownsRow w.heap.size 3 1 v pre.length (pre.map (Value.int .i64)) ∧ True) ∧ Boxed W (w.heap.size + 1) 24 (.pointer (some ⟨p, 0, none⟩)) ∧ Below w.heap.size w W)
    (fun _ _ _ => False)
    (OwnFrom.and (Own.from (holdsRow_own w.heap.size w.heap.size 42 3 1 (fun pre : List Int => pre.length) (fun pre : List Int => pre.map (Value.int .i64)) (fun (pre : List Int) v => True)) _) (OwnFrom.and (Own.from (boxed_own _ _ (fun _ => Value.pointer (some ⟨p, 0, none⟩))) _) (ownFrom_below (Nat.le_refl _) (by simp; omega))))
    (fun _ _ _ _ _ hs _ _ => hs)
    ⟨⟨_, bO.alloc _, World.ownsRow_nil _ _ _ _, trivial⟩, bN, hB0⟩
    (fun x => { tmps := #[.pointer (some ⟨p, 0, none⟩), undef, .pointer (some ⟨w.heap.size, 0, none⟩), .int .i64 x, .pointer (some ⟨p, 0, none⟩), .bool false, .pointer (some ⟨p, 0, none⟩), .func (.func 25) #[] #[.pointer (some ⟨w.heap.size + 1, 0, none⟩)], .int .i64 x, undef, undef, undef, undef, undef], defers := [] }) ?assign ?body ?done ?stop
  case assign =>
    intro l x W K hK
    gi_wp2
    first | exact hK | simpa using hK
  case body =>
    rintro lb pre x W ⟨⟨v, hv, hrow, -⟩, hbn, hB⟩ hlt
    have hc := hv.cell
    gi_wp2_with (gi_at_builtin; refine wpListIn_append_own _ rfl _ _ 42 rfl w.heap.size 3 i0 (.int .i64 0) 1 8 Try.underlying42 hi hz0 hz1 hz2 rfl (by decide) _ _ _ rfl (hrow.alloc _) ⟨W.heap.size, 0, none⟩ 1 1 [.int .i64 x] rfl rfl (cell_one_new _ _ _) (by simp [Value.oneCell']) (by unfold maxLen; omega) (by omega) (by have := hB.size; simp; omega) ?_; intro v' w1 hown' hgrow _; obtain ⟨g', cap', rfl⟩ := ownsRow_succ hown'; obtain ⟨hv1, hv2, hr2, hk2, hb2⟩ := hv.appended (by decide) hrow hB.size (Nat.le_refl _) hown' hgrow; have hc1 := hv1.cell; have hf1 := hv1.frozen)
    have hbn1 : Boxed (W.alloc (.cells #[.int .i64 x] 3)) (w.heap.size + 1) 24 (.pointer (some ⟨p, 0, none⟩)) := hbn.alloc _
    have hne : some (w.heap.size + 1) ≠ v.ownBlock := Boxed.not_row hbn (by decide) hrow
    have hbn2 : Boxed w1 (w.heap.size + 1) 24 (.pointer (some ⟨p, 0, none⟩)) := hbn1.kept hgrow hne
    have hbn' : Boxed (w1.setCell ⟨w.heap.size, 0, none⟩ (.slice (some ⟨g', 0, none⟩) (pre.length + 1) cap')) (w.heap.size + 1) 24 (.pointer (some ⟨p, 0, none⟩)) := hbn2.other (by omega) _
    exact ⟨hk2.from _, ⟨hb2.block p hp, hb2.block q hq, Eq.trans hbn' (Eq.symm hbn)⟩, ⟨_, hv2, by simpa using hr2, trivial⟩, hbn', hB.trans hb2⟩
  case done =>
    rintro D ys W hD rfl ⟨⟨v, hv, hrow, -⟩, _, hB⟩ hK
    obtain ⟨A, n, c, rfl⟩ : ∃ A n c, v = .slice A n c := by
      rcases hrow.2 with ⟨rfl, _⟩ | ⟨g, cap, cur, rfl, _⟩ <;> exact ⟨_, _, _, rfl⟩
    have hc := hv.cell
    have hf := hv.frozen
    gi_wp2
    have hne : some w.heap.size ≠ (Value.slice A n c).ownBlock := Boxed.not_row hv (by decide) hrow
    have hrow' : (W.setCell ⟨w.heap.size, 0, none⟩ (.slice A n c)).ownsRow w.heap.size 3 1 (.slice A n c) (tk l l.length).length ((tk l l.length).map (Value.int .i64)) :=
      own_move hrow (fun k hk => Below.heap_setCell W ⟨w.heap.size, 0, none⟩ _ k (fun e => hne (by rw [hk]; simpa using e.symm)))
    have hK' := (KeepsOthers.setCell W ⟨w.heap.size, 0, none⟩ (.slice A n c)).same D _ hK rfl
    refine ⟨by simp, .inl ⟨_, _, rfl, run_takeDeferred hK', ?_⟩⟩
    have hc5 := cell_kept (World.cell?_setCell_same' W ⟨w.heap.size, 0, none⟩ (.slice A n c) (by rw [hc]; rfl)) (grownBy_putObj' _ D (.deferred none)) (fun r e => by cases e; exact ⟨_, hK', rfl⟩)
    refine ⟨.slice A n c, ?_, _, rfl, ownsRow_putObj hrow' _ hK' rfl, (hB.setCell (p := ⟨w.heap.size, 0, none⟩) (Nat.le_refl _) _).trans (belowK_b (w := w) (Nat.le_refl _) _ D _ _ (by simp at hD; omega) hK' rfl rfl)⟩
    simp [results, Try.f13, go_sem, hc5]
  case stop =>
    rintro D c pre W _ _ h _
    exact h.elim
theorem list_at {p q cp : Nat} {l : List Slot} {pad : List Value} {f m : Int} {w : World} (h : PoolAt w p q l pad cp f m) (hl : l.length ≤ 1024) : Calls Try.prog 13 #[.pointer (some ⟨p, 0, none⟩)] w fun e W' => ∃ v, e = .returned v ∧ W'.ownsRow w.heap.size 3 1 v (tk l l.length).length ((tk l l.length).map (Value.int .i64)) ∧ Below w.heap.size w W' :=
  callsIn_wide.1 (List_in h hl)
end Go.Proofs.Ytmhnfcodppfaiaa.PoolCode
