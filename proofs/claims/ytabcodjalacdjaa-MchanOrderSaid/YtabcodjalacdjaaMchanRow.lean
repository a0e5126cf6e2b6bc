
/- mchan: Row. -/
import Derived.Test.YtabcodjalacdjaaMchanAll
import Derived.Laws.ResultCell
namespace Go.Proofs.Ytabcodjalacdjaa.MchanCode
open Go Go.RowKit Go.Shelf Go.Proofs.Ytabcodjalacdjaa.Obj Go.Proofs.Ytabcodjalacdjaa.Iter Go.Proofs.Ytabcodjalacdjaa.RingCode Go.Proofs.YtabcodjalacdjaaW.PrintWords Go.Proofs.YtabcodjalacdjaaW.PrintLast Go.Proofs.YtabcodjalacdjaaW.PrintMore
attribute [local go_sem] Oper.semAt_some
set_option linter.unusedVariables false
set_option linter.unusedSimpArgs false
set_option maxRecDepth 100000
theorem blk_own {β : Type} (B : Nat) (t : TypeId) (f : β → List Value) : Own (fun s W => Blk W B t (f s)) := fun s X Y row hs hg hrow =>
  hs.same (hg.block B hs.lt (fun e' => by obtain ⟨o, ho, hc⟩ := hrow B e'.symm; rw [show X.heap[B]? = _ from hs] at ho; cases ho; cases hc))
set_option maxHeartbeats 4000000 in
theorem Row_in {w : World} {c : Nat} {b : Bool} {A : Option Addr} {cap : Nat} {L : List Wt} (hSe : Sees w.heap.size w c b A cap L) :
    CallsIn Fence.wide 5 Try.prog 19 #[.pointer (some ⟨c, 0, none⟩), .bool b] w fun e W' => ∃ v, e = .returned v ∧ W'.ownsRow w.heap.size 48 3 v L.length (wcells L) ∧ Below w.heap.size w W' := by
  have hro : Fence.wide.round = none := rfl
  have h27 : Fence.wide.fn 27 := trivial
  have h36 : Fence.wide.fn 36 := trivial
  have hwd : Fence.wide.depth = none := rfl
  have hfew := hSe.few
  obtain ⟨i0, hi, hz0, hz1, hz2⟩ := info_parts wait_info
  refine callsIn_of_wp_marks Try.func19 rfl trivial ?_ hro
  simp only [Try.ntmps19, List.size_toArray, List.length_cons, List.length_nil, Nat.reduceAdd, Nat.reduceSub, Array.replicate_succ, Array.replicate_zero, List.push_toArray, List.append_toArray, List.nil_append, List.cons_append]
  gi_wp2_with (gi_at_call 27; refine (all_in Fence.wide _ h27 hro _ _ _).mono ?_; rintro e w' ⟨rfl, rfl⟩)
  have b4 := ((Boxed.new w 55 (.slice none 0 0)).alloc (.cells #[.pointer (some ⟨c, 0, none⟩)] 42)).alloc (.cells #[.bool b] 4)
  have bS := (Blk.new (w.alloc (.cells #[.slice none 0 0] 55)) 42 [.pointer (some ⟨c, 0, none⟩)]).alloc (.cells #[.bool b] 4)
  have bL := Blk.new ((w.alloc (.cells #[.slice none 0 0] 55)).alloc (.cells #[.pointer (some ⟨c, 0, none⟩)] 42)) 4 [.bool b]
  simp only [World.size_alloc] at b4 bS bL
  obtain ⟨W0, hW0⟩ : ∃ W0, W0 = ((w.alloc (.cells #[.slice none 0 0] 55)).alloc (.cells #[.pointer (some ⟨c, 0, none⟩)] 42)).alloc (.cells #[.bool b] 4) := ⟨_, rfl⟩
  have hsz : W0.heap.size = w.heap.size + 1 + 1 + 1 := by rw [hW0]; simp only [World.size_alloc]
  have hB0 : Below w.heap.size w W0 := by
    rw [hW0]
    exact (((Below.refl _ w).alloc (Nat.le_refl _) _).alloc (by simp) _).alloc (by simp; omega) _
  rw [← hW0] at b4 bS bL ⊢
  have hS : Stays W0 w.heap.size (w.heap.size + 1) (w.heap.size + 1 + 1) c b A cap L := ⟨bS, bL, hSe.below hB0⟩
  clear hW0
  refine wpIn_rangeFunc_ownH hro (by decide) (gf := 36) (lb := #[.pointer (some ⟨w.heap.size + 1, 0, none⟩), .pointer (some ⟨w.heap.size + 1 + 1, 0, none⟩)]) rfl h36 (enters_of Try.func36 (by kernel_rfl) rfl)
    (all1_stops 4 w.heap.size (w.heap.size + 1) (w.heap.size + 1 + 1) c b A cap L W0 (by omega) hS) Kp_t (Kp_b (by omega)) (Below.refl _ _) (fun _ => rfl)
    (fun pre W => (∃ v, Boxed W w.heap.size 55 v ∧ W.ownsRow w.heap.size 48 3 v pre.length (wcells pre) ∧ True) ∧ Below w.heap.size w W)
    (fun _ _ _ => False)
    (OwnFrom.and (Own.from (holdsRow_own w.heap.size w.heap.size 55 48 3 (fun pre : List Wt => pre.length) (fun pre : List Wt => wcells pre) (fun (pre : List Wt) v => True)) _) (ownFrom_below (Nat.le_refl _) (by omega)))
    (fun _ _ _ _ _ hs _ _ => hs)
    ⟨⟨_, b4, World.ownsRow_nil _ _ _ _, trivial⟩, hB0⟩
    (fun x a' W => ∃ Bx, w.heap.size < Bx ∧ Blk W Bx 48 [.int .i64 x.task, .int .i64 x.case, .int .i64 x.val] ∧ a' = { tmps := #[.pointer (some ⟨c, 0, none⟩), .bool b, undef, undef, .pointer (some ⟨w.heap.size, 0, none⟩), .pointer (some ⟨Bx, 0, none⟩), .pointer (some ⟨c, 0, none⟩), .bool false, .pointer (some ⟨c, 0, none⟩), .bool b, .func (.func 36) #[] #[.pointer (some ⟨w.heap.size + 1, 0, none⟩), .pointer (some ⟨w.heap.size + 1 + 1, 0, none⟩)], .agg #[.int .i64 x.task, .int .i64 x.case, .int .i64 x.val], undef, undef, undef, undef, undef], defers := [] })
    (fun x a' _ X Y row hs hg hr => by obtain ⟨Bx, h1, h2, h3⟩ := hs; exact ⟨Bx, h1, blk_own Bx _ (fun (_ : Unit) => _) () X Y row h2 hg (fun r e => (hr r e).2), h3⟩)
    ?assign ?body ?done ?stop
  case assign =>
    rintro l pre x W K ⟨⟨v, b1, b2, b3⟩, hB1⟩ hK
    simp only [Wt.v]
    gi_wp2
    exact hK _ _ ((KeepsOthers.alloc _ _).from _) ⟨(Below.refl _ W).alloc hB1.size _, Kt.alloc _ _ _⟩ ⟨⟨v, b1.alloc _, b2.alloc _, trivial⟩, hB1.alloc hB1.size _⟩ ⟨W.heap.size, b1.lt, Blk.new W _ _, rfl⟩
  case body =>
    rintro l pre x a' W hlw ⟨r, hr⟩ ⟨⟨v, b1, b2, b3⟩, hB1⟩ ⟨Bx, hBx, bX, rfl⟩ hlt
    have c1 := b1.cell
    have x0 : W.cell? ⟨Bx, 0, none⟩ = some (.int .i64 x.task) := bX.cell 0
    have x1 : W.cell? ⟨Bx, 1, none⟩ = some (.int .i64 x.case) := bX.cell 1
    have x2 : W.cell? ⟨Bx, 2, none⟩ = some (.int .i64 x.val) := bX.cell 2
    have hwl := wcells_len pre
    gi_wp2_with (gi_at_builtin; refine wpListIn_append_own _ rfl _ _ 55 rfl w.heap.size 48 i0 _ 3 24 Try.underlying55 hi hz0 hz1 hz2 rfl (by decide) _ _ _ rfl (b2.alloc _) ⟨W.heap.size, 0, none⟩ 1 1 [.int .i64 x.task, .int .i64 x.case, .int .i64 x.val] rfl rfl (fun j u hu => by rw [addr_add0, (Blk.new W _ _).cell j]; exact hu) (by simp [Value.oneCell']) (by unfold maxLen; omega) (by omega) (by have := hB1.size; simp; omega) ?_; intro v' w1 hown' hgrow _; obtain ⟨g', cap', rfl⟩ := ownsRow_succ hown'; obtain ⟨hv1, hv2, hr2, hk2, hb2⟩ := b1.appended (by decide) b2 hB1.size (Nat.le_refl _) hown' hgrow; have hc1 := hv1.cell; have hf1 := hv1.frozen)
    have hkt : Kt KT W (w1.setCell ⟨w.heap.size, 0, none⟩ (.slice (some ⟨g', 0, none⟩) (pre.length + 1) cap')) :=
      Kt_t (Kt.alloc _ W (.cells #[.int .i64 x.task, .int .i64 x.case, .int .i64 x.val] 48)) (Kt_t (Kt.grown (b2.alloc _) hgrow (by decide)) (Kt.set hv1 (by decide) _ rfl _))
    exact ⟨hk2.from _, ⟨hb2, hkt⟩, ⟨_, hv2, by rw [wcells_app, wcells_one, List.length_append]; exact hr2, trivial⟩, hB1.trans hb2⟩
  case done =>
    rintro D ys W hD rfl ⟨⟨v, hv, hrow, -⟩, hB⟩ hK
    obtain ⟨A1, n1, c1, rfl⟩ : ∃ A n c, v = .slice A n c := by
      rcases hrow.2 with ⟨rfl, _⟩ | ⟨g, cap, cur, rfl, _⟩ <;> exact ⟨_, _, _, rfl⟩
    have hc := hv.cell
    have hf := hv.frozen
    gi_wp2
    have hne : some w.heap.size ≠ (Value.slice A1 n1 c1).ownBlock := Boxed.not_row hv (by decide) hrow
    have hrow' := own_move hrow (w1 := W.setCell ⟨w.heap.size, 0, none⟩ (.slice A1 n1 c1)) (fun k hk => Below.heap_setCell W ⟨w.heap.size, 0, none⟩ _ k (fun e => hne (by rw [hk]; simpa using e.symm)))
    have hK' := (KeepsOthers.setCell W ⟨w.heap.size, 0, none⟩ (.slice A1 n1 c1)).same D _ hK rfl
    refine ⟨by simp, .inl ⟨_, _, rfl, run_takeDeferred hK', ?_⟩⟩
    have hc5 := cell_kept (World.cell?_setCell_same' W ⟨w.heap.size, 0, none⟩ (.slice A1 n1 c1) (by rw [hc]; rfl)) (grownBy_putObj' _ D (.deferred none)) (fun r e => by cases e; exact ⟨_, hK', rfl⟩)
    refine ⟨.slice A1 n1 c1, ?_, _, rfl, ownsRow_putObj hrow' _ hK' rfl, (hB.setCell (p := ⟨w.heap.size, 0, none⟩) (Nat.le_refl _) _).trans (belowK_b (w := w) (Nat.le_refl _) _ D _ _ (by omega) hK' rfl rfl)⟩
    simp [results, Try.f19, go_sem, hc5]
  case stop =>
    rintro D c pre W _ _ h _
    exact h.elim
theorem row_at {w : World} {c : Nat} {b : Bool} {A : Option Addr} {cap : Nat} {L : List Wt} (hSe : Sees w.heap.size w c b A cap L) :
    Calls Try.prog 19 #[.pointer (some ⟨c, 0, none⟩), .bool b] w fun e W' => ∃ v, e = .returned v ∧ W'.ownsRow w.heap.size 48 3 v L.length (wcells L) ∧ Below w.heap.size w W' :=
  callsIn_wide.1 (Row_in hSe)
theorem own_lower3 {w : World} {b b' : Nat} {e : TypeId} {size n : Nat} {v : Value} {xs : List Value} (h : w.ownsRow b e size v n xs) (hb : b' ≤ b) : w.ownsRow b' e size v n xs := by
  obtain ⟨h1, h2⟩ := h
  refine ⟨h1, ?_⟩
  rcases h2 with h2 | ⟨g, cap, cur, e, hg, r⟩
  · exact .inl h2
  · exact .inr ⟨g, cap, cur, e, Nat.le_trans hb hg, r⟩
def zeroW : Wt := ⟨0, 0, 0⟩
set_option maxHeartbeats 2000000 in
theorem first_at {w : World} {c : Nat} {b : Bool} {A : Option Addr} {cap : Nat} {L : List Wt} (hSe : Sees w.heap.size w c b A cap L) :
    Calls Try.prog 42 #[.pointer (some ⟨c, 0, none⟩), .bool b] w fun e W' => e = .returned (.tuple #[(L.headD zeroW).v, .bool (!L.isEmpty)]) ∧ Below w.heap.size w W' := by
  have hB0 : Below w.heap.size w (w.alloc (.cells #[.int .i64 0, .int .i64 0, .int .i64 0] 48)) := (Below.refl _ w).alloc (Nat.le_refl _) _
  have hS0 := (hSe.below hB0)
  have hS1 : Sees (w.alloc (.cells #[.int .i64 0, .int .i64 0, .int .i64 0] 48)).heap.size (w.alloc (.cells #[.int .i64 0, .int .i64 0, .int .i64 0] 48)) c b A cap L :=
    ⟨Nat.lt_of_lt_of_le hS0.lt hB0.size, hS0.hd, hS0.le, hS0.few, fun i hi => by obtain ⟨g, o, e, hg, h⟩ := hS0.row i hi; exact ⟨g, o, e, Nat.lt_of_lt_of_le hg hB0.size, h⟩⟩
  have hX := Blk.new w 48 [.int .i64 0, .int .i64 0, .int .i64 0]
  have hR := row_at hS1
  go_enter Try.func42, Try.ntmps42
  go_wp2_with (fail)
  refine hR.mono ?_
  rintro e w1 ⟨v, rfl, hrow, hb1⟩
  obtain ⟨A1, c1, rfl⟩ := own_form hrow
  have hX1 := hX.same (hb1.block _ hX.lt)
  have hB1 := hB0.trans (hb1.mono hB0.size)
  have hfz := hX1.frozen
  have hX1H := hid hX1
  have z0 : w1.cell? ⟨w.heap.size, 0, none⟩ = some (.int .i64 0) := hX1.cell 0
  have z1 : w1.cell? ⟨w.heap.size, 1, none⟩ = some (.int .i64 0) := hX1.cell 1
  have z2 : w1.cell? ⟨w.heap.size, 2, none⟩ = some (.int .i64 0) := hX1.cell 2
  have fin : ∀ x : Wt, Blk (((w1.setCell ⟨w.heap.size, 0, none⟩ (.int .i64 x.task)).setCell ⟨w.heap.size, 1, none⟩ (.int .i64 x.case)).setCell ⟨w.heap.size, 2, none⟩ (.int .i64 x.val)) w.heap.size 48 x.cells ∧
      Below w.heap.size w (((w1.setCell ⟨w.heap.size, 0, none⟩ (.int .i64 x.task)).setCell ⟨w.heap.size, 1, none⟩ (.int .i64 x.case)).setCell ⟨w.heap.size, 2, none⟩ (.int .i64 x.val)) := fun x =>
    ⟨((hX1.set 0 (.int .i64 x.task)).set 1 (.int .i64 x.case)).set 2 (.int .i64 x.val), ((hB1.setCell (p := ⟨w.heap.size, 0, none⟩) (Nat.le_refl _) _).setCell (p := ⟨w.heap.size, 1, none⟩) (Nat.le_refl _) _).setCell (p := ⟨w.heap.size, 2, none⟩) (Nat.le_refl _) _⟩
  have finH := hid fin
  clear hR hS0 hS1 hX hX1 fin
  cases L with
  | nil =>
    go_wp2_with (fail)
    obtain ⟨k1, k2⟩ := finH.out zeroW
    have k1' : Blk _ _ _ _ := k1
    simp only [zeroW] at k1 k2
    generalize ((w1.setCell ⟨w.heap.size, 0, none⟩ (.int .i64 0)).setCell ⟨w.heap.size, 1, none⟩ (.int .i64 0)).setCell ⟨w.heap.size, 2, none⟩ (.int .i64 0) = W3 at *
    have y0 : W3.cell? ⟨w.heap.size, 0, none⟩ = some (.int .i64 0) := k1.cell 0
    have y1 : W3.cell? ⟨w.heap.size, 1, none⟩ = some (.int .i64 0) := k1.cell 1
    have y2 : W3.cell? ⟨w.heap.size, 2, none⟩ = some (.int .i64 0) := k1.cell 2
    refine bodyPost_ret (v := .tuple #[.agg #[.int .i64 0, .int .i64 0, .int .i64 0], .bool false]) (by rw [results_cell_tmp rfl]; go_simp) rfl ?_
    exact ⟨rfl, k2⟩
  | cons x l =>
    obtain ⟨g, o, rfl, _, _, _, e0, e1, e2⟩ := (show WRow w.heap.size w1 (.slice A1 (x :: l).length c1) (x :: l) from q_of_own (own_lower3 hrow hB0.size)).at (i := 0) (by simp)
    rw [show (x :: l).getD 0 default = x from rfl, Nat.zero_mul, Nat.add_zero] at e0 e1 e2
    have hp : (0 : Int) < ((x :: l).length : Int) := by simp
    go_wp2_with (fail)
    obtain ⟨k1, k2⟩ := finH.out x
    generalize ((w1.setCell ⟨w.heap.size, 0, none⟩ (.int .i64 x.task)).setCell ⟨w.heap.size, 1, none⟩ (.int .i64 x.case)).setCell ⟨w.heap.size, 2, none⟩ (.int .i64 x.val) = W3 at *
    have y0 : W3.cell? ⟨w.heap.size, 0, none⟩ = some (.int .i64 x.task) := k1.cell 0
    have y1 : W3.cell? ⟨w.heap.size, 1, none⟩ = some (.int .i64 x.case) := k1.cell 1
    have y2 : W3.cell? ⟨w.heap.size, 2, none⟩ = some (.int .i64 x.val) := k1.cell 2
    refine bodyPost_ret (v := .tuple #[.agg #[.int .i64 x.task, .int .i64 x.case, .int .i64 x.val], .bool true]) (by rw [results_cell_tmp rfl]; go_simp) rfl ?_
    exact ⟨rfl, k2⟩
end Go.Proofs.Ytabcodjalacdjaa.MchanCode
