/- set.List, set.Len and set.Least, which go over a set by a range over a function, tell what a loop over 0 to 63 tells. -/
import Derived.Test.YtghbcdpnngheoaaSetAll
namespace Go.Proofs.Ytghbcdpnngheoaa.PSet
open Go.RowKit Go.Shelf Go.Proofs.YtghbcdpnngheoaaW.PrintWords Go.Proofs.YtghbcdpnngheoaaW.PrintLast Go.Proofs.YtghbcdpnngheoaaW.PrintMore
attribute [local go_sem] Oper.semAt_some
set_option linter.unusedVariables false

theorem cell_box {W : World} {B : Nat} {v : Value} {t : TypeId} (h : W.heap[B]? = some (.cells #[v] t (0, 0))) : W.cell? ⟨B, 0, none⟩ = some v ∧ W.frozen? ⟨B, 0, none⟩ = false := by
  constructor <;> simp [World.cell?, World.frozen?, h]
theorem cell_new (W : World) (v : Value) (t : TypeId) : (W.alloc (.cells #[v] t)).cell? ⟨W.heap.size, 0, none⟩ = some v ∧ (W.alloc (.cells #[v] t)).frozen? ⟨W.heap.size, 0, none⟩ = false := cell_box (World.alloc_heap_new W _)
theorem cell_al {W : World} {a : Addr} {v : Value} (o : Obj) (h : W.cell? a = some v) : (W.alloc o).cell? a = some v := cell_kept h (World.grownBy_alloc W o none) (fun r e => by cases e)
theorem frozen_al {W : World} {a : Addr} {v : Value} (o : Obj) (h : W.cell? a = some v) (hf : W.frozen? a = false) : (W.alloc o).frozen? a = false := (frozen_kept h (World.grownBy_alloc W o none) (fun r e => by cases e)).trans hf

/-- What a round of the loop keeps: the captured set's cell. -/
def Kc (Bn : Nat) (W W' : World) : Prop := W'.cell? ⟨Bn, 0, none⟩ = W.cell? ⟨Bn, 0, none⟩
theorem Kc_t {Bn : Nat} {A B C : World} (h : Kc Bn A B) (k : Kc Bn B C) : Kc Bn A C := Eq.trans k h
theorem Kc_b {Bn : Nat} {w : World} (hn : Bn < w.heap.size) (W : World) (l : Nat) (o o' : Obj) (hl : w.heap.size ≤ l) (h : W.heap[l]? = some o) (_ : o.isCells = false) (_ : o.isWalk = false) : Kc Bn W (W.putObj l o') := by
  have := (grownBy_putObj' W l o').block Bn (by have := (Array.getElem?_eq_some_iff.1 h).1; omega) (by simp; omega)
  unfold Kc World.cell?
  simp [this]
theorem Kc_set {Bn : Nat} (W : World) (b : Nat) (v : Value) (h : b ≠ Bn) : Kc Bn W (W.setCell ⟨b, 0, none⟩ v) := by
  have := Below.heap_setCell W ⟨b, 0, none⟩ v Bn (fun e => h e.symm)
  unfold Kc World.cell?
  simp [this]
theorem all1_stops (n Bn : Nat) (s : Int) (w : World) (hb : Bn < w.heap.size) (hBn : w.cell? ⟨Bn, 0, none⟩ = some (.int .u64 s)) :
    SeqStopsK Fence.wide n Try.prog 24 #[.pointer (some ⟨Bn, 0, none⟩)] (fun x : Int => #[Value.int .i64 x]) (Kc Bn) (fun ys => ys = upto s 64) (fun pre => pre <+: upto s 64) (upto s 64).length w := fun l J Jx W hW hJ _ hY h0 =>
  all1_in n l Bn s J Jx (fun pre W m h => hJ pre W (W.drewN m) none h ⟨rfl, rfl, rfl, Nat.le_refl _, fun _ _ _ => rfl⟩ (fun r e => by cases e)) hY W ((hW.cell (p := ⟨Bn, 0, none⟩) hb).trans hBn) h0
theorem upto_len (s : Int) : (upto s 64).length ≤ 64 := by
  have := List.length_filter_le (hasB s) (List.range 64)
  simpa [upto] using this

set_option maxRecDepth 100000 in
set_option maxHeartbeats 2000000 in
theorem Len_in (s : Int) (w : World) : CallsIn Fence.wide 5 Try.prog 14 #[.int .u64 s] w fun e W' => e = .returned (.int .i64 ((upto s 64).length : Int)) ∧ Below w.heap.size w W' := by
  have hro : Fence.wide.round = none := rfl
  have h21 : Fence.wide.fn 21 := trivial
  have h24 : Fence.wide.fn 24 := trivial
  have hwd : Fence.wide.depth = none := rfl
  refine callsIn_of_wp_marks Try.func14 rfl trivial ?_ hro
  simp only [Try.ntmps14, List.size_toArray, List.length_cons, List.length_nil, Nat.reduceAdd, Nat.reduceSub, Array.replicate_succ, Array.replicate_zero, List.push_toArray, List.append_toArray, List.nil_append, List.cons_append]
  gi_wp2_with (gi_at_call 21; refine (all_in Fence.wide _ h21 hro _ _).mono ?_; rintro e w' ⟨rfl, rfl⟩)
  have hs := cell_new w (.int .i64 0) 3
  have hb := cell_new (w.alloc (.cells #[.int .i64 0] 3)) (.int .u64 s) 23
  rw [World.size_alloc] at hb
  have hB0 : Below w.heap.size w ((w.alloc (.cells #[.int .i64 0] 3)).alloc (.cells #[.int .u64 s] 23)) := ((Below.refl _ w).alloc (Nat.le_refl _) _).alloc (by simp) _
  refine wpIn_rangeFunc_ownF hro (by decide) (gf := 24) (lb := #[.pointer (some ⟨w.heap.size + 1, 0, none⟩)]) rfl h24 (enters_of Try.func24 (by kernel_rfl) rfl)
    (all1_stops 4 (w.heap.size + 1) s _ (by simp) hb.1) Kc_t (Kc_b (by simp)) (Below.refl _ _) (fun _ => rfl)
    (fun pre W => (W.cell? ⟨w.heap.size, 0, none⟩ = some (.int .i64 (pre.length : Int)) ∧ W.frozen? ⟨w.heap.size, 0, none⟩ = false) ∧ Below w.heap.size w W)
    (fun _ _ _ => False)
    (OwnFrom.and (Own.from (fun s A B row hs hg hr => ⟨cell_kept hs.1 hg hr, (frozen_kept hs.1 hg hr).trans hs.2⟩) _) (ownFrom_below (Nat.le_refl _) (by simp; omega)))
    (fun _ _ _ _ _ hs _ _ => hs)
    ⟨⟨cell_al _ hs.1, frozen_al _ hs.1 hs.2⟩, hB0⟩
    (fun x => { tmps := #[.int .u64 s, undef, .pointer (some ⟨w.heap.size, 0, none⟩), .int .u64 s, .func (.func 24) #[] #[.pointer (some ⟨w.heap.size + 1, 0, none⟩)], .int .i64 x, undef, undef, undef], defers := [] }) ?assign ?body ?done ?stop
  case assign =>
    intro l x W K hK
    gi_wp2
    first | exact hK | simpa using hK
  case body =>
    rintro l pre x W ⟨⟨hc, hf⟩, hB⟩ hlen
    have h64 := upto_len s
    have hp : (pre.length : Int) < 64 := by omega
    gi_wp2
    exact ⟨KeepsOthers.setCell _ _ _, Kc_set _ _ _ (by omega), ⟨by rw [List.length_append]; exact World.cell?_setCell_same' _ _ _ (by rw [hc]; rfl), by rw [World.frozen?_setCell]; exact hf⟩, hB.setCell (p := ⟨w.heap.size, 0, none⟩) (Nat.le_refl _) _⟩
  case done =>
    rintro D ys W hD rfl ⟨⟨hc, hf⟩, hB⟩ hK
    gi_wp2
    have hK' := (KeepsOthers.setCell W ⟨w.heap.size, 0, none⟩ (.int .i64 ((upto s 64).length : Int))).same D _ hK rfl
    refine ⟨by simp, .inl ⟨_, _, rfl, run_takeDeferred hK', ?_⟩⟩
    have hc5 := cell_kept (World.cell?_setCell_same' W ⟨w.heap.size, 0, none⟩ (.int .i64 ((upto s 64).length : Int)) (by rw [hc]; rfl)) (grownBy_putObj' _ D (.deferred none)) (fun r e => by cases e; exact ⟨_, hK', rfl⟩)
    refine ⟨.int .i64 ((upto s 64).length : Int), ?_, rfl, (hB.setCell (p := ⟨w.heap.size, 0, none⟩) (Nat.le_refl _) _).trans (belowK_b (w := w) (Nat.le_refl _) _ D _ _ (by simp at hD; omega) hK' rfl rfl)⟩
    simp [results, Try.f14, go_sem, hc5]
  case stop =>
    rintro D c pre W _ _ h _
    exact h.elim
set_option maxRecDepth 100000 in
set_option maxHeartbeats 2000000 in
theorem List_in (s : Int) (w : World) : CallsIn Fence.wide 5 Try.prog 16 #[.int .u64 s] w fun e W' => ∃ v, e = .returned v ∧ W'.ownsRow w.heap.size 3 1 v (upto s 64).length ((upto s 64).map (Value.int .i64)) ∧ Below w.heap.size w W' := by
  have hro : Fence.wide.round = none := rfl
  have h21 : Fence.wide.fn 21 := trivial
  have h24 : Fence.wide.fn 24 := trivial
  have hwd : Fence.wide.depth = none := rfl
  have h64 := upto_len s
  obtain ⟨i0, hi, hz0, hz1, hz2⟩ := info_parts info3
  refine callsIn_of_wp_marks Try.func16 rfl trivial ?_ hro
  simp only [Try.ntmps16, List.size_toArray, List.length_cons, List.length_nil, Nat.reduceAdd, Nat.reduceSub, Array.replicate_succ, Array.replicate_zero, List.push_toArray, List.append_toArray, List.nil_append, List.cons_append]
  gi_wp2_with (gi_at_call 21; refine (all_in Fence.wide _ h21 hro _ _).mono ?_; rintro e w' ⟨rfl, rfl⟩)
  have bO := Boxed.new w 24 (.slice none 0 0)
  have bN := Boxed.new (w.alloc (.cells #[.slice none 0 0] 24)) 23 (.int .u64 s)
  rw [World.size_alloc] at bN
  have hB0 : Below w.heap.size w ((w.alloc (.cells #[.slice none 0 0] 24)).alloc (.cells #[.int .u64 s] 23)) := ((Below.refl _ w).alloc (Nat.le_refl _) _).alloc (by simp) _
  refine wpIn_rangeFunc_ownG hro (by decide) (gf := 24) (lb := #[.pointer (some ⟨w.heap.size + 1, 0, none⟩)]) rfl h24 (enters_of Try.func24 (by kernel_rfl) rfl)
    (all1_stops 4 (w.heap.size + 1) s _ (by simp) bN.cell) Kc_t (Kc_b (by simp)) (Below.refl _ _) (fun _ => rfl)
    (fun pre W => (∃ v, Boxed W w.heap.size 24 v ∧ W.ownsRow w.heap.size 3 1 v pre.length (pre.map (Value.int .i64)) ∧ True) ∧ Boxed W (w.heap.size + 1) 23 (.int .u64 s) ∧ Below w.heap.size w W)
    (fun _ _ _ => False)
    (OwnFrom.and (Own.from (holdsRow_own w.heap.size w.heap.size 24 3 1 (fun pre : List Int => pre.length) (fun pre : List Int => pre.map (Value.int .i64)) (fun (pre : List Int) v => True)) _) (OwnFrom.and (Own.from (boxed_own _ _ (fun _ => Value.int .u64 s)) _) (ownFrom_below (Nat.le_refl _) (by simp; omega))))
    (fun _ _ _ _ _ hs _ _ => hs)
    ⟨⟨_, bO.alloc _, World.ownsRow_nil _ _ _ _, trivial⟩, bN, hB0⟩
    (fun x => { tmps := #[.int .u64 s, undef, .pointer (some ⟨w.heap.size, 0, none⟩), .int .i64 x, .int .u64 s, .func (.func 24) #[] #[.pointer (some ⟨w.heap.size + 1, 0, none⟩)], .int .i64 x, undef, undef, undef, undef, undef], defers := [] }) ?assign ?body ?done ?stop
  case assign =>
    intro l x W K hK
    gi_wp2
    first | exact hK | simpa using hK
  case body =>
    rintro l pre x W ⟨⟨v, hv, hrow, -⟩, hbn, hB⟩ hlt
    have hc := hv.cell
    gi_wp2_with (gi_at_builtin; refine wpListIn_append_own _ rfl _ _ 24 rfl w.heap.size 3 i0 (.int .i64 0) 1 8 Try.underlying24 hi hz0 hz1 hz2 rfl (by decide) _ _ _ rfl (hrow.alloc _) ⟨W.heap.size, 0, none⟩ 1 1 [.int .i64 x] rfl rfl (cell_one_new _ _ _) (by simp [Value.oneCell']) (by unfold maxLen; omega) (by omega) (by have := hB.size; simp; omega) ?_; intro v' w1 hown' hgrow _; obtain ⟨g', cap', rfl⟩ := ownsRow_succ hown'; obtain ⟨hv1, hv2, hr2, hk2, hb2⟩ := hv.appended (by decide) hrow hB.size (Nat.le_refl _) hown' hgrow; have hc1 := hv1.cell; have hf1 := hv1.frozen)
    have hbn1 : Boxed (W.alloc (.cells #[.int .i64 x] 3)) (w.heap.size + 1) 23 (.int .u64 s) := hbn.alloc _
    have hne : some (w.heap.size + 1) ≠ v.ownBlock := Boxed.not_row hbn (by decide) hrow
    have hbn2 : Boxed w1 (w.heap.size + 1) 23 (.int .u64 s) := hbn1.kept hgrow hne
    have hbn' : Boxed (w1.setCell ⟨w.heap.size, 0, none⟩ (.slice (some ⟨g', 0, none⟩) (pre.length + 1) cap')) (w.heap.size + 1) 23 (.int .u64 s) := hbn2.other (by omega) _
    exact ⟨hk2.from _, hbn'.cell.trans hbn.cell.symm, ⟨_, hv2, by simpa using hr2, trivial⟩, hbn', hB.trans hb2⟩
  case done =>
    rintro D ys W hD rfl ⟨⟨v, hv, hrow, -⟩, _, hB⟩ hK
    obtain ⟨A, n, c, rfl⟩ : ∃ A n c, v = .slice A n c := by
      rcases hrow.2 with ⟨rfl, _⟩ | ⟨g, cap, cur, rfl, _⟩ <;> exact ⟨_, _, _, rfl⟩
    have hc := hv.cell
    have hf := hv.frozen
    gi_wp2
    have hne : some w.heap.size ≠ (Value.slice A n c).ownBlock := Boxed.not_row hv (by decide) hrow
    have hrow' : (W.setCell ⟨w.heap.size, 0, none⟩ (.slice A n c)).ownsRow w.heap.size 3 1 (.slice A n c) (upto s 64).length ((upto s 64).map (Value.int .i64)) :=
      own_move hrow (fun k hk => Below.heap_setCell W ⟨w.heap.size, 0, none⟩ _ k (fun e => hne (by rw [hk]; simpa using e.symm)))
    have hK' := (KeepsOthers.setCell W ⟨w.heap.size, 0, none⟩ (.slice A n c)).same D _ hK rfl
    refine ⟨by simp, .inl ⟨_, _, rfl, run_takeDeferred hK', ?_⟩⟩
    have hc5 := cell_kept (World.cell?_setCell_same' W ⟨w.heap.size, 0, none⟩ (.slice A n c) (by rw [hc]; rfl)) (grownBy_putObj' _ D (.deferred none)) (fun r e => by cases e; exact ⟨_, hK', rfl⟩)
    refine ⟨.slice A n c, ?_, _, rfl, ownsRow_putObj hrow' _ hK' rfl, (hB.setCell (p := ⟨w.heap.size, 0, none⟩) (Nat.le_refl _) _).trans (belowK_b (w := w) (Nat.le_refl _) _ D _ _ (by simp at hD; omega) hK' rfl rfl)⟩
    simp [results, Try.f16, go_sem, hc5]
  case stop =>
    rintro D c pre W _ _ h _
    exact h.elim
theorem stepR_scope' {P : Program} {b : Frame} {a : Act} {k : List Item} {cs : List Frame} {w : World} {c : Code} : step P (lone (b.atR a (.code (.scope c) :: k)) cs w) = .next (lone (b.atR a (.code c :: .inScope c :: k)) cs w) :=
  step_lone_go (by simp [stepG, stepG.exec, Frame.atR])
theorem stepR_inScope' {P : Program} {b : Frame} {a : Act} {k : List Item} {cs : List Frame} {w : World} {c : Code} : step P (lone (b.atR a (.inScope c :: k)) cs w) = .next (lone (b.atR a k) cs w) :=
  step_lone_go (by simp [stepG, stepG.exec, Frame.atR])
/-- A scope through which the run goes without a goto, inside a fence. -/
theorem wpIn_scope_straight' {F : Fence} {n : Nat} {P : Program} {Q : Exit → Act → World → Prop} {a : Act} {w : World} {c : Code} (h : c.wpIn F n P (Exit.noGoto Q) a w) : (Code.scope c).wpIn F n P Q a w := by
  intro b k cs hro hb hr
  have h0 : (lone (b.atR a (.code (.scope c) :: k)) cs w).fenced P F := fenced_calm hb hr rfl
  obtain ⟨e, a₁, w₁, hq, harr⟩ := h b (.inScope c :: k) cs hro hb hr
  cases e with
  | normal => exact ⟨.normal, a₁, w₁, hq, .head h0 stepR_scope' (StepsIn.trans harr (.one (fenced_calm hb hr rfl) stepR_inScope'))⟩
  | exit id =>
    have hx : exitTo id (.inScope c :: k) = exitTo id k := by simp [exitTo]
    exact ⟨.exit id, a₁, w₁, hq, fun k' hk => .head h0 stepR_scope' (harr.1 k' (by rw [hx]; exact hk)),
      fun hr' hk => let ⟨k₁, h1, h2⟩ := harr.2 hr' (by rw [hx]; exact hk); ⟨k₁, h1, .head h0 stepR_scope' h2⟩⟩
  | goto l => exact hq.elim
  | ret => exact ⟨_, a₁, w₁, hq, .of_steps (.one h0 stepR_scope') harr⟩
  | panic ch => exact ⟨_, a₁, w₁, hq, .of_steps (.one h0 stepR_scope') harr⟩
  | outgrown => exact ⟨_, a₁, w₁, hq, .of_steps (.one h0 stepR_scope') harr⟩

set_option maxRecDepth 100000 in
set_option maxHeartbeats 2000000 in
theorem Least_in (s : Int) (w : World) : CallsIn Fence.wide 5 Try.prog 6 #[.int .u64 s] w fun e W' => e = .returned (.tuple #[.int .i64 ((upto s 64).headD 0), .bool (!(upto s 64).isEmpty)]) ∧ Below w.heap.size w W' := by
  have hro : Fence.wide.round = none := rfl
  have h21 : Fence.wide.fn 21 := trivial
  have h24 : Fence.wide.fn 24 := trivial
  have hwd : Fence.wide.depth = none := rfl
  refine callsIn_of_wp_marks Try.func6 rfl trivial ?_ hro
  simp only [Try.ntmps6, List.size_toArray, List.length_cons, List.length_nil, Nat.reduceAdd, Nat.reduceSub, Array.replicate_succ, Array.replicate_zero, List.push_toArray, List.append_toArray, List.nil_append, List.cons_append]
  gi_wp2
  refine wpIn_scope_straight' ?_
  gi_wp2
  refine wpIn_label ?_
  gi_wp2_with (gi_at_call 21; refine (all_in Fence.wide _ h21 hro _ _).mono ?_; rintro e w' ⟨rfl, rfl⟩)
  have b0 := Boxed.new w 3 (.int .i64 0)
  have b1 := Boxed.new (w.alloc (.cells #[.int .i64 0] 3)) 4 (.bool false)
  have b2 := Boxed.new ((w.alloc (.cells #[.int .i64 0] 3)).alloc (.cells #[.bool false] 4)) 23 (.int .u64 s)
  simp only [World.size_alloc] at b1 b2
  have hB0 : Below w.heap.size w (((w.alloc (.cells #[.int .i64 0] 3)).alloc (.cells #[.bool false] 4)).alloc (.cells #[.int .u64 s] 23)) := (((Below.refl _ w).alloc (Nat.le_refl _) _).alloc (by simp) _).alloc (by simp; omega) _
  refine wpIn_rangeFunc_ownF hro (by decide) (gf := 24) (lb := #[.pointer (some ⟨w.heap.size + 1 + 1, 0, none⟩)]) rfl h24 (enters_of Try.func24 (by kernel_rfl) rfl)
    (all1_stops 4 (w.heap.size + 1 + 1) s _ (by simp) b2.cell) Kc_t (Kc_b (by simp)) (Below.refl _ _) (fun _ => rfl)
    (fun pre W => (pre = [] ∧ Boxed W w.heap.size 3 (.int .i64 0) ∧ Boxed W (w.heap.size + 1) 4 (.bool false)) ∧ Below w.heap.size w W)
    (fun c pre W => (c = .exit 0 ∧ ∃ x, pre = [x] ∧ Boxed W w.heap.size 3 (.int .i64 x) ∧ Boxed W (w.heap.size + 1) 4 (.bool true)) ∧ Below w.heap.size w W)
    (OwnFrom.and (Own.from (fun s A B row hs hg hr => ⟨hs.1, boxed_own _ _ (fun _ : Unit => _) () A B row hs.2.1 hg hr, boxed_own _ _ (fun _ : Unit => _) () A B row hs.2.2 hg hr⟩) _) (ownFrom_below (Nat.le_refl _) (by simp; omega)))
    (fun c => OwnFrom.and (Own.from (fun s A B row hs hg hr => ⟨hs.1, hs.2.choose, hs.2.choose_spec.1, boxed_own _ _ (fun _ : Unit => _) () A B row hs.2.choose_spec.2.1 hg hr, boxed_own _ _ (fun _ : Unit => _) () A B row hs.2.choose_spec.2.2 hg hr⟩) _) (ownFrom_below (Nat.le_refl _) (by simp; omega)))
    ⟨⟨rfl, (b0.alloc _).alloc _, b1.alloc _⟩, hB0⟩
    (fun x => { tmps := #[.int .u64 s, undef, .pointer (some ⟨w.heap.size, 0, none⟩), .pointer (some ⟨w.heap.size + 1, 0, none⟩), .int .i64 x, .int .u64 s, .func (.func 24) #[] #[.pointer (some ⟨w.heap.size + 1 + 1, 0, none⟩)], .int .i64 x, undef, undef, undef], defers := [] }) ?assign ?body ?done ?stop
  case assign =>
    intro l x W K hK
    gi_wp2
    first | exact hK | simpa using hK
  case body =>
    rintro l pre x W ⟨⟨rfl, h0, h1⟩, hB⟩ hlen
    have hc0 := h0.cell
    have hc1 := h1.cell
    have hf0 := h0.frozen
    have hf1 := h1.frozen
    gi_wp2
    exact ⟨(KeepsOthers.setCell _ _ _).trans (KeepsOthers.setCell _ _ _), ⟨rfl, x, rfl, (h0.set _).other (by omega) _, (h1.other (by omega) _).set _⟩, (hB.setCell (p := ⟨w.heap.size, 0, none⟩) (Nat.le_refl _) _).setCell (p := ⟨w.heap.size + 1, 0, none⟩) (by simp) _⟩
  case done =>
    rintro D ys W hD hys ⟨⟨rfl, h0, h1⟩, hB⟩ hK
    have hc0 := h0.cell
    have hc1 := h1.cell
    have hf0 := h0.frozen
    have hf1 := h1.frozen
    gi_wp2
    gi_region
    gi_wp2
    (try rw [Exit.noGoto_ret])
    obtain ⟨W2, hW2⟩ : ∃ W2, ((W.setCell ⟨w.heap.size, 0, none⟩ (.int .i64 0)).setCell ⟨w.heap.size + 1, 0, none⟩ (.bool false)).drew = W2 := ⟨_, rfl⟩
    have g0 : Boxed W2 w.heap.size 3 (.int .i64 0) := by rw [← hW2]; exact (h0.set _).other (by omega) _
    have g1 : Boxed W2 (w.heap.size + 1) 4 (.bool false) := by rw [← hW2]; exact (h1.other (by omega) _).set _
    have hK2 : W2.heap[D]? = some (.deferred (some [])) := by
      rw [← hW2]; exact (((KeepsOthers.setCell W _ _).trans (KeepsOthers.setCell _ _ _)).trans (KeepsOthers.drew _)).same D _ hK rfl
    have hB2 : Below w.heap.size w W2 := by
      rw [← hW2]; exact ((hB.setCell (p := ⟨w.heap.size, 0, none⟩) (Nat.le_refl _) _).setCell (p := ⟨w.heap.size + 1, 0, none⟩) (by simp) _).drew
    rw [hW2]
    refine ⟨by simp, .inl ⟨_, _, rfl, run_takeDeferred hK2, ?_⟩⟩
    have e0 := cell_kept g0.cell (grownBy_putObj' _ D (.deferred none)) (fun r e => by cases e; exact ⟨_, hK2, rfl⟩)
    have e1 := cell_kept g1.cell (grownBy_putObj' _ D (.deferred none)) (fun r e => by cases e; exact ⟨_, hK2, rfl⟩)
    refine ⟨.tuple #[.int .i64 0, .bool false], ?_, ?_, hB2.trans (belowK_b (w := w) (Nat.le_refl _) _ D _ _ (by simp at hD; omega) hK2 rfl rfl)⟩
    · simp [results, Try.f6, go_sem, e0, e1]
    · rw [← hys]; rfl
  case stop =>
    rintro D c pre W hD hpre ⟨⟨rfl, x, rfl, h0, h1⟩, hB⟩ hK
    have hc0 := h0.cell
    have hc1 := h1.cell
    have hf0 := h0.frozen
    have hf1 := h1.frozen
    gi_wp2
    gi_region
    gi_wp2
    (try rw [Exit.noGoto_ret])
    obtain ⟨W2, hW2⟩ : ∃ W2, ((W.setCell ⟨w.heap.size, 0, none⟩ (.int .i64 x)).setCell ⟨w.heap.size + 1, 0, none⟩ (.bool true)).drew = W2 := ⟨_, rfl⟩
    have g0 : Boxed W2 w.heap.size 3 (.int .i64 x) := by rw [← hW2]; exact (h0.set _).other (by omega) _
    have g1 : Boxed W2 (w.heap.size + 1) 4 (.bool true) := by rw [← hW2]; exact (h1.other (by omega) _).set _
    have hK2 : W2.heap[D]? = some (.deferred (some [])) := by
      rw [← hW2]; exact (((KeepsOthers.setCell W _ _).trans (KeepsOthers.setCell _ _ _)).trans (KeepsOthers.drew _)).same D _ hK rfl
    have hB2 : Below w.heap.size w W2 := by
      rw [← hW2]; exact ((hB.setCell (p := ⟨w.heap.size, 0, none⟩) (Nat.le_refl _) _).setCell (p := ⟨w.heap.size + 1, 0, none⟩) (by simp) _).drew
    rw [hW2]
    refine ⟨by simp, .inl ⟨_, _, rfl, run_takeDeferred hK2, ?_⟩⟩
    have e0 := cell_kept g0.cell (grownBy_putObj' _ D (.deferred none)) (fun r e => by cases e; exact ⟨_, hK2, rfl⟩)
    have e1 := cell_kept g1.cell (grownBy_putObj' _ D (.deferred none)) (fun r e => by cases e; exact ⟨_, hK2, rfl⟩)
    refine ⟨.tuple #[.int .i64 x, .bool true], ?_, ?_, hB2.trans (belowK_b (w := w) (Nat.le_refl _) _ D _ _ (by simp at hD; omega) hK2 rfl rfl)⟩
    · simp [results, Try.f6, go_sem, e0, e1]
    · obtain ⟨t, ht⟩ := hpre; rw [← ht]; rfl
theorem w64 {n : Int} (h0 : -9223372036854775808 ≤ n) (h1 : n < 9223372036854775808) : wrap64 n = n := by unfold wrap64; omega
theorem upto_le (s : Int) (i : Nat) : (upto s i).length ≤ i := by
  have := List.length_filter_le (hasB s) (List.range i)
  simpa [upto] using this
theorem len_l0 (s : Int) : ∀ (k i : Nat) (r : Int), i ≤ 64 → set_Len.l0 k s ((upto s i).length : Int) (i : Int) = some r → r = ((upto s 64).length : Int) := by
  intro k
  induction k with
  | zero => intro i r _ h; simp [set_Len.l0] at h
  | succ k ih =>
    intro i r hi h
    have hu := upto_le s i
    simp only [set_Len.l0] at h
    by_cases h64 : i < 64
    · rw [if_pos (by omega), has_f, Option.bind_some, w64 (n := (i : Int) + 1) (by omega) (by omega), w64 (n := ((upto s i).length : Int) + 1) (by omega) (by omega), show (i : Int) + 1 = ((i + 1 : Nat) : Int) by omega] at h
      cases hb : hasB s i with
      | true =>
        rw [hb, if_pos rfl] at h
        refine ih (i + 1) r (by omega) ?_
        rw [upto_yes hb, List.length_append]; exact h
      | false =>
        rw [hb, if_neg (by simp)] at h
        refine ih (i + 1) r (by omega) ?_
        rw [upto_no hb]; exact h
    · rw [if_neg (by omega)] at h
      obtain rfl : i = 64 := by omega
      exact (Option.some.inj h).symm
theorem list_l0 (s : Int) : ∀ (k i : Nat) (r : List Int), i ≤ 64 → set_List.l0 k s (upto s i) (i : Int) = some r → r = upto s 64 := by
  intro k
  induction k with
  | zero => intro i r _ h; simp [set_List.l0] at h
  | succ k ih =>
    intro i r hi h
    have hu := upto_le s i
    simp only [set_List.l0] at h
    by_cases h64 : i < 64
    · rw [if_pos (by omega), has_f, Option.bind_some, w64 (n := (i : Int) + 1) (by omega) (by omega), show (i : Int) + 1 = ((i + 1 : Nat) : Int) by omega] at h
      cases hb : hasB s i with
      | true =>
        rw [hb, if_pos rfl, if_pos (by omega)] at h
        refine ih (i + 1) r (by omega) ?_
        rw [upto_yes hb]; exact h
      | false =>
        rw [hb, if_neg (by simp)] at h
        refine ih (i + 1) r (by omega) ?_
        rw [upto_no hb]; exact h
    · rw [if_neg (by omega)] at h
      obtain rfl : i = 64 := by omega
      exact (Option.some.inj h).symm
theorem least_l0 (s : Int) : ∀ (k i : Nat) (r1 : Int) (r2 : Bool), i ≤ 64 → upto s i = [] → set_Least.l0 k s (i : Int) = some (r1, r2) → r1 = (upto s 64).headD 0 ∧ r2 = !(upto s 64).isEmpty := by
  intro k
  induction k with
  | zero => intro i r1 r2 _ _ h; simp [set_Least.l0] at h
  | succ k ih =>
    intro i r1 r2 hi hu h
    simp only [set_Least.l0] at h
    by_cases h64 : i < 64
    · rw [if_pos (by omega), has_f, Option.bind_some, w64 (n := (i : Int) + 1) (by omega) (by omega), show (i : Int) + 1 = ((i + 1 : Nat) : Int) by omega] at h
      cases hb : hasB s i with
      | true =>
        rw [hb, if_pos rfl] at h
        simp only [Option.some.injEq, Prod.mk.injEq] at h
        obtain ⟨rfl, rfl⟩ := h
        have hp : upto s (i + 1) <+: upto s 64 := upto_prefix (by omega)
        rw [upto_yes hb, hu] at hp
        obtain ⟨t, ht⟩ := hp
        rw [← ht]; exact ⟨rfl, rfl⟩
      | false =>
        rw [hb, if_neg (by simp)] at h
        exact ih (i + 1) r1 r2 (by omega) (by rw [upto_no hb]; exact hu) h
    · rw [if_neg (by omega)] at h
      simp only [Option.some.injEq, Prod.mk.injEq] at h
      obtain ⟨rfl, rfl⟩ := h
      obtain rfl : i = 64 := by omega
      rw [hu]; exact ⟨rfl, rfl⟩

theorem set_Least.calls (k : Nat) (a0 : Int) (r1 : Int) (r2 : Bool) (w : World) (h : set_Least.f k a0 = some (r1, r2)) :
    Calls Try.prog 6 #[.int .u64 a0] w fun e w' => e = .returned (.tuple #[.int .i64 r1, .bool r2]) ∧ Below w.heap.size w w' := by
  obtain ⟨rfl, rfl⟩ := least_l0 a0 k 0 r1 r2 (by omega) rfl h
  exact callsIn_wide.1 (Least_in a0 w)
theorem set_Len.calls (k : Nat) (a0 : Int) (r : Int) (w : World) (h : set_Len.f k a0 = some r) :
    Calls Try.prog 14 #[.int .u64 a0] w fun e w' => e = .returned (.int .i64 r) ∧ Below w.heap.size w w' := by
  obtain rfl := len_l0 a0 k 0 r (by omega) h
  exact callsIn_wide.1 (Len_in a0 w)
theorem set_List.calls (k : Nat) (a0 : Int) (r : List Int) (w : World) (h : set_List.f k a0 = some r) :
    Calls Try.prog 16 #[.int .u64 a0] w fun e w' => ∃ v0_ : Value, e = .returned (v0_) ∧ Kd.R (Kd.int .i64) 3 w' w.heap.size (fun _ => True) v0_ r ∧ Below w.heap.size w w' := by
  obtain rfl := list_l0 a0 k 0 r (by omega) h
  exact (callsIn_wide.1 (List_in a0 w)).mono fun e w' ⟨v, he, ho, hb⟩ => ⟨v, he, Kd.R_of_own ho (fun _ _ => trivial), hb⟩
end Go.Proofs.Ytghbcdpnngheoaa.PSet
