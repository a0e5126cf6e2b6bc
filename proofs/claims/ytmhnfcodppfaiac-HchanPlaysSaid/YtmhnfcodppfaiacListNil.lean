
/- list.All of no queue. -/
import Derived.Test.YtmhnfcodppfaiacListAll
namespace Go.Proofs.Ytmhnfcodppfaiac.ListCode
open Go Go.RowKit Go.Shelf Go.Proofs.Ytmhnfcodppfaiac.Obj Go.Proofs.Ytmhnfcodppfaiac.Iter Go.Proofs.Ytmhnfcodppfaiac.ListPure Go.Proofs.YtmhnfcodppfaiacW.PrintWords Go.Proofs.YtmhnfcodppfaiacW.PrintLast Go.Proofs.YtmhnfcodppfaiacW.PrintMore
attribute [local go_sem] Oper.semAt_some
set_option linter.unusedVariables false
set_option maxRecDepth 100000
def K1 (x : Nat) (W W' : World) : Prop := W'.heap[x]? = W.heap[x]?
theorem K1_t {x : Nat} {A B C : World} (h : K1 x A B) (k : K1 x B C) : K1 x A C := Eq.trans k h
theorem K1_b {x : Nat} {w : World} (hx : x < w.heap.size) (W : World) (l : Nat) (o o' : Obj) (hl : w.heap.size ≤ l) (h : W.heap[l]? = some o) (_ : o.isCells = false) (_ : o.isWalk = false) : K1 x W (W.putObj l o') := by
  have hlt := heap_lt h
  exact (grownBy_putObj' W l o').block x (by omega) (by simp; omega)
theorem all1_nil_in (n lb Bn : Nat) (J Jx : List Int → World → Prop) (W : World) (hK : Blk W Bn 55 [.pointer none]) (h0 : J [] W) :
    CallsIn Fence.wide n Try.prog 62 #[.func (.yield lb) #[] #[], .pointer (some ⟨Bn, 0, none⟩)] W fun e W' => (∃ v, e = .returned v) ∧
      ((∃ ys, ys = [] ∧ J ys W') ∨ (∃ pre, pre <+: ([] : List Int) ∧ Jx pre W')) := by
  refine callsIn_of_wp Try.func62 rfl trivial ?_ rfl
  simp only [Try.ntmps62, List.size_toArray, List.length_cons, List.length_nil, Nat.reduceAdd, Nat.reduceSub, Array.replicate_succ, Array.replicate_zero, List.push_toArray, List.append_toArray, List.nil_append, List.cons_append]
  have hc : W.cell? ⟨Bn, 0, none⟩ = some (.pointer none) := hK.cell 0
  have hro : Fence.wide.round = none := rfl
  have hf1 : Fence.wide.fn 50 := trivial
  have hwd : Fence.wide.depth = none := rfl
  have hbn := hK.lt
  have hF : Calls Try.prog 50 #[.pointer none] W fun e w' => e = .returned (.tuple #[.int .i64 0, .bool false]) ∧ w' = W := by
    clear hc hbn hK h0
    go_enter Try.func50, Try.ntmps50
    go_wp2
    go_ret2
    exact ⟨rfl, rfl⟩
  gi_wp2_with (gi_at_call 50; refine (callsIn_wide.2 hF).mono ?_; rintro e w' ⟨rfl, rfl⟩)
  gi_loopg [3, 4] 1 (fun kq v3 v4 wr => kq = 1 ∧ v3 = .int .i64 0 ∧ v4 = .bool false ∧ J [] wr)
  case atStart => exact ⟨rfl, rfl, rfl, h0⟩
  case round =>
    clear h0 hc hbn hF hK
    obtain ⟨hgk, rfl, rfl, hJs⟩ := hrel
    gi_wp2
    refine ⟨(fun f hf => by cases hf), ?_⟩
    gi_wp2
    go_end0
    exact ⟨⟨_, rfl⟩, .inl ⟨_, rfl, hJs⟩⟩
theorem all1_nil_stops (n Bn : Nat) (w : World) (hS : Blk w Bn 55 [.pointer none]) :
    SeqStopsK Fence.wide n Try.prog 62 #[.pointer (some ⟨Bn, 0, none⟩)] (fun x : Int => #[Value.int .i64 x]) (K1 Bn) (fun ys => ys = []) (fun pre => pre <+: []) 0 w := fun lb J Jx W hW hJ _ hY h0 =>
  all1_nil_in n lb Bn J Jx W (hS.same (hW.block _ hS.lt)) h0
theorem all_nil_in (F : Fence) (n : Nat) (h40 : F.fn 54) (hro : F.round = none) (w : World) :
    CallsIn F n Try.prog 54 #[.pointer none] w fun e w' => e = .returned (.func (.func 62) #[] #[.pointer (some ⟨w.heap.size, 0, none⟩)]) ∧ w' = w.alloc (.cells #[.pointer none] 55) := by
  refine callsIn_of_wp Try.func54 rfl h40 ?_ hro
  simp only [Try.ntmps54, List.size_toArray, List.length_cons, List.length_nil, Nat.reduceAdd, Nat.reduceSub, Array.replicate_succ, Array.replicate_zero, List.push_toArray, List.append_toArray, List.nil_append, List.cons_append]
  gi_wp2
  refine bodyPost_ret (results_tmp rfl _ _ _) rfl ?_
  exact ⟨rfl, rfl⟩
set_option maxHeartbeats 2000000 in
theorem All_nil_in (w : World) : CallsIn Fence.wide 5 Try.prog 32 #[.pointer none] w fun e W' => ∃ v, e = .returned v ∧ W'.ownsRow w.heap.size 3 1 v 0 [] ∧ Below w.heap.size w W' := by
  have hro : Fence.wide.round = none := rfl
  have h40 : Fence.wide.fn 54 := trivial
  have h48 : Fence.wide.fn 62 := trivial
  have hwd : Fence.wide.depth = none := rfl
  obtain ⟨i0, hi, hz0, hz1, hz2⟩ := info_parts info2
  refine callsIn_of_wp_marks Try.func32 rfl trivial ?_ hro
  simp only [Try.ntmps32, List.size_toArray, List.length_cons, List.length_nil, Nat.reduceAdd, Nat.reduceSub, Array.replicate_succ, Array.replicate_zero, List.push_toArray, List.append_toArray, List.nil_append, List.cons_append]
  gi_wp2_with (gi_at_call 54; refine (all_nil_in Fence.wide _ h40 hro _).mono ?_; rintro e w' ⟨rfl, rfl⟩)
  have bO := Boxed.new w 28 (.slice none 0 0)
  have bN := Boxed.new (w.alloc (.cells #[.slice none 0 0] 28)) 55 (.pointer none)
  rw [World.size_alloc] at bN
  have hB0 : Below w.heap.size w ((w.alloc (.cells #[.slice none 0 0] 28)).alloc (.cells #[.pointer none] 55)) := ((Below.refl _ w).alloc (Nat.le_refl _) _).alloc (by simp) _
  have hS : Blk ((w.alloc (.cells #[.slice none 0 0] 28)).alloc (.cells #[.pointer none] 55)) (w.heap.size + 1) 55 [.pointer none] := by have := Blk.new (w.alloc (.cells #[.slice none 0 0] 28)) 55 [.pointer none]; rw [World.size_alloc] at this; exact this
  refine wpIn_rangeFunc_ownG hro (by decide) (gf := 62) (lb := #[.pointer (some ⟨w.heap.size + 1, 0, none⟩)]) rfl h48 (enters_of Try.func62 (by kernel_rfl) rfl)
    (all1_nil_stops 4 (w.heap.size + 1) _ hS) K1_t (K1_b (by simp)) (Below.refl _ _) (fun _ => rfl)
    (fun pre W => (∃ v, Boxed W w.heap.size 28 v ∧ W.ownsRow w.heap.size 3 1 v pre.length (pre.map (Value.int .i64)) ∧ True) ∧ Boxed W (w.heap.size + 1) 55 (.pointer none) ∧ Below w.heap.size w W)
    (fun _ _ _ => False)
    (OwnFrom.and (Own.from (holdsRow_own w.heap.size w.heap.size 28 3 1 (fun pre : List Int => pre.length) (fun pre : List Int => pre.map (Value.int .i64)) (fun (pre : List Int) v => True)) _) (OwnFrom.and (Own.from (boxed_own _ _ (fun _ => Value.pointer none)) _) (ownFrom_below (Nat.le_refl _) (by simp; omega))))
    (fun _ _ _ _ _ hs _ _ => hs)
    ⟨⟨_, bO.alloc _, World.ownsRow_nil _ _ _ _, trivial⟩, bN, hB0⟩
    (fun x => { tmps := #[.pointer none, undef, .pointer (some ⟨w.heap.size, 0, none⟩), .int .i64 x, .pointer none, .func (.func 62) #[] #[.pointer (some ⟨w.heap.size + 1, 0, none⟩)], .int .i64 x, undef, undef, undef, undef, undef], defers := [] }) ?assign ?body ?done ?stop
  case assign =>
    intro l x W K hK
    gi_wp2
    first | exact hK | simpa using hK
  case body =>
    rintro lb pre x W _ hlt
    exact absurd hlt (Nat.not_lt_zero _)
  case done =>
    rintro D ys W hD rfl ⟨⟨v, hv, hrow, -⟩, _, hB⟩ hK
    obtain ⟨A, n, c, rfl⟩ : ∃ A n c, v = .slice A n c := by
      rcases hrow.2 with ⟨rfl, _⟩ | ⟨g, cap, cur, rfl, _⟩ <;> exact ⟨_, _, _, rfl⟩
    have hc := hv.cell
    have hf := hv.frozen
    gi_wp2
    have hne : some w.heap.size ≠ (Value.slice A n c).ownBlock := Boxed.not_row hv (by decide) hrow
    have hrow' : (W.setCell ⟨w.heap.size, 0, none⟩ (.slice A n c)).ownsRow w.heap.size 3 1 (.slice A n c) 0 [] :=
      own_move hrow (fun k hk => Below.heap_setCell W ⟨w.heap.size, 0, none⟩ _ k (fun e => hne (by rw [hk]; simpa using e.symm)))
    have hK' := (KeepsOthers.setCell W ⟨w.heap.size, 0, none⟩ (.slice A n c)).same D _ hK rfl
    refine ⟨by simp, .inl ⟨_, _, rfl, run_takeDeferred hK', ?_⟩⟩
    have hc5 := cell_kept (World.cell?_setCell_same' W ⟨w.heap.size, 0, none⟩ (.slice A n c) (by rw [hc]; rfl)) (grownBy_putObj' _ D (.deferred none)) (fun r e => by cases e; exact ⟨_, hK', rfl⟩)
    refine ⟨.slice A n c, ?_, _, rfl, ownsRow_putObj hrow' _ hK' rfl, (hB.setCell (p := ⟨w.heap.size, 0, none⟩) (Nat.le_refl _) _).trans (belowK_b (w := w) (Nat.le_refl _) _ D _ _ (by simp at hD; omega) hK' rfl rfl)⟩
    simp [results, Try.f32, go_sem, hc5]
  case stop =>
    rintro D c pre W _ _ h _
    exact h.elim
theorem all_nil (w : World) : Calls Try.prog 32 #[.pointer none] w fun e W' => (∃ A c, e = .returned (.slice A 0 c)) ∧ Below w.heap.size w W' := by
  refine (callsIn_wide.1 (All_nil_in w)).mono ?_
  rintro e W' ⟨v, rfl, hrow, hB⟩
  obtain ⟨A, c, rfl⟩ := own_form hrow
  exact ⟨⟨A, c, rfl⟩, hB⟩
end Go.Proofs.Ytmhnfcodppfaiac.ListCode
