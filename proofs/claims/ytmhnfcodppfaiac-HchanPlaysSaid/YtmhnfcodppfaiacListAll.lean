
/- list.All is what a queue has, in order, in a row of its own. -/
import Derived.Sort.LoopGhostIn
import Derived.Test.YtmhnfcodppfaiacList
import Derived.Test.YtmhnfcodppfaiacIter
namespace Go.Proofs.Ytmhnfcodppfaiac.ListCode
open Go Go.RowKit Go.Shelf Go.Proofs.Ytmhnfcodppfaiac.Obj Go.Proofs.Ytmhnfcodppfaiac.Iter Go.Proofs.Ytmhnfcodppfaiac.ListPure Go.Proofs.YtmhnfcodppfaiacW.PrintWords Go.Proofs.YtmhnfcodppfaiacW.PrintLast Go.Proofs.YtmhnfcodppfaiacW.PrintMore
attribute [local go_sem] Oper.semAt_some
set_option linter.unusedVariables false
set_option maxRecDepth 100000
/-- What stays while the iterator runs. -/
structure Stays (W : World) (Bn p b : Nat) (L : List Int) : Prop where
  cell : Blk W Bn 55 [.pointer (some ⟨p, 0, none⟩)]
  list : LsAt W p b L
/-- Three blocks stand as they stood. -/
def K3 (x y z : Nat) (W W' : World) : Prop := W'.heap[x]? = W.heap[x]? ∧ W'.heap[y]? = W.heap[y]? ∧ W'.heap[z]? = W.heap[z]?
theorem K3_t {x y z : Nat} {A B C : World} (h : K3 x y z A B) (k : K3 x y z B C) : K3 x y z A C := ⟨k.1.trans h.1, k.2.1.trans h.2.1, k.2.2.trans h.2.2⟩
theorem K3_b {x y z : Nat} {w : World} (hx : x < w.heap.size) (hy : y < w.heap.size) (hz : z < w.heap.size) (W : World) (l : Nat) (o o' : Obj) (hl : w.heap.size ≤ l) (h : W.heap[l]? = some o) (_ : o.isCells = false) (_ : o.isWalk = false) : K3 x y z W (W.putObj l o') := by
  have hlt := heap_lt h
  exact ⟨(grownBy_putObj' W l o').block x (by omega) (by simp; omega), (grownBy_putObj' W l o').block y (by omega) (by simp; omega), (grownBy_putObj' W l o').block z (by omega) (by simp; omega)⟩
theorem LsAt.same {w w' : World} {p b : Nat} {L : List Int} (h : LsAt w p b L) (hp : w'.heap[p]? = w.heap[p]?) (hb : w'.heap[b]? = w.heap[b]?) : LsAt w' p b L := ⟨h.blk.same hp, h.map.same hb, h.nodup, h.rng⟩
theorem Stays.kept {W W' : World} {Bn p b : Nat} {L : List Int} (h : Stays W Bn p b L) (k : K3 Bn p b W W') : Stays W' Bn p b L := ⟨h.cell.same k.1, h.list.same k.2.1 k.2.2⟩
theorem Stays.below {W W' : World} {Bn p b : Nat} {L : List Int} (h : Stays W Bn p b L) (k : Below W.heap.size W W') : Stays W' Bn p b L := h.kept ⟨k.block _ h.cell.lt, k.block _ h.list.lt.1, k.block _ h.list.lt.2⟩
theorem nextV_at {L : List Int} (hn : L.Nodup) (hr : ∀ x ∈ L, 0 ≤ x ∧ x < 1024) {k : Nat} {x : Int} (hk : L[k]? = some x) : nextV L x = (L.getD (k + 1) 0, decide (k + 1 < L.length)) := by
  obtain ⟨p, hp⟩ := lnk_at hn hk
  unfold nextV
  rw [hp]
  by_cases h1 : k + 1 < L.length
  · have h2 := hr _ (List.getElem_mem h1)
    have e : ∀ d, L.getD (k + 1) d = L[k + 1] := fun d => by simp [List.getD, List.getElem?_eq_getElem h1]
    simp only [e, if_pos h2.1, h1, decide_true]
  · have e : ∀ d, L.getD (k + 1) d = d := fun d => by simp [List.getD, List.getElem?_eq_none (by omega : L.length ≤ k + 1)]
    simp only [e, h1, decide_false]
    rfl
theorem front_any {w : World} {p b : Nat} {L : List Int} (h : LsAt w p b L) : Calls Try.prog 50 #[.pointer (some ⟨p, 0, none⟩)] w fun e w' => e = .returned (.tuple #[.int .i64 (L.getD 0 0), .bool (decide (0 < L.length))]) ∧ w' = w := by
  cases L with
  | nil => exact front_none h
  | cons x r =>
    refine (front_at h).mono ?_
    rintro e w' ⟨rfl, rfl⟩
    simp
set_option maxHeartbeats 2000000 in
theorem all1_in (n lb Bn p b : Nat) (L : List Int) (J Jx : List Int → World → Prop)
    (hJ : ∀ pre W W', J pre W → Below W.heap.size W W' → J pre W')
    (hY : ∀ pre x W, J pre W → pre.length < L.length → YieldAt Fence.wide (n - 1) Try.prog lb #[.int .i64 x] W fun e W' =>
      (e = .returned (.bool true) ∧ J (pre ++ [x]) W' ∧ K3 Bn p b W W') ∨ (e = .returned (.bool false) ∧ Jx (pre ++ [x]) W'))
    (W : World) (hK : Stays W Bn p b L) (h0 : J [] W) :
    CallsIn Fence.wide n Try.prog 62 #[.func (.yield lb) #[] #[], .pointer (some ⟨Bn, 0, none⟩)] W fun e W' => (∃ v, e = .returned v) ∧
      ((∃ ys, ys = L ∧ J ys W') ∨ (∃ pre, pre <+: L ∧ Jx pre W')) := by
  refine callsIn_of_wp Try.func62 rfl trivial ?_ rfl
  simp only [Try.ntmps62, List.size_toArray, List.length_cons, List.length_nil, Nat.reduceAdd, Nat.reduceSub, Array.replicate_succ, Array.replicate_zero, List.push_toArray, List.append_toArray, List.nil_append, List.cons_append]
  have hc : W.cell? ⟨Bn, 0, none⟩ = some (.pointer (some ⟨p, 0, none⟩)) := hK.cell.cell 0
  have hro : Fence.wide.round = none := rfl
  have hf1 : Fence.wide.fn 50 := trivial
  have hf2 : Fence.wide.fn 63 := trivial
  have hwd : Fence.wide.depth = none := rfl
  have hbn := hK.cell.lt
  have hF := front_any hK.list
  gi_wp2_with (gi_at_call 50; refine (callsIn_wide.2 hF).mono ?_; rintro e w' ⟨rfl, rfl⟩)
  gi_loopg [3, 4] (L.length + 1) (fun kq v3 v4 wr => ∃ k : Nat, kq + k = L.length + 1 ∧ k ≤ L.length ∧ v3 = .int .i64 (L.getD k 0) ∧ v4 = .bool (decide (k < L.length)) ∧ J (L.take k) wr ∧ Stays wr Bn p b L)
  case atStart => exact ⟨0, rfl, by omega, rfl, rfl, h0, hK⟩
  case round =>
    clear h0 hc hbn hF hK
    obtain ⟨k, hgk, hk, rfl, rfl, hJs, hS⟩ := hrel
    by_cases hlt : k < L.length
    · obtain ⟨x, hx⟩ : ∃ x, L[k]? = some x := ⟨_, List.getElem?_eq_getElem hlt⟩
      have hd1 : decide (k < L.length) = true := by simpa using hlt
      have hxd : L.getD k 0 = x := by simp [List.getD, hx]
      rw [hd1, hxd]
      have hnx := nextV_at hS.list.nodup hS.list.rng hx
      have htk : L.take (k + 1) = L.take k ++ [x] := by
        rw [List.take_add_one, hx]; rfl
      have htkH := hid htk
      have hpre : L.take k ++ [x] <+: L := by rw [← htk]; exact List.take_prefix _ _
      obtain ⟨hr0, hr1⟩ := hS.list.rng x (List.mem_of_getElem? hx)
      have hwfx := wf64 (k := x) (by omega) (by omega)
      obtain ⟨fn, tmps, assign, body, hyy, hR⟩ := hY (L.take k) x wr hJs (by rw [List.length_take]; omega)
      have hR' := hR.mono (R' := fun e W' => ∃ b' : Bool, e = .returned (.bool b') ∧ ((b' = true ∧ J (L.take k ++ [x]) W' ∧ K3 Bn p b wr W') ∨ (b' = false ∧ Jx (L.take k ++ [x]) W')))
          (fun e W' h => h.elim (fun h => ⟨true, h.1, .inl ⟨rfl, h.2⟩⟩) (fun h => ⟨false, h.1, .inr ⟨rfl, h.2⟩⟩))
      have hnxH := hid hnx
      clear hR htk hd1 hxd hx hnx
      gi_wp2_with (fail)
      refine hR'.mono ?_
      rintro e W3 ⟨b', rfl, hpost⟩
      all_goals
        rcases hpost with ⟨rfl, hJ3, hk3⟩ | ⟨rfl, hx3⟩
        · have hS3 := hS.kept hk3
          rw [← htkH.out] at hJ3
          have hc3 : W3.cell? ⟨Bn, 0, none⟩ = some (.pointer (some ⟨p, 0, none⟩)) := hS3.cell.cell 0
          have hN := next_at hS3.list hwfx
          rw [hnxH.out] at hN
          clear hS hk3 hJs hR' hyy
          gi_wp2_with (gi_at_call 63; refine (callsIn_wide.2 hN).mono ?_; rintro e W4 ⟨rfl, hB4⟩)
          have hJ4 := hJ _ _ _ hJ3 hB4
          have hS4 := hS3.below hB4
          gi_roundg (L.length + 1 - (k + 1))
          case measure => omega
          case rel => exact ⟨k + 1, by omega, by omega, rfl, rfl, hJ4, hS4⟩
        · clear hS hJs hR' hyy
          gi_wp2
          go_end0
          exact ⟨⟨_, rfl⟩, .inr ⟨_, hpre, hx3⟩⟩
    · have hd1 : decide (k < L.length) = false := by simpa using hlt
      rw [hd1]
      have hJ3 : J L wr := by
        rw [List.take_of_length_le (by omega)] at hJs
        exact hJs
      gi_wp2
      refine ⟨(fun f hf => by cases hf), ?_⟩
      gi_wp2
      go_end0
      exact ⟨⟨_, rfl⟩, .inl ⟨_, rfl, hJ3⟩⟩
theorem all1_stops (n Bn p b : Nat) (L : List Int) (w : World) (hS : Stays w Bn p b L) :
    SeqStopsK Fence.wide n Try.prog 62 #[.pointer (some ⟨Bn, 0, none⟩)] (fun x : Int => #[Value.int .i64 x]) (K3 Bn p b) (fun ys => ys = L) (fun pre => pre <+: L) L.length w := fun lb J Jx W hW hJ _ hY h0 =>
  all1_in n lb Bn p b L J Jx (fun pre W W' h hb => hJ pre W W' none h ⟨hb.os, hb.tape, hb.output, hb.size, fun k hk _ => hb.block k hk⟩ (fun r e => by cases e)) hY W
    (hS.kept ⟨hW.block _ hS.cell.lt, hW.block _ hS.list.lt.1, hW.block _ hS.list.lt.2⟩) h0
theorem all_in (F : Fence) (n : Nat) (h40 : F.fn 54) (hro : F.round = none) (p : Nat) (w : World) :
    CallsIn F n Try.prog 54 #[.pointer (some ⟨p, 0, none⟩)] w fun e w' => e = .returned (.func (.func 62) #[] #[.pointer (some ⟨w.heap.size, 0, none⟩)]) ∧ w' = w.alloc (.cells #[.pointer (some ⟨p, 0, none⟩)] 55) := by
  refine callsIn_of_wp Try.func54 rfl h40 ?_ hro
  simp only [Try.ntmps54, List.size_toArray, List.length_cons, List.length_nil, Nat.reduceAdd, Nat.reduceSub, Array.replicate_succ, Array.replicate_zero, List.push_toArray, List.append_toArray, List.nil_append, List.cons_append]
  gi_wp2
  refine bodyPost_ret (results_tmp rfl _ _ _) rfl ?_
  exact ⟨rfl, rfl⟩
theorem info2 : (Try.prog.info? 3).map (fun i => (i.zero, i.size, i.bytes)) = some (some (.int .i64 0), 1, 8) := by kernel_rfl
set_option maxHeartbeats 2000000 in
theorem All_in {p b : Nat} {L : List Int} {w : World} (h : LsAt w p b L) : CallsIn Fence.wide 5 Try.prog 32 #[.pointer (some ⟨p, 0, none⟩)] w fun e W' => ∃ v, e = .returned v ∧ W'.ownsRow w.heap.size 3 1 v L.length (L.map (Value.int .i64)) ∧ Below w.heap.size w W' := by
  have hro : Fence.wide.round = none := rfl
  have h40 : Fence.wide.fn 54 := trivial
  have h48 : Fence.wide.fn 62 := trivial
  have hwd : Fence.wide.depth = none := rfl
  have hL8 : L.length ≤ 1024 := h.len
  have hp := h.lt.1
  have hq := h.lt.2
  obtain ⟨i0, hi, hz0, hz1, hz2⟩ := info_parts info2
  refine callsIn_of_wp_marks Try.func32 rfl trivial ?_ hro
  simp only [Try.ntmps32, List.size_toArray, List.length_cons, List.length_nil, Nat.reduceAdd, Nat.reduceSub, Array.replicate_succ, Array.replicate_zero, List.push_toArray, List.append_toArray, List.nil_append, List.cons_append]
  gi_wp2_with (gi_at_call 54; refine (all_in Fence.wide _ h40 hro _ _).mono ?_; rintro e w' ⟨rfl, rfl⟩)
  have bO := Boxed.new w 28 (.slice none 0 0)
  have bN := Boxed.new (w.alloc (.cells #[.slice none 0 0] 28)) 55 (.pointer (some ⟨p, 0, none⟩))
  rw [World.size_alloc] at bN
  have hB0 : Below w.heap.size w ((w.alloc (.cells #[.slice none 0 0] 28)).alloc (.cells #[.pointer (some ⟨p, 0, none⟩)] 55)) := ((Below.refl _ w).alloc (Nat.le_refl _) _).alloc (by simp) _
  have hS : Stays ((w.alloc (.cells #[.slice none 0 0] 28)).alloc (.cells #[.pointer (some ⟨p, 0, none⟩)] 55)) (w.heap.size + 1) p b L := ⟨by have := Blk.new (w.alloc (.cells #[.slice none 0 0] 28)) 55 [.pointer (some ⟨p, 0, none⟩)]; rw [World.size_alloc] at this; exact this, h.below hB0⟩
  refine wpIn_rangeFunc_ownG hro (by decide) (gf := 62) (lb := #[.pointer (some ⟨w.heap.size + 1, 0, none⟩)]) rfl h48 (enters_of Try.func62 (by kernel_rfl) rfl)
    (all1_stops 4 (w.heap.size + 1) p b L _ hS) K3_t (K3_b (by simp) (by simp; omega) (by simp; omega)) (Below.refl _ _) (fun _ => rfl)
    (fun pre W => (∃ v, Boxed W w.heap.size 28 v ∧ W.ownsRow w.heap.size 3 1 v pre.length (pre.map (Value.int .i64)) ∧ True) ∧ Boxed W (w.heap.size + 1) 55 (.pointer (some ⟨p, 0, none⟩)) ∧ Below w.heap.size w W)
    (fun _ _ _ => False)
    (OwnFrom.and (Own.from (holdsRow_own w.heap.size w.heap.size 28 3 1 (fun pre : List Int => pre.length) (fun pre : List Int => pre.map (Value.int .i64)) (fun (pre : List Int) v => True)) _) (OwnFrom.and (Own.from (boxed_own _ _ (fun _ => Value.pointer (some ⟨p, 0, none⟩))) _) (ownFrom_below (Nat.le_refl _) (by simp; omega))))
    (fun _ _ _ _ _ hs _ _ => hs)
    ⟨⟨_, bO.alloc _, World.ownsRow_nil _ _ _ _, trivial⟩, bN, hB0⟩
    (fun x => { tmps := #[.pointer (some ⟨p, 0, none⟩), undef, .pointer (some ⟨w.heap.size, 0, none⟩), .int .i64 x, .pointer (some ⟨p, 0, none⟩), .func (.func 62) #[] #[.pointer (some ⟨w.heap.size + 1, 0, none⟩)], .int .i64 x, undef, undef, undef, undef, undef], defers := [] }) ?assign ?body ?done ?stop
  case assign =>
    intro l x W K hK
    gi_wp2
    first | exact hK | simpa using hK
  case body =>
    rintro lb pre x W ⟨⟨v, hv, hrow, -⟩, hbn, hB⟩ hlt
    have hc := hv.cell
    gi_wp2_with (gi_at_builtin; refine wpListIn_append_own _ rfl _ _ 28 rfl w.heap.size 3 i0 (.int .i64 0) 1 8 Try.underlying28 hi hz0 hz1 hz2 rfl (by decide) _ _ _ rfl (hrow.alloc _) ⟨W.heap.size, 0, none⟩ 1 1 [.int .i64 x] rfl rfl (cell_one_new _ _ _) (by simp [Value.oneCell']) (by unfold maxLen; omega) (by omega) (by have := hB.size; simp; omega) ?_; intro v' w1 hown' hgrow _; obtain ⟨g', cap', rfl⟩ := ownsRow_succ hown'; obtain ⟨hv1, hv2, hr2, hk2, hb2⟩ := hv.appended (by decide) hrow hB.size (Nat.le_refl _) hown' hgrow; have hc1 := hv1.cell; have hf1 := hv1.frozen)
    have hbn1 : Boxed (W.alloc (.cells #[.int .i64 x] 3)) (w.heap.size + 1) 55 (.pointer (some ⟨p, 0, none⟩)) := hbn.alloc _
    have hne : some (w.heap.size + 1) ≠ v.ownBlock := Boxed.not_row hbn (by decide) hrow
    have hbn2 : Boxed w1 (w.heap.size + 1) 55 (.pointer (some ⟨p, 0, none⟩)) := hbn1.kept hgrow hne
    have hbn' : Boxed (w1.setCell ⟨w.heap.size, 0, none⟩ (.slice (some ⟨g', 0, none⟩) (pre.length + 1) cap')) (w.heap.size + 1) 55 (.pointer (some ⟨p, 0, none⟩)) := hbn2.other (by omega) _
    exact ⟨hk2.from _, ⟨Eq.trans hbn' (Eq.symm hbn), hb2.block p hp, hb2.block b hq⟩, ⟨_, hv2, by simpa using hr2, trivial⟩, hbn', hB.trans hb2⟩
  case done =>
    rintro D ys W hD rfl ⟨⟨v, hv, hrow, -⟩, _, hB⟩ hK
    obtain ⟨A, n, c, rfl⟩ : ∃ A n c, v = .slice A n c := by
      rcases hrow.2 with ⟨rfl, _⟩ | ⟨g, cap, cur, rfl, _⟩ <;> exact ⟨_, _, _, rfl⟩
    have hc := hv.cell
    have hf := hv.frozen
    gi_wp2
    have hne : some w.heap.size ≠ (Value.slice A n c).ownBlock := Boxed.not_row hv (by decide) hrow
    have hrow' : (W.setCell ⟨w.heap.size, 0, none⟩ (.slice A n c)).ownsRow w.heap.size 3 1 (.slice A n c) ys.length (ys.map (Value.int .i64)) :=
      own_move hrow (fun k hk => Below.heap_setCell W ⟨w.heap.size, 0, none⟩ _ k (fun e => hne (by rw [hk]; simpa using e.symm)))
    have hK' := (KeepsOthers.setCell W ⟨w.heap.size, 0, none⟩ (.slice A n c)).same D _ hK rfl
    refine ⟨by simp, .inl ⟨_, _, rfl, run_takeDeferred hK', ?_⟩⟩
    have hc5 := cell_kept (World.cell?_setCell_same' W ⟨w.heap.size, 0, none⟩ (.slice A n c) (by rw [hc]; rfl)) (grownBy_putObj' _ D (.deferred none)) (fun r e => by cases e; exact ⟨_, hK', rfl⟩)
    refine ⟨.slice A n c, ?_, _, rfl, ownsRow_putObj hrow' _ hK' rfl, (hB.setCell (p := ⟨w.heap.size, 0, none⟩) (Nat.le_refl _) _).trans (belowK_b (w := w) (Nat.le_refl _) _ D _ _ (by simp at hD; omega) hK' rfl rfl)⟩
    simp [results, Try.f32, go_sem, hc5]
  case stop =>
    rintro D c pre W _ _ h _
    exact h.elim
theorem all_nums {p b : Nat} {L : List Int} {w : World} (h : LsAt w p b L) : Calls Try.prog 32 #[.pointer (some ⟨p, 0, none⟩)] w fun e W' => ∃ A c, e = .returned (.slice A L.length c) ∧ Nums W' .i64 A L ∧ Below w.heap.size w W' ∧ ∀ x, A = some x → w.heap.size ≤ x.block ∧ x.block < W'.heap.size := by
  refine (callsIn_wide.1 (All_in h)).mono ?_
  rintro e W' ⟨v, rfl, hrow, hB⟩
  obtain ⟨A, c, rfl⟩ := own_form hrow
  refine ⟨A, c, rfl, own_nums hrow, hB, fun x hx => ?_⟩
  rcases own_cases hrow with ⟨rfl, _⟩ | ⟨g, rfl, h1, h2, _⟩
  · cases hx
  · cases hx; exact ⟨h1, h2⟩
theorem nums_far {w w' : World} {A : Option Addr} {L : List Int} {S : Nat → Prop} {B : Nat} (h : Nums w .i64 A L) (hA : ∀ x, A = some x → B ≤ x.block ∧ x.block < w.heap.size) (o : Only S w w') (hs : ∀ k, S k → k < B) : Nums w' .i64 A L :=
  h.same (fun x hx => o.block _ (hA x hx).2 (fun s => by have := hs _ s; have := (hA x hx).1; omega))
end Go.Proofs.Ytmhnfcodppfaiac.ListCode
