
/- order.Pick: the first one of the row that is ready. -/
import Derived.Test.YtabcodjalacdjaaOrderNew
namespace Go.Proofs.Ytabcodjalacdjaa.OrderCode
open Go Go.RowKit Go.Shelf Go.Proofs.Ytabcodjalacdjaa.Obj Go.Proofs.Ytabcodjalacdjaa.Iter Go.Proofs.YtabcodjalacdjaaW.PrintWords Go.Proofs.YtabcodjalacdjaaW.PrintLast Go.Proofs.YtabcodjalacdjaaW.PrintMore
attribute [local go_sem] Oper.semAt_some
set_option linter.unusedVariables false
set_option maxRecDepth 100000
/-- Is it ready? -/
def rdy (s : Nat) (x : Int) : Bool := s.testBit x.toNat
abbrev KT : List TypeId := [24, 30, 60]
structure Stays (W : World) (Bn Bs o s : Nat) (L : List Int) : Prop where
  cell : Blk W Bn 24 [.pointer (some ⟨o, 0, none⟩)]
  set : Blk W Bs 30 [.int .u64 (s : Int)]
  row : OrdAt W o L
theorem OrdAt.kt {W W' : World} {o : Nat} {L : List Int} (h : OrdAt W o L) (k : Kt KT W W') : OrdAt W' o L := by
  obtain ⟨p, h1, h2⟩ := h
  exact ⟨p, h1, blk_kt h2 k (by decide)⟩
theorem Stays.kept {W W' : World} {Bn Bs o s : Nat} {L : List Int} (h : Stays W Bn Bs o s L) (k : Kt KT W W') : Stays W' Bn Bs o s L := ⟨blk_kt h.cell k (by decide), blk_kt h.set k (by decide), h.row.kt k⟩
theorem Stays.drewN {W : World} {Bn Bs o s : Nat} {L : List Int} (h : Stays W Bn Bs o s L) (m : Nat) : Stays (W.drewN m) Bn Bs o s L := ⟨h.cell, h.set, h.row.drewN m⟩
def Small (L : List Int) : Prop := ∀ x ∈ L, ∃ m : Nat, x = (m : Int) ∧ m < 6
set_option maxHeartbeats 2000000 in
theorem ready1_in (n lb Bn Bs o s : Nat) (L : List Int) (hs : s < 2 ^ 64) (hL : Small L) (J Jx : List Int → World → Prop)
    (hJ : ∀ pre W m, J pre W → J pre (W.drewN m))
    (hY : ∀ pre x W, J pre W → pre.length < L.length → YieldAt Fence.wide (n - 1) Try.prog lb #[.int .i64 x] W fun e W' =>
      (e = .returned (.bool true) ∧ J (pre ++ [x]) W' ∧ Kt KT W W') ∨ (e = .returned (.bool false) ∧ Jx (pre ++ [x]) W'))
    (W : World) (hK : Stays W Bn Bs o s L) (h0 : J [] W) :
    CallsIn Fence.wide n Try.prog 34 #[.func (.yield lb) #[] #[], .pointer (some ⟨Bn, 0, none⟩), .pointer (some ⟨Bs, 0, none⟩)] W fun e W' => (∃ v, e = .returned v) ∧
      ((∃ ys, ys = L.filter (rdy s) ∧ J ys W') ∨ (∃ pre, pre <+: L.filter (rdy s) ∧ Jx pre W')) := by
  refine callsIn_of_wp Try.func34 rfl trivial ?_ rfl
  simp only [Try.ntmps34, List.size_toArray, List.length_cons, List.length_nil, Nat.reduceAdd, Nat.reduceSub, Array.replicate_succ, Array.replicate_zero, List.push_toArray, List.append_toArray, List.nil_append, List.cons_append]
  have hc : W.cell? ⟨Bn, 0, none⟩ = some (.pointer (some ⟨o, 0, none⟩)) := hK.cell.cell 0
  have hbn := hK.cell.lt
  have hro : Fence.wide.round = none := rfl
  have hf1 : Fence.wide.fn 21 := trivial
  have hf2 : Fence.wide.fn 35 := trivial
  have hwd : Fence.wide.depth = none := rfl
  have hR := row_at hK.row
  have hS0 : Stays (W.drewN 1) Bn Bs o s L := hK.drewN 1
  have hJ0 := hJ _ _ 1 h0
  have h6 := hK.row.six
  clear h0 hK
  gi_wp2_with (gi_at_call 21; refine (callsIn_wide.2 hR).mono ?_; rintro e w' ⟨rfl, rfl⟩)
  clear hR hc
  gi_loopw [9] (fun v wr => ∃ k : Nat, k ≤ L.length ∧ v = .int .i64 k ∧ J ((L.take k).filter (rdy s)) wr ∧ Stays wr Bn Bs o s L)
    (fun v wr => L.length - (intOf v).toNat)
  case atStart => exact ⟨0, by omega, rfl, hJ0, hS0⟩
  case round =>
    clear hJ0 hS0 hbn
    obtain ⟨k, hk, rfl, hJs, hS⟩ := hrel
    by_cases hlt : k < L.length
    · have hin : (k : Int) < (L.length : Int) := by omega
      obtain ⟨x, hx⟩ : ∃ x, L[k]? = some x := ⟨_, List.getElem?_eq_getElem hlt⟩
      have hxm : x ∈ L := List.mem_of_getElem? hx
      obtain ⟨m, rfl, hm6⟩ := hL x hxm
      have cx := hS.row.at k hlt
      rw [show L.getD k 0 = (m : Int) by simp [List.getD, hx]] at cx
      have cs := hS.set.cell 0
      have cs' : wr.cell? ⟨Bs, 0, none⟩ = some (.int .u64 (s : Int)) := cs
      have htk : L.take (k + 1) = L.take k ++ [(m : Int)] := by rw [List.take_add_one, hx]; rfl
      have hH := has_at s hs m hm6 wr
      clear cs hx hxm
      cases hb : s.testBit m with
      | false =>
        rw [hb] at hH
        have hno : (L.take (k + 1)).filter (rdy s) = (L.take k).filter (rdy s) := by
          rw [htk, List.filter_append]; simp [rdy, hb]
        have hnoH := hid hno
        clear hno htk hb hY
        gi_wp2_with (gi_at_call 35; refine (callsIn_wide.2 hH).mono ?_; rintro e w' ⟨rfl, rfl⟩)
        refine ⟨(fun f hf => by cases hf), ?_⟩
        gi_wp2
        refine ⟨⟨k + 1, by omega, by first | rfl | go_num, by rw [hnoH.out]; exact hJs, hS⟩, by simp [intOf]; omega⟩
      | true =>
        rw [hb] at hH
        have hyes : (L.take (k + 1)).filter (rdy s) = (L.take k).filter (rdy s) ++ [(m : Int)] := by
          rw [htk, List.filter_append]; simp [rdy, hb]
        have hyesH := hid hyes
        have hpre : (L.take k).filter (rdy s) ++ [(m : Int)] <+: L.filter (rdy s) := by
          rw [← hyes]; exact (List.take_prefix _ _).filter _
        obtain ⟨fn, tmps, assign, body, hyy, hR⟩ := hY ((L.take k).filter (rdy s)) (m : Int) wr hJs (Nat.lt_of_le_of_lt (List.length_filter_le _ _) (by rw [List.length_take]; omega))
        have hR' := hR.mono (R' := fun e W' => ∃ b : Bool, e = .returned (.bool b) ∧ ((b = true ∧ J ((L.take k).filter (rdy s) ++ [(m : Int)]) W' ∧ Kt KT wr W') ∨ (b = false ∧ Jx ((L.take k).filter (rdy s) ++ [(m : Int)]) W')))
          (fun e W' h => h.elim (fun h => ⟨true, h.1, .inl ⟨rfl, h.2⟩⟩) (fun h => ⟨false, h.1, .inr ⟨rfl, h.2⟩⟩))
        clear hR hyes htk hb hY
        gi_wp2_with (first | (gi_at_call 35; refine (callsIn_wide.2 hH).mono ?_; rintro e w' ⟨rfl, rfl⟩) | (with_reducible refine hR'.mono ?_; rintro e W3 ⟨b, rfl, hpost⟩))
        all_goals rcases hpost with ⟨rfl, hJ3, hk3⟩ | ⟨rfl, hx3⟩
        · rename_i hq; exact absurd hq (by decide)
        · refine bodyPost_ret (results_none rfl _ _ _) rfl ?_
          exact ⟨⟨_, rfl⟩, .inr ⟨_, hpre, hx3⟩⟩
        · refine ⟨⟨k + 1, by omega, by first | rfl | go_num, by rw [hyesH.out]; exact hJ3, hS.kept hk3⟩, by simp [intOf]; omega⟩
        · rename_i hq; exact absurd hq (by decide)
    · have hJ3 : J (L.filter (rdy s)) wr := by
        rw [List.take_of_length_le (by omega)] at hJs
        exact hJs
      gi_wp2
      go_end0
      exact ⟨⟨_, rfl⟩, .inl ⟨_, rfl, hJ3⟩⟩
theorem ready1_stops (n Bn Bs o s : Nat) (L : List Int) (hs : s < 2 ^ 64) (hL : Small L) (w : World) (hS : Stays w Bn Bs o s L) :
    SeqStopsK Fence.wide n Try.prog 34 #[.pointer (some ⟨Bn, 0, none⟩), .pointer (some ⟨Bs, 0, none⟩)] (fun x : Int => #[Value.int .i64 x]) (Kt KT) (fun ys => ys = L.filter (rdy s)) (fun pre => pre <+: L.filter (rdy s)) L.length w := fun lb J Jx W hW hJ _ hY h0 =>
  ready1_in n lb Bn Bs o s L hs hL J Jx (fun pre W m h => hJ pre W (W.drewN m) none h ⟨rfl, rfl, rfl, Nat.le_refl _, fun _ _ _ => rfl⟩ (fun r e => by cases e)) hY W
    ⟨hS.cell.same (hW.block _ hS.cell.lt), hS.set.same (hW.block _ hS.set.lt), hS.row.same (hW.block _ hS.row.lt)⟩ h0
theorem ready_in (F : Fence) (n : Nat) (h33 : F.fn 20) (hro : F.round = none) (o : Nat) (s : Int) (w : World) :
    CallsIn F n Try.prog 20 #[.pointer (some ⟨o, 0, none⟩), .int .u64 s] w fun e w' => e = .returned (.func (.func 34) #[] #[.pointer (some ⟨w.heap.size, 0, none⟩), .pointer (some ⟨w.heap.size + 1, 0, none⟩)]) ∧ w' = (w.alloc (.cells #[.pointer (some ⟨o, 0, none⟩)] 24)).alloc (.cells #[.int .u64 s] 30) := by
  refine callsIn_of_wp Try.func20 rfl h33 ?_ hro
  simp only [Try.ntmps20, List.size_toArray, List.length_cons, List.length_nil, Nat.reduceAdd, Nat.reduceSub, Array.replicate_succ, Array.replicate_zero, List.push_toArray, List.append_toArray, List.nil_append, List.cons_append]
  gi_wp2
  refine bodyPost_ret (results_tmp rfl _ _ _) rfl ?_
  exact ⟨rfl, rfl⟩
/-- The first one that is ready; 0: none is. -/
def pickV (L : List Int) (s : Nat) : Int := (L.filter (rdy s)).headD 0
def pickB (L : List Int) (s : Nat) : Bool := !(L.filter (rdy s)).isEmpty
def lastX (pre : List Int) : Value := match pre.getLast? with
  | some y => .int .i64 y
  | none => undef
set_option maxHeartbeats 2000000 in
theorem Pick_in {o s : Nat} {L : List Int} {w : World} (h : OrdAt w o L) (hs : s < 2 ^ 64) (hL : Small L) : CallsIn Fence.wide 5 Try.prog 8 #[.pointer (some ⟨o, 0, none⟩), .int .u64 (s : Int)] w fun e W' => e = .returned (.tuple #[.int .i64 (pickV L s), .bool (pickB L s)]) ∧ Below w.heap.size w W' := by
  have hro : Fence.wide.round = none := rfl
  have h33 : Fence.wide.fn 20 := trivial
  have h40 : Fence.wide.fn 34 := trivial
  have hwd : Fence.wide.depth = none := rfl
  have h6 := h.six
  have hp := h.lt
  refine callsIn_of_wp_marks Try.func8 rfl trivial ?_ hro
  simp only [Try.ntmps8, List.size_toArray, List.length_cons, List.length_nil, Nat.reduceAdd, Nat.reduceSub, Array.replicate_succ, Array.replicate_zero, List.push_toArray, List.append_toArray, List.nil_append, List.cons_append]
  gi_wp2_with (gi_at_call 20; refine (ready_in Fence.wide _ h33 hro _ _ _).mono ?_; rintro e w' ⟨rfl, rfl⟩)
  have hz2 : w.heap.size + 1 + 1 = w.heap.size + 2 := rfl
  generalize hW1 : (((w.alloc (.cells #[.int .i64 0] 3)).alloc (.cells #[.bool false] 4)).alloc (.cells #[.pointer (some ⟨o, 0, none⟩)] 24)).alloc (.cells #[.int .u64 (s : Int)] 30) = W1
  have hsz : W1.heap.size = w.heap.size + 1 + 1 + 1 + 1 := by rw [← hW1]; simp
  have hB0 : Below w.heap.size w W1 := by
    rw [← hW1]
    exact ((((Below.refl _ w).alloc (Nat.le_refl _) _).alloc (by simp) _).alloc (by simp; omega) _).alloc (by simp; omega) _
  have bA : Boxed W1 w.heap.size 3 (.int .i64 0) := by
    rw [← hW1]; exact (((Boxed.new w 3 (.int .i64 0)).alloc _).alloc _).alloc _
  have bC : Boxed W1 (w.heap.size + 1) 4 (.bool false) := by
    have := Boxed.new (w.alloc (.cells #[.int .i64 0] 3)) 4 (.bool false)
    rw [World.size_alloc] at this
    rw [← hW1]; exact (this.alloc _).alloc _
  have hS : Stays W1 (w.heap.size + 1 + 1) (w.heap.size + 1 + 1 + 1) o s L := by
    refine ⟨?_, ?_, h.below hB0⟩
    · have := Blk.new ((w.alloc (.cells #[.int .i64 0] 3)).alloc (.cells #[.bool false] 4)) 24 [.pointer (some ⟨o, 0, none⟩)]
      rw [World.size_alloc, World.size_alloc] at this
      rw [← hW1]; exact this.alloc _
    · have := Blk.new (((w.alloc (.cells #[.int .i64 0] 3)).alloc (.cells #[.bool false] 4)).alloc (.cells #[.pointer (some ⟨o, 0, none⟩)] 24)) 30 [.int .u64 (s : Int)]
      rw [World.size_alloc, World.size_alloc, World.size_alloc] at this
      rw [← hW1]; exact this
  clear hW1
  refine wpIn_rangeFunc_ownG hro (by decide) (gf := 34) (lb := #[.pointer (some ⟨w.heap.size + 1 + 1, 0, none⟩), .pointer (some ⟨w.heap.size + 1 + 1 + 1, 0, none⟩)]) rfl h40 (enters_of Try.func34 (by kernel_rfl) rfl)
    (ready1_stops 4 (w.heap.size + 1 + 1) (w.heap.size + 1 + 1 + 1) o s L hs hL _ hS) Kt_t (Kt_b (w := W1)) (Below.refl _ _) (fun _ => rfl)
    (fun pre W => pre = [] ∧ Boxed W w.heap.size 3 (.int .i64 0) ∧ Boxed W (w.heap.size + 1) 4 (.bool false) ∧ Below w.heap.size w W)
    (fun c pre W => (c = .ret ∧ ∃ x, pre = [x]) ∧ Boxed W w.heap.size 3 (lastX pre) ∧ Boxed W (w.heap.size + 1) 4 (.bool true) ∧ Below w.heap.size w W)
    (OwnFrom.and (ownFrom_pure _ _) (OwnFrom.and (Own.from (boxed_own _ _ (fun _ => Value.int .i64 0)) _) (OwnFrom.and (Own.from (boxed_own _ _ (fun _ => Value.bool false)) _) (ownFrom_below (Nat.le_refl _) (by omega)))))
    (fun c => OwnFrom.and (ownFrom_pure _ _) (OwnFrom.and (Own.from (boxed_own _ _ lastX) _) (OwnFrom.and (Own.from (boxed_own _ _ (fun _ => Value.bool true)) _) (ownFrom_below (Nat.le_refl _) (by omega)))))
    ⟨rfl, bA, bC, hB0⟩
    (fun x => { tmps := #[.pointer (some ⟨o, 0, none⟩), .int .u64 (s : Int), undef, undef, .pointer (some ⟨w.heap.size, 0, none⟩), .pointer (some ⟨w.heap.size + 1, 0, none⟩), .int .i64 x, .pointer (some ⟨o, 0, none⟩), .int .u64 (s : Int), .func (.func 34) #[] #[.pointer (some ⟨w.heap.size + 1 + 1, 0, none⟩), .pointer (some ⟨w.heap.size + 1 + 1 + 1, 0, none⟩)], .int .i64 x, undef], defers := [] }) ?assign ?body ?done ?stop
  case assign =>
    intro l x W K hK
    gi_wp2
    first | exact hK | simpa using hK
  case body =>
    rintro lb pre x W ⟨rfl, ha, hc, hB⟩ hlt
    have hca := ha.cell
    have hfa := ha.frozen
    have hcc := hc.cell
    have hfc := hc.frozen
    have hne : w.heap.size ≠ w.heap.size + 1 := by omega
    gi_wp2
    refine ⟨((KeepsOthers.setCell W _ _).trans (KeepsOthers.setCell _ _ _)).from _, ⟨rfl, x, rfl⟩, ?_, ?_, (hB.setCell (p := ⟨w.heap.size, 0, none⟩) (Nat.le_refl _) _).setCell (p := ⟨w.heap.size + 1, 0, none⟩) (by simp) _⟩
    · have h1 : Boxed (W.setCell ⟨w.heap.size, 0, none⟩ (.int .i64 x)) w.heap.size 3 (.int .i64 x) := ha.set _
      exact (Below.heap_setCell _ ⟨w.heap.size + 1, 0, none⟩ _ _ hne).trans h1
    · have h1 : Boxed (W.setCell ⟨w.heap.size, 0, none⟩ (.int .i64 x)) (w.heap.size + 1) 4 (.bool false) := (Below.heap_setCell _ ⟨w.heap.size, 0, none⟩ _ _ (fun e => hne e.symm)).trans hc
      exact h1.set _
  case done =>
    rintro D ys W hD rfl ⟨hpre, ha, hc, hB⟩ hK
    have hca := ha.cell
    have hfa := ha.frozen
    have hcc := hc.cell
    have hfc := hc.frozen
    have hne : w.heap.size ≠ w.heap.size + 1 := by omega
    gi_wp2
    have h1 : Boxed ((W.setCell ⟨w.heap.size, 0, none⟩ (.int .i64 0)).setCell ⟨w.heap.size + 1, 0, none⟩ (.bool false)) w.heap.size 3 (.int .i64 0) := (Below.heap_setCell _ ⟨w.heap.size + 1, 0, none⟩ _ _ hne).trans (ha.set _)
    have h2 : Boxed ((W.setCell ⟨w.heap.size, 0, none⟩ (.int .i64 0)).setCell ⟨w.heap.size + 1, 0, none⟩ (.bool false)) (w.heap.size + 1) 4 (.bool false) := Boxed.set (v := .bool false) _ ((Below.heap_setCell _ ⟨w.heap.size, 0, none⟩ _ _ (fun e => hne e.symm)).trans hc)
    have hB2 : Below w.heap.size w ((W.setCell ⟨w.heap.size, 0, none⟩ (.int .i64 0)).setCell ⟨w.heap.size + 1, 0, none⟩ (.bool false)) := (hB.setCell (p := ⟨w.heap.size, 0, none⟩) (Nat.le_refl _) _).setCell (p := ⟨w.heap.size + 1, 0, none⟩) (by simp) _
    have hK' := ((KeepsOthers.setCell W ⟨w.heap.size, 0, none⟩ (.int .i64 0)).trans (KeepsOthers.setCell _ ⟨w.heap.size + 1, 0, none⟩ (.bool false))).same D _ hK rfl
    generalize (W.setCell ⟨w.heap.size, 0, none⟩ (.int .i64 0)).setCell ⟨w.heap.size + 1, 0, none⟩ (.bool false) = W5 at *
    refine ⟨by simp, .inl ⟨_, _, rfl, run_takeDeferred hK', ?_⟩⟩
    have g1 := (h1.kept (grownBy_putObj' W5 D (.deferred none)) (by intro e; injection e; omega)).cell
    have g2 := (h2.kept (grownBy_putObj' W5 D (.deferred none)) (by intro e; injection e; omega)).cell
    refine ⟨.tuple #[.int .i64 0, .bool false], ?_, ?_, hB2.trans (belowK_b (w := w) (Nat.le_refl _) _ D _ _ (by omega) hK' rfl rfl)⟩
    · simp [results, Try.f8, go_sem, g1, g2]
    · rw [show pickV L s = 0 by rw [pickV, hpre]; rfl, show pickB L s = false by rw [pickB, hpre]; rfl]
  case stop =>
    rintro D c pre W hD hpm ⟨⟨rfl, x, rfl⟩, ha, hc, hB⟩ hK
    have hca := ha.cell
    have hcc := hc.cell
    gi_wp2
    refine ⟨by simp, .inl ⟨_, _, rfl, run_takeDeferred hK, ?_⟩⟩
    have g1 := (ha.kept (grownBy_putObj' W D (.deferred none)) (by intro e; injection e; omega)).cell
    have g2 := (hc.kept (grownBy_putObj' W D (.deferred none)) (by intro e; injection e; omega)).cell
    refine ⟨.tuple #[.int .i64 x, .bool true], ?_, ?_, hB.trans (belowK_b (w := w) (Nat.le_refl _) _ D _ _ (by omega) hK rfl rfl)⟩
    · simp [results, Try.f8, go_sem, g1, g2, lastX]
    · obtain ⟨r, hr⟩ := hpm
      simp [pickV, pickB, ← hr]
theorem pick_at {o s : Nat} {L : List Int} {w : World} (h : OrdAt w o L) (hs : s < 2 ^ 64) (hL : Small L) : Calls Try.prog 8 #[.pointer (some ⟨o, 0, none⟩), .int .u64 (s : Int)] w fun e W' => e = .returned (.tuple #[.int .i64 (pickV L s), .bool (pickB L s)]) ∧ Below w.heap.size w W' :=
  callsIn_wide.1 (Pick_in h hs hL)
end Go.Proofs.Ytabcodjalacdjaa.OrderCode
