
/- ring.List is what a ring has, in order, in a row of its own. -/
import Derived.Test.YtabcodjalacdjaaRingAt
import Derived.Test.YtabcodjalacdjaaIter
namespace Go.Proofs.Ytabcodjalacdjaa.RingCode
open Go Go.RowKit Go.Shelf Go.Proofs.Ytabcodjalacdjaa.Obj Go.Proofs.Ytabcodjalacdjaa.Iter Go.Proofs.YtabcodjalacdjaaW.PrintWords Go.Proofs.YtabcodjalacdjaaW.PrintLast Go.Proofs.YtabcodjalacdjaaW.PrintMore
attribute [local go_sem] Oper.semAt_some
set_option linter.unusedVariables false
set_option maxRecDepth 100000
/-- What stays while the iterator runs: the ring, and the cell in which it was handed. -/
structure Stays (W : World) (Bn p most : Nat) (L : List Int) : Prop where
  cell : Blk W Bn 65 [.pointer (some ⟨p, 0, none⟩)]
  ring : RingAt W p most L
theorem RingAt.kt {W W' : World} {p most : Nat} {L : List Int} (h : RingAt W p most L) (k : Kt [65, 88] W W') : RingAt W' p most L := by
  obtain ⟨A, fr, h1, h2⟩ := h
  exact ⟨A, fr, blk_kt h1 k (by decide), h2⟩
theorem Stays.kept {W W' : World} {Bn p most : Nat} {L : List Int} (h : Stays W Bn p most L) (k : Kt [65, 88] W W') : Stays W' Bn p most L :=
  ⟨blk_kt h.cell k (by decide), h.ring.kt k⟩
theorem Stays.alloc {W : World} {Bn p most : Nat} {L : List Int} (h : Stays W Bn p most L) (o : Obj) : Stays (W.alloc o) Bn p most L := h.kept (Kt.alloc _ _ _)
theorem all1_in (n lb Bn p most : Nat) (L : List Int) (J Jx : List Int → World → Prop)
    (hJ : ∀ pre W m, J pre W → J pre (W.drewN m)) (hA : ∀ pre W o, J pre W → J pre (W.alloc o))
    (hY : ∀ pre x W, J pre W → pre.length < L.length → YieldAt Fence.wide (n - 1) Try.prog lb #[.int .i64 x] W fun e W' =>
      (e = .returned (.bool true) ∧ J (pre ++ [x]) W' ∧ Kt [65, 88] W W') ∨ (e = .returned (.bool false) ∧ Jx (pre ++ [x]) W'))
    (W : World) (hK : Stays W Bn p most L) (h0 : J [] W) :
    CallsIn Fence.wide n Try.prog 44 #[.func (.yield lb) #[] #[], .pointer (some ⟨Bn, 0, none⟩)] W fun e W' => (∃ v, e = .returned v) ∧
      ((∃ ys, ys = L ∧ J ys W') ∨ (∃ pre, pre <+: L ∧ Jx pre W')) := by
  refine callsIn_of_wp Try.func44 rfl trivial ?_ rfl
  simp only [Try.ntmps44, List.size_toArray, List.length_cons, List.length_nil, Nat.reduceAdd, Nat.reduceSub, Array.replicate_succ, Array.replicate_zero, List.push_toArray, List.append_toArray, List.nil_append, List.cons_append]
  have hc : W.cell? ⟨Bn, 0, none⟩ = some (.pointer (some ⟨p, 0, none⟩)) := hK.cell.cell 0
  have hbn := hK.cell.lt
  obtain ⟨A, fr, h1, h2⟩ := hK.ring
  obtain ⟨c8, c9, c10⟩ := rc8 h1 h2.len
  have hro : Fence.wide.round = none := rfl
  have hf1 : Fence.wide.fn 43 := trivial
  have hf2 : Fence.wide.fn 45 := trivial
  have hwd : Fence.wide.depth = none := rfl
  have hp := h1.lt
  have hS0 : Stays (W.alloc (.cells #[.pointer (some ⟨p,0,none⟩)] 65)) Bn p most L := hK.alloc _
  have hb0 : Blk (W.alloc (.cells #[.pointer (some ⟨p,0,none⟩)] 65)) W.heap.size 65 [.pointer (some ⟨p, 0, none⟩)] := Blk.new _ _ _
  have hJ0 := hA _ _ (.cells #[.pointer (some ⟨p,0,none⟩)] 65) h0
  gi_wp2_with (gi_at_call 43; refine (callsIn_wide.2 (places_raw p _)).mono ?_; rintro e w' ⟨rfl, rfl⟩)
  clear c8 c9 c10
  have hL8 : L.length ≤ 8 := by have := h2.fit; have := h2.most8; omega
  gi_loopw [11] (fun v wr => ∃ k : Nat, k ≤ L.length ∧ v = .int .i64 k ∧ J (L.take k) wr ∧ Stays wr Bn p most L ∧ Blk wr W.heap.size 65 [.pointer (some ⟨p, 0, none⟩)])
    (fun v wr => L.length - (intOf v).toNat)
  case atStart => exact ⟨0, by omega, rfl, hJ0, hS0, hb0⟩
  case round =>
    clear hJ0 hS0 hb0 hc hbn hp h1 h2
    obtain ⟨k, hk, rfl, hJs, hS, hB⟩ := hrel
    by_cases hlt : k < L.length
    · have hin : (k : Int) < (L.length : Int) := by omega
      obtain ⟨A, fr, h1, h2⟩ := hS.ring
      obtain ⟨c8, c9, c10⟩ := rc8 h1 h2.len
      have h8 := h2.most8
      have hi8 : (fr + k) % most < 8 := by have := Nat.mod_lt (fr + k) (show most > 0 by have := h2.fit; omega); omega
      have hm0 : 0 < most := by have := h2.fit; omega
      have hfr : fr ≤ 8 := by rcases h2.frm with h | h <;> omega
      have e8 : (((fr + k) % most : Nat) : Int) = ((fr : Int) + k) % most := by rw [Int.natCast_emod, Int.natCast_add]
      have hi8' : ((fr : Int) + k) % most < 8 := by omega
      have hi0' : 0 ≤ ((fr : Int) + k) % most := by omega
      obtain ⟨x, hx⟩ : ∃ x, L[k]? = some x := ⟨_, List.getElem?_eq_getElem hlt⟩
      have cx := rcA h1 _ x ((h2.get k hlt).trans hx)
      have cx2 : wr.cell? ⟨p, (((fr : Int) + k) % most).toNat, none⟩ = some (.int .i64 x) := by rw [← e8, Int.toNat_natCast]; exact cx
      have hc : wr.cell? ⟨Bn, 0, none⟩ = some (.pointer (some ⟨p, 0, none⟩)) := hS.cell.cell 0
      have hc2 : wr.cell? ⟨W.heap.size, 0, none⟩ = some (.pointer (some ⟨p, 0, none⟩)) := hB.cell 0
      have htk : L.take (k + 1) = L.take k ++ [x] := by
        rw [List.take_add_one, hx]; rfl
      have htkH := hid htk
      have hpre : L.take k ++ [x] <+: L := by rw [← htk]; exact List.take_prefix _ _
      clear e8 htk hx h1 h2
      obtain ⟨fn, tmps, assign, body, hyy, hR⟩ := hY (L.take k) x wr.drew.drew (hJ _ wr 2 hJs) (by rw [List.length_take]; omega)
      have hR' := hR.mono (R' := fun e W' => ∃ b : Bool, e = .returned (.bool b) ∧ ((b = true ∧ J (L.take k ++ [x]) W' ∧ Kt [65, 88] wr.drew.drew W') ∨ (b = false ∧ Jx (L.take k ++ [x]) W')))
          (fun e W' h => h.elim (fun h => ⟨true, h.1, .inl ⟨rfl, h.2⟩⟩) (fun h => ⟨false, h.1, .inr ⟨rfl, h.2⟩⟩))
      clear hR
      gi_wp2_with (fail)
      gi_region_with (first | (gi_at_call 45; (refine (callsIn_wide.2 (place_raw p W.heap.size most fr k _ hm0 h8 hfr (by omega) (by go_simp) (by go_simp) (by go_simp))).mono ?_); (rintro e w1 ⟨rfl, rfl⟩)) | (with_reducible refine hR'.mono ?_; rintro e W3 ⟨b, rfl, hpost⟩))
      all_goals
        rcases hpost with ⟨rfl, hJ3, hk3⟩ | ⟨rfl, hx3⟩
        · have hS3 := hS.kept (W' := W3) hk3
          have hB3 := blk_kt (W' := W3) hB hk3 (by decide)
          rw [← htkH.out] at hJ3
          clear hS hB hk3 hJs c8 c9 c10 cx cx2 hc hc2 hR' hyy
          gi_wp2
          go_roundw
          case rel => exact ⟨k + 1, by omega, by go_num, hJ3, hS3, hB3⟩
          case measure => simp [intOf]; omega
        · clear hS hB hJs c8 c9 c10 cx cx2 hc hc2 hR' hyy
          gi_wp2
          refine bodyPost_ret (results_none rfl _ _ _) rfl ?_
          exact ⟨⟨_, rfl⟩, .inr ⟨_, hpre, hx3⟩⟩
    · have hJ3 : J L wr := by
        rw [List.take_of_length_le (by omega)] at hJs
        exact hJs
      gi_wp2
      go_end0
      exact ⟨⟨_, rfl⟩, .inl ⟨_, rfl, hJ3⟩⟩
theorem all1_stops (n Bn p most : Nat) (L : List Int) (w : World) (hS : Stays w Bn p most L) :
    SeqStopsK Fence.wide n Try.prog 44 #[.pointer (some ⟨Bn, 0, none⟩)] (fun x : Int => #[Value.int .i64 x]) (Kt [65, 88]) (fun ys => ys = L) (fun pre => pre <+: L) L.length w := fun lb J Jx W hW hJ _ hY h0 =>
  all1_in n lb Bn p most L J Jx (fun pre W m h => hJ pre W (W.drewN m) none h ⟨rfl, rfl, rfl, Nat.le_refl _, fun _ _ _ => rfl⟩ (fun r e => by cases e))
    (fun pre W o h => hJ pre W (W.alloc o) none h (World.grownBy_alloc W o none) (fun r e => by cases e)) hY W
    ⟨hS.cell.same (hW.block _ hS.cell.lt), hS.ring.same (hW.block _ hS.ring.lt)⟩ h0
theorem all_in (F : Fence) (n : Nat) (h40 : F.fn 40) (hro : F.round = none) (p : Nat) (w : World) :
    CallsIn F n Try.prog 40 #[.pointer (some ⟨p, 0, none⟩)] w fun e w' => e = .returned (.func (.func 44) #[] #[.pointer (some ⟨w.heap.size, 0, none⟩)]) ∧ w' = w.alloc (.cells #[.pointer (some ⟨p, 0, none⟩)] 65) := by
  refine callsIn_of_wp Try.func40 rfl h40 ?_ hro
  simp only [Try.ntmps40, List.size_toArray, List.length_cons, List.length_nil, Nat.reduceAdd, Nat.reduceSub, Array.replicate_succ, Array.replicate_zero, List.push_toArray, List.append_toArray, List.nil_append, List.cons_append]
  gi_wp2
  refine bodyPost_ret (results_tmp rfl _ _ _) rfl ?_
  exact ⟨rfl, rfl⟩
theorem info2 : (Try.prog.info? 2).map (fun i => (i.zero, i.size, i.bytes)) = some (some (.int .i64 0), 1, 8) := by kernel_rfl
set_option maxHeartbeats 2000000 in
theorem List_in {p most : Nat} {L : List Int} {w : World} (h : RingAt w p most L) : CallsIn Fence.wide 5 Try.prog 33 #[.pointer (some ⟨p, 0, none⟩)] w fun e W' => ∃ v, e = .returned v ∧ W'.ownsRow w.heap.size 2 1 v L.length (L.map (Value.int .i64)) ∧ Below w.heap.size w W' := by
  have hro : Fence.wide.round = none := rfl
  have h40 : Fence.wide.fn 40 := trivial
  have h48 : Fence.wide.fn 44 := trivial
  have hwd : Fence.wide.depth = none := rfl
  have hL8 : L.length ≤ 8 := Nat.le_trans h.fit h.most8
  have hp := h.lt
  obtain ⟨i0, hi, hz0, hz1, hz2⟩ := info_parts info2
  refine callsIn_of_wp_marks Try.func33 rfl trivial ?_ hro
  simp only [Try.ntmps33, List.size_toArray, List.length_cons, List.length_nil, Nat.reduceAdd, Nat.reduceSub, Array.replicate_succ, Array.replicate_zero, List.push_toArray, List.append_toArray, List.nil_append, List.cons_append]
  gi_wp2_with (gi_at_call 40; refine (all_in Fence.wide _ h40 hro _ _).mono ?_; rintro e w' ⟨rfl, rfl⟩)
  have bO := Boxed.new w 53 (.slice none 0 0)
  have bN := Boxed.new (w.alloc (.cells #[.slice none 0 0] 53)) 65 (.pointer (some ⟨p, 0, none⟩))
  rw [World.size_alloc] at bN
  have hB0 : Below w.heap.size w ((w.alloc (.cells #[.slice none 0 0] 53)).alloc (.cells #[.pointer (some ⟨p, 0, none⟩)] 65)) := ((Below.refl _ w).alloc (Nat.le_refl _) _).alloc (by simp) _
  have hS : Stays ((w.alloc (.cells #[.slice none 0 0] 53)).alloc (.cells #[.pointer (some ⟨p, 0, none⟩)] 65)) (w.heap.size + 1) p most L := ⟨by have := Blk.new (w.alloc (.cells #[.slice none 0 0] 53)) 65 [.pointer (some ⟨p, 0, none⟩)]; rw [World.size_alloc] at this; exact this, (h.alloc _).alloc _⟩
  refine wpIn_rangeFunc_ownG hro (by decide) (gf := 44) (lb := #[.pointer (some ⟨w.heap.size + 1, 0, none⟩)]) rfl h48 (enters_of Try.func44 (by kernel_rfl) rfl)
    (all1_stops 4 (w.heap.size + 1) p most L _ hS) Kt_t (Kt_b (w := (w.alloc (.cells #[.slice none 0 0] 53)).alloc (.cells #[.pointer (some ⟨p, 0, none⟩)] 65))) (Below.refl _ _) (fun _ => rfl)
    (fun pre W => (∃ v, Boxed W w.heap.size 53 v ∧ W.ownsRow w.heap.size 2 1 v pre.length (pre.map (Value.int .i64)) ∧ True) ∧ Below w.heap.size w W)
    (fun _ _ _ => False)
    (OwnFrom.and (Own.from (holdsRow_own w.heap.size w.heap.size 53 2 1 (fun pre : List Int => pre.length) (fun pre : List Int => pre.map (Value.int .i64)) (fun (pre : List Int) v => True)) _) (ownFrom_below (Nat.le_refl _) (by simp; omega)))
    (fun _ _ _ _ _ hs _ _ => hs)
    ⟨⟨_, bO.alloc _, World.ownsRow_nil _ _ _ _, trivial⟩, hB0⟩
    (fun x => { tmps := #[.pointer (some ⟨p, 0, none⟩), undef, .pointer (some ⟨w.heap.size, 0, none⟩), .int .i64 x, .pointer (some ⟨p, 0, none⟩), .bool false, .pointer (some ⟨p, 0, none⟩), .func (.func 44) #[] #[.pointer (some ⟨w.heap.size + 1, 0, none⟩)], .int .i64 x, undef, undef, undef, undef, undef], defers := [] }) ?assign ?body ?done ?stop
  case assign =>
    intro l x W K hK
    gi_wp2
    first | exact hK | simpa using hK
  case body =>
    rintro lb pre x W ⟨⟨v, hv, hrow, -⟩, hB⟩ hlt
    have hc := hv.cell
    gi_wp2_with (gi_at_builtin; refine wpListIn_append_own _ rfl _ _ 53 rfl w.heap.size 2 i0 (.int .i64 0) 1 8 Try.underlying53 hi hz0 hz1 hz2 rfl (by decide) _ _ _ rfl (hrow.alloc _) ⟨W.heap.size, 0, none⟩ 1 1 [.int .i64 x] rfl rfl (cell_one_new _ _ _) (by simp [Value.oneCell']) (by unfold maxLen; omega) (by omega) (by have := hB.size; simp; omega) ?_; intro v' w1 hown' hgrow _; obtain ⟨g', cap', rfl⟩ := ownsRow_succ hown'; obtain ⟨hv1, hv2, hr2, hk2, hb2⟩ := hv.appended (by decide) hrow hB.size (Nat.le_refl _) hown' hgrow; have hc1 := hv1.cell; have hf1 := hv1.frozen)
    have hkt : Kt [65, 88] W (w1.setCell ⟨w.heap.size, 0, none⟩ (.slice (some ⟨g', 0, none⟩) (pre.length + 1) cap')) :=
      Kt_t (Kt.alloc _ W (.cells #[.int .i64 x] 2)) (Kt_t (Kt.grown (hrow.alloc _) hgrow (by decide)) (Kt.set hv1 (by decide) _ rfl _))
    exact ⟨hk2.from _, hkt, ⟨_, hv2, by simpa using hr2, trivial⟩, hB.trans hb2⟩
  case done =>
    rintro D ys W hD rfl ⟨⟨v, hv, hrow, -⟩, hB⟩ hK
    obtain ⟨A, n, c, rfl⟩ : ∃ A n c, v = .slice A n c := by
      rcases hrow.2 with ⟨rfl, _⟩ | ⟨g, cap, cur, rfl, _⟩ <;> exact ⟨_, _, _, rfl⟩
    have hc := hv.cell
    have hf := hv.frozen
    gi_wp2
    have hne : some w.heap.size ≠ (Value.slice A n c).ownBlock := Boxed.not_row hv (by decide) hrow
    have hrow' : (W.setCell ⟨w.heap.size, 0, none⟩ (.slice A n c)).ownsRow w.heap.size 2 1 (.slice A n c) ys.length (ys.map (Value.int .i64)) :=
      own_move hrow (fun k hk => Below.heap_setCell W ⟨w.heap.size, 0, none⟩ _ k (fun e => hne (by rw [hk]; simpa using e.symm)))
    have hK' := (KeepsOthers.setCell W ⟨w.heap.size, 0, none⟩ (.slice A n c)).same D _ hK rfl
    refine ⟨by simp, .inl ⟨_, _, rfl, run_takeDeferred hK', ?_⟩⟩
    have hc5 := cell_kept (World.cell?_setCell_same' W ⟨w.heap.size, 0, none⟩ (.slice A n c) (by rw [hc]; rfl)) (grownBy_putObj' _ D (.deferred none)) (fun r e => by cases e; exact ⟨_, hK', rfl⟩)
    refine ⟨.slice A n c, ?_, _, rfl, ownsRow_putObj hrow' _ hK' rfl, (hB.setCell (p := ⟨w.heap.size, 0, none⟩) (Nat.le_refl _) _).trans (belowK_b (w := w) (Nat.le_refl _) _ D _ _ (by simp at hD; omega) hK' rfl rfl)⟩
    simp [results, Try.f33, go_sem, hc5]
  case stop =>
    rintro D c pre W _ _ h _
    exact h.elim
theorem list_at {p most : Nat} {L : List Int} {w : World} (h : RingAt w p most L) : Calls Try.prog 33 #[.pointer (some ⟨p, 0, none⟩)] w fun e W' => ∃ v, e = .returned v ∧ W'.ownsRow w.heap.size 2 1 v L.length (L.map (Value.int .i64)) ∧ Below w.heap.size w W' :=
  callsIn_wide.1 (List_in h)
theorem list_nums {p most : Nat} {L : List Int} {w : World} (h : RingAt w p most L) : Calls Try.prog 33 #[.pointer (some ⟨p, 0, none⟩)] w fun e W' => ∃ A c, e = .returned (.slice A L.length c) ∧ Nums W' .i64 A L ∧ Below w.heap.size w W' := by
  refine (list_at h).mono ?_
  rintro e W' ⟨v, rfl, hrow, hB⟩
  obtain ⟨A, c, rfl⟩ := own_form hrow
  exact ⟨A, c, rfl, own_nums hrow, hB⟩
end Go.Proofs.Ytabcodjalacdjaa.RingCode
