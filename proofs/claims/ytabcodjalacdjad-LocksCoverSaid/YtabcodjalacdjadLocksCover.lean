
/- locks.Cover. -/
import Derived.Test.YtabcodjalacdjadLocksReady
namespace Go.Proofs.Ytabcodjalacdjad.LocksCode
open Go Go.RowKit Go.Shelf Go.Proofs.Ytabcodjalacdjad.Obj Go.Proofs.Ytabcodjalacdjad.Iter Go.Proofs.YtabcodjalacdjadW.PrintWords Go.Proofs.YtabcodjalacdjadW.PrintLast Go.Proofs.YtabcodjalacdjadW.PrintMore
attribute [local go_sem] Oper.semAt_some
set_option linter.unusedVariables false
set_option linter.unusedSimpArgs false
set_option maxRecDepth 100000
theorem infoI : (Try.prog.info? 3).map (fun i => (i.zero, i.size, i.bytes)) = some (some (.int .i64 0), 1, 8) := by kernel_rfl
/-- The cases of a channel. -/
def coverL (ch : Int) (xs : List KC) : List Int := (xs.filter fun x => x.2.ch == ch).map fun x => (x.1 : Int)
theorem coverL_yes {ch : Int} {x : KC} (xs : List KC) (h : (x.2.ch == ch) = true) : coverL ch (xs ++ [x]) = coverL ch xs ++ [(x.1 : Int)] := by simp [coverL, List.filter_append, h]
theorem coverL_no {ch : Int} {x : KC} (xs : List KC) (h : (x.2.ch == ch) = false) : coverL ch (xs ++ [x]) = coverL ch xs := by simp [coverL, List.filter_append, h]
theorem coverL_len (ch : Int) (xs : List KC) : (coverL ch xs).length ≤ xs.length := by
  rw [coverL, List.length_map]; exact List.length_filter_le _ _
theorem own_lower {w : World} {b b' : Nat} {e : TypeId} {size n : Nat} {v : Value} {xs : List Value} (h : w.ownsRow b e size v n xs) (hb : b' ≤ b) : w.ownsRow b' e size v n xs := by
  obtain ⟨h1, h2⟩ := h
  refine ⟨h1, ?_⟩
  rcases h2 with h2 | ⟨g, cap, cur, e, hg, r⟩
  · exact .inl h2
  · exact .inr ⟨g, cap, cur, e, Nat.le_trans hb hg, r⟩
set_option maxHeartbeats 4000000 in
theorem Cover_in {w : World} {A : Option Addr} {cap : Nat} {d : Bool} {cs : List Cs} (ch : Int) (h : CSl w.heap.size w A cs) (hl : cs.length ≤ 1000) (hcap : cs.length ≤ cap) :
    CallsIn Fence.wide 5 Try.prog 8 #[.agg #[.slice A cs.length cap, .bool d], .int .i64 ch] w fun e W' => ∃ v, e = .returned v ∧ W'.ownsRow w.heap.size 3 1 v (coverL ch (kcs cs cs.length)).length ((coverL ch (kcs cs cs.length)).map (Value.int .i64)) ∧ Below w.heap.size w W' := by
  have hro : Fence.wide.round = none := rfl
  have h15 : Fence.wide.fn 15 := trivial
  have h20 : Fence.wide.fn 20 := trivial
  have hwd : Fence.wide.depth = none := rfl
  obtain ⟨i0, hi, hz0, hz1, hz2⟩ := info_parts infoI
  refine callsIn_of_wp_marks Try.func8 rfl trivial ?_ hro
  simp only [Try.ntmps8, List.size_toArray, List.length_cons, List.length_nil, Nat.reduceAdd, Nat.reduceSub, Array.replicate_succ, Array.replicate_zero, List.push_toArray, List.append_toArray, List.nil_append, List.cons_append]
  gi_wp2_with (gi_at_call 15; refine (each_in Fence.wide _ h15 hro _ _ _ _ rfl _).mono ?_; rintro e w' ⟨rfl, rfl⟩)
  have b5 := (((Boxed.new (w.alloc (.cells #[.slice A cs.length cap, .bool d] 24)) 3 (.int .i64 ch)).alloc (.cells #[.slice none 0 0] 27)).alloc (.cells #[.slice A cs.length cap, .bool d] 24)).alloc (.cells #[.slice (some ⟨w.heap.size + 1 + 1 + 1, 0, none⟩) 1 1] 49)
  have b6 := ((Boxed.new ((w.alloc (.cells #[.slice A cs.length cap, .bool d] 24)).alloc (.cells #[.int .i64 ch] 3)) 27 (.slice none 0 0)).alloc (.cells #[.slice A cs.length cap, .bool d] 24)).alloc (.cells #[.slice (some ⟨w.heap.size + 1 + 1 + 1, 0, none⟩) 1 1] 49)
  have bS := (Blk.new (((w.alloc (.cells #[.slice A cs.length cap, .bool d] 24)).alloc (.cells #[.int .i64 ch] 3)).alloc (.cells #[.slice none 0 0] 27)) 24 [.slice A cs.length cap, .bool d]).alloc (.cells #[.slice (some ⟨w.heap.size + 1 + 1 + 1, 0, none⟩) 1 1] 49)
  have bL := Blk.new ((((w.alloc (.cells #[.slice A cs.length cap, .bool d] 24)).alloc (.cells #[.int .i64 ch] 3)).alloc (.cells #[.slice none 0 0] 27)).alloc (.cells #[.slice A cs.length cap, .bool d] 24)) 49 [.slice (some ⟨w.heap.size + 1 + 1 + 1, 0, none⟩) 1 1]
  simp only [World.size_alloc] at b5 b6 bS bL
  obtain ⟨W0, hW0⟩ : ∃ W0, W0 = ((((w.alloc (.cells #[.slice A cs.length cap, .bool d] 24)).alloc (.cells #[.int .i64 ch] 3)).alloc (.cells #[.slice none 0 0] 27)).alloc (.cells #[.slice A cs.length cap, .bool d] 24)).alloc (.cells #[.slice (some ⟨w.heap.size + 1 + 1 + 1, 0, none⟩) 1 1] 49) := ⟨_, rfl⟩
  have hsz : W0.heap.size = w.heap.size + 1 + 1 + 1 + 1 + 1 := by rw [hW0]; simp only [World.size_alloc]
  have hB0 : Below w.heap.size w W0 := by
    rw [hW0]
    exact (((((Below.refl _ w).alloc (Nat.le_refl _) _).alloc (by simp) _).alloc (by simp; omega) _).alloc (by simp; omega) _).alloc (by simp; omega) _
  rw [← hW0] at b5 b6 bS bL ⊢
  have hS : Stays W0 w.heap.size (w.heap.size + 1 + 1 + 1 + 1) (w.heap.size + 1 + 1 + 1) A cap d cs := ⟨bL, bS, h.below hB0⟩
  clear hW0
  refine wpIn_rangeFunc_ownH hro (by decide) (gf := 20) (lb := #[.pointer (some ⟨w.heap.size + 1 + 1 + 1 + 1, 0, none⟩)]) rfl h20 (enters_of Try.func20 (by kernel_rfl) rfl)
    (each1_stops 4 w.heap.size (w.heap.size + 1 + 1 + 1 + 1) (w.heap.size + 1 + 1 + 1) A cap d cs hl hcap W0 (by omega) hS) Kp_t (Kp_b (by omega)) (Below.refl _ _) (fun _ => rfl)
    (fun pre W => (Boxed W (w.heap.size + 1) 3 (.int .i64 ch) ∧ (∃ v, Boxed W (w.heap.size + 1 + 1) 27 v ∧ W.ownsRow (w.heap.size + 1 + 1) 3 1 v (coverL ch pre).length ((coverL ch pre).map (Value.int .i64)) ∧ True)) ∧ Below w.heap.size w W)
    (fun _ _ _ => False)
    (OwnFrom.and (OwnFrom.and (Own.from (boxed_own _ _ _) _) (Own.from (holdsRow_own (w.heap.size + 1 + 1) (w.heap.size + 1 + 1) 27 3 1 (fun pre : List KC => (coverL ch pre).length) (fun pre : List KC => (coverL ch pre).map (Value.int .i64)) (fun (pre : List KC) v => True)) _)) (ownFrom_below (Nat.le_refl _) (by omega)))
    (fun _ _ _ _ _ hs _ _ => hs)
    ⟨⟨b5, _, b6, World.ownsRow_nil _ _ _ _, trivial⟩, hB0⟩
    (fun x a' W => ∃ Bx, w.heap.size + 1 + 1 < Bx ∧ Blk W Bx 32 [.bool x.2.send, .int .i64 x.2.ch, .int .i64 x.2.vl, .int .i64 x.2.ok] ∧ a' = { tmps := #[.agg #[.slice A cs.length cap, .bool d], .int .i64 ch, .pointer (some ⟨w.heap.size, 0, none⟩), .pointer (some ⟨w.heap.size + 1, 0, none⟩), .pointer (some ⟨w.heap.size + 1 + 1, 0, none⟩), .int .i64 (x.1 : Int), .pointer (some ⟨Bx, 0, none⟩), .agg #[.slice A cs.length cap, .bool d], .slice (some ⟨w.heap.size + 1 + 1 + 1, 0, none⟩) 1 1, .func (.func 20) #[] #[.pointer (some ⟨w.heap.size + 1 + 1 + 1 + 1, 0, none⟩)], .int .i64 (x.1 : Int), .agg #[.bool x.2.send, .int .i64 x.2.ch, .int .i64 x.2.vl, .int .i64 x.2.ok], undef, undef, undef, undef, undef, undef, undef, undef, undef], defers := [] })
    (fun x a' _ X Y row hs hg hr => by obtain ⟨Bx, h1, h2, h3⟩ := hs; exact ⟨Bx, h1, blk_own Bx _ (fun (_ : Unit) => _) () X Y row h2 hg (fun r e => (hr r e).2), h3⟩)
    ?assign ?body ?done ?stop
  case assign =>
    rintro l pre ⟨k, c⟩ W K ⟨⟨b1, v, b2, b3, b4⟩, hB1⟩ hK
    simp only [encK, Cs.val]
    gi_wp2
    exact hK _ _ ((KeepsOthers.alloc _ _).from _) ⟨(Below.refl _ W).alloc hB1.size _, Kt.alloc _ _ _⟩ ⟨⟨b1.alloc _, v, b2.alloc _, b3.alloc _, b4⟩, hB1.alloc hB1.size _⟩ ⟨W.heap.size, b2.lt, Blk.new W _ _, rfl⟩
  case body =>
    rintro l pre ⟨k, c⟩ a' W hlw ⟨r, hr⟩ ⟨⟨b1, v, b2, b3, b4⟩, hB1⟩ ⟨Bx, hBx, bX, rfl⟩ hlt
    have hln := coverL_len ch pre
    have c1 := b1.cell
    have x1 : W.cell? ⟨Bx, 1, none⟩ = some (.int .i64 c.ch) := bX.cell 1
    have hc2 := b2.cell
    cases hq : (c.ch == ch) with
    | false =>
      have hno := hid (coverL_no (x := (k, c)) pre hq)
      gi_wp2
      exact ⟨KeepsFrom.refl _ _, ⟨Below.refl _ _, Kt.refl _ _⟩, by rw [hno.out]; exact ⟨b1, v, b2, b3⟩, hB1⟩
    | true =>
      have hyes := hid (coverL_yes (x := (k, c)) pre hq)
      obtain ⟨T, hT⟩ : ∃ T, T = coverL ch pre := ⟨_, rfl⟩
      rw [← hT] at b3 hyes hln
      clear hT
      gi_wp2_with (gi_at_builtin; refine wpListIn_append_own _ rfl _ _ 27 rfl (w.heap.size + 1 + 1) 3 i0 (.int .i64 0) 1 8 Try.underlying27 hi hz0 hz1 hz2 rfl (by decide) _ _ _ rfl (b3.alloc _) ⟨W.heap.size, 0, none⟩ 1 1 [.int .i64 (k : Int)] rfl rfl (cell_one_new _ _ _) (by simp [Value.oneCell']) (by unfold maxLen; omega) (by omega) (by have := b2.lt; simp; omega) ?_; intro v' w1 hown' hgrow hat; obtain ⟨g', cap', rfl⟩ := ownsRow_succ hown'; obtain ⟨hv1, hv2, hr2, hk2, hb2⟩ := b2.appended (by decide) b3 (Nat.le_of_lt b2.lt) (Nat.le_refl _) hown' hgrow; have hc1 := hv1.cell; have hf1 := hv1.frozen)
      have hkt : Kt KT W (w1.setCell ⟨w.heap.size + 1 + 1, 0, none⟩ (.slice (some ⟨g', 0, none⟩) (T.length + 1) cap')) :=
        Kt_t (Kt.alloc _ W (.cells #[.int .i64 (k : Int)] 3)) (Kt_t (Kt.grown (b3.alloc _) hgrow (by decide)) (Kt.set hv1 (by decide) _ rfl _))
      have hgr : (W.alloc (.cells #[.int .i64 (k : Int)] 3)).grownBy w1 v.ownBlock := hgrow
      have b1' : Boxed w1 (w.heap.size + 1) 3 (.int .i64 ch) := (b1.alloc (.cells #[.int .i64 (k : Int)] 3)).kept hgr (fun e => by
        rcases b3.2 with ⟨e2, _⟩ | ⟨g, cp, cur, e2, hg, _⟩
        · rw [e2] at e; cases e
        · rw [e2] at e
          have : w.heap.size + 1 = g := by simpa [Value.ownBlock] using e
          omega)
      have hbm := hb2.mono (B' := w.heap.size) (by omega)
      exact ⟨hk2.from _, ⟨hbm, hkt⟩, ⟨b1'.other (by omega) _, _, hv2, by rw [hyes.out]; simpa using hr2⟩, hB1.trans hbm⟩
  case done =>
    rintro D ys W hD rfl ⟨⟨b1, v, hv, hrow, -⟩, hB⟩ hK
    obtain ⟨A1, n1, c1, rfl⟩ : ∃ A n c, v = .slice A n c := by
      rcases hrow.2 with ⟨rfl, _⟩ | ⟨g, cap, cur, rfl, _⟩ <;> exact ⟨_, _, _, rfl⟩
    have hc := hv.cell
    have hf := hv.frozen
    gi_wp2
    have hne : some (w.heap.size + 1 + 1) ≠ (Value.slice A1 n1 c1).ownBlock := Boxed.not_row hv (by decide) hrow
    have hrow' := own_move hrow (w1 := W.setCell ⟨w.heap.size + 1 + 1, 0, none⟩ (.slice A1 n1 c1)) (fun k hk => Below.heap_setCell W ⟨w.heap.size + 1 + 1, 0, none⟩ _ k (fun e => hne (by rw [hk]; simpa using e.symm)))
    have hK' := (KeepsOthers.setCell W ⟨w.heap.size + 1 + 1, 0, none⟩ (.slice A1 n1 c1)).same D _ hK rfl
    refine ⟨by simp, .inl ⟨_, _, rfl, run_takeDeferred hK', ?_⟩⟩
    have hc5 := cell_kept (World.cell?_setCell_same' W ⟨w.heap.size + 1 + 1, 0, none⟩ (.slice A1 n1 c1) (by rw [hc]; rfl)) (grownBy_putObj' _ D (.deferred none)) (fun r e => by cases e; exact ⟨_, hK', rfl⟩)
    refine ⟨.slice A1 n1 c1, ?_, _, rfl, own_lower (ownsRow_putObj hrow' _ hK' rfl) (by omega), (hB.setCell (p := ⟨w.heap.size + 1 + 1, 0, none⟩) (by simp; omega) _).trans (belowK_b (w := w) (Nat.le_refl _) _ D _ _ (by omega) hK' rfl rfl)⟩
    simp [results, Try.f8, go_sem, hc5]
  case stop =>
    rintro D c pre W _ _ h _
    exact h.elim
end Go.Proofs.Ytabcodjalacdjad.LocksCode
