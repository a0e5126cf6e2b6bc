
/- mchan: Wait. -/
import Derived.Test.YtabcodjalacdjaaMchanType
import Derived.Laws.ResultCell
import Derived.BigQuiet
import Derived.Deep.RegionLaw
namespace Go.Proofs.Ytabcodjalacdjaa.MchanCode
open Go Go.RowKit Go.Shelf Go.Proofs.Ytabcodjalacdjaa.Obj Go.Proofs.Ytabcodjalacdjaa.Iter Go.Proofs.Ytabcodjalacdjaa.RingCode Go.Proofs.YtabcodjalacdjaaW.PrintWords Go.Proofs.YtabcodjalacdjaaW.PrintLast Go.Proofs.YtabcodjalacdjaaW.PrintMore
attribute [local go_sem] Oper.semAt_some
set_option linter.unusedVariables false
set_option linter.unusedSimpArgs false
set_option maxRecDepth 100000
section
variable {ops : Array Oper} {rest : List Oper} {o : Oper} {a : Act} {Q : Exit → Act → World → Prop}
theorem wp_normal {P : Program} {c : Code} {Q : Exit → Act → World → Prop} {a : Act} {w : World} (h : c.wp P (fun e a w => match e with | .normal => Q .normal a w | _ => False) a w) : c.wp P Q a w :=
  wp_mono h fun e a w h => by cases e <;> first | exact h | exact h.elim
theorem wrow_step {W : World} {lo : Nat} (hw : Region.wanted o (yielded ops a.tmps) = true) (s x : Operand) (ho : o.op = .call { callee := .builtin .append, args := #[s, x], argTypes := #[55, 55] })
    {v : Value} {L : List Wt} (y : Wt) {b : Nat} (hs : a.eval s = v) (hx : a.eval x = .slice (some ⟨b, 0, none⟩) 1 1) (HO : WRow lo W v L) (hb : Blk W b 48 y.cells) (hbase : lo ≤ W.heap.size) (hl : L.length ≤ 100000) {Kc : Act → World → Prop} {E : Prop}
    (h : ∀ v1 w1, WRow lo w1 v1 (L ++ [y]) → W.grownBy w1 v.ownBlock → (v1.ownBlock = v.ownBlock ∨ ∃ k, v1.ownBlock = some k ∧ W.heap.size ≤ k) → Kc (a.put o.dst v1) w1) :
    if Region.wanted o (yielded ops a.tmps) = true then Oper.wp Try.prog o a W Kc Q else E := by
  obtain ⟨v1, w1, hr, h2, h3, h4⟩ := wrow_run o.type y HO hb hbase hl
  rw [if_pos hw]
  unfold Oper.wp execOp
  simp only [ho, resolve, invoke, builtin, Sem.run_bind, Sem.run_pure, Result.andThen_ok, List.map_toArray, List.map_cons, List.map_nil, hs, hx, hr]
  exact h v1 w1 h2 h3 h4
end
theorem ChAt.putD {lo : Nat} {w : World} {c most : Nat} {Bf : List Int} {R0 R1 : List Wt} (h : ChAt lo w c most Bf R0 R1) {D : Nat} {ds : Option (List Deferred)} (hD : w.heap[D]? = some (.deferred ds)) (o : Obj) : ChAt lo (w.putObj D o) c most Bf R0 R1 := by
  obtain ⟨r, v0, v1, hO, hr, hR, hr0, hr1, hne⟩ := h.obj
  have o1 : Only (fun k => some D = some k) w (w.putObj D o) := Only.of_grown (grownBy_putObj' _ D o)
  have nc : ∀ {k : Nat} {cur : Array Value} {t : TypeId} {z : Nat × Nat}, w.heap[k]? = some (.cells cur t z) → ¬ some D = some k := fun hk q => by
    obtain rfl := Option.some.inj q
    rw [hD] at hk
    cases hk
  refine ⟨⟨r, v0, v1, hO.only o1 (nc hO), hr, hR.only o1 ?_, hr0.same fun g hg => ?_, hr1.same fun g hg => ?_, hne⟩, h.lo, h.few0, h.few1⟩
  · obtain ⟨_, _, q1, _⟩ := hR
    exact nc q1
  · obtain ⟨cur, hc⟩ := hr0.typed hg
    exact o1.block g (hr0.block hg).2 (nc hc)
  · obtain ⟨cur, hc⟩ := hr1.typed hg
    exact o1.block g (hr1.block hg).2 (nc hc)
theorem wait_fin0 {lo c most : Nat} {Bf : List Int} {R0 R1 : List Wt} {x : Wt} {X w1 W4 : World} {r e : Nat} {v0 v1 v' ev : Value} (hO : Blk X c 72 [.pointer (some ⟨r, 0, none⟩), .bool false, v0, v1]) (hr : lo ≤ r) (hR : RingAt X r most Bf) (h0 : WRow lo X v0 R0) (h1 : WRow lo X v1 R1)
    (hne : ∀ g, v0.ownBlock = some g → v1.ownBlock ≠ some g) (hc : lo ≤ c) (few0 : R0.length < 100000) (few1 : R1.length < 100000) (hE : Boxed X e 25 ev) (ho : WRow lo w1 v' (R0 ++ [x])) (hg : X.grownBy w1 v0.ownBlock) (hat : v'.ownBlock = v0.ownBlock ∨ ∃ k, v'.ownBlock = some k ∧ X.heap.size ≤ k)
    (he : W4 = (w1.setCell ⟨c, 2, none⟩ v').setCell ⟨e, 0, none⟩ (.int .i64 0)) : ChAt lo W4 c most Bf (R0 ++ [x]) R1 ∧ Only (fun k => k = c ∨ k = e ∨ v0.ownBlock = some k) X W4 ∧ W4.cell? ⟨e, 0, none⟩ = some (.int .i64 0) ∧ KeepG X W4 := by
  have o1 : Only (fun k => k = c ∨ k = e ∨ v0.ownBlock = some k) X w1 := (Only.of_grown hg).mono fun k _ h => .inr (.inr h)
  have o4 : Only (fun k => k = c ∨ k = e ∨ v0.ownBlock = some k) X W4 := by
    rw [he]
    exact (o1.trans (Only.setCell _ ⟨c, 2, none⟩ _ (.inl rfl))).trans (Only.setCell _ ⟨e, 0, none⟩ _ (.inr (.inl rfl)))
  have hce : c ≠ e := fun q => by
    rw [q] at hO
    have := hO.symm.trans hE
    simp at this
  have hcv : ∀ {v2 : Value} {L2 : List Wt}, WRow lo X v2 L2 → ∀ g, v2.ownBlock = some g → g ≠ c ∧ g ≠ e := fun hrow g hg => by
    obtain ⟨cur, hcur⟩ := hrow.typed hg
    refine ⟨fun q => ?_, fun q => ?_⟩
    · rw [q] at hcur
      have := hO.symm.trans hcur
      simp at this
    · rw [q] at hcur
      have := (show X.heap[e]? = _ from hE).symm.trans hcur
      simp at this
  have k0 : Blk w1 c 72 [.pointer (some ⟨r, 0, none⟩), .bool false, v0, v1] := hO.only (Only.of_grown hg) fun q => (hcv h0 c q).1 rfl
  have k1 : Blk W4 c 72 [.pointer (some ⟨r, 0, none⟩), .bool false, v', v1] := by
    rw [he]
    exact (k0.set 2 v').set_other ⟨e, 0, none⟩ _ hce
  have hRr : ¬ (r = c ∨ r = e ∨ v0.ownBlock = some r) := by
    obtain ⟨_, _, q1, _⟩ := hR
    rintro (q | q | q)
    · rw [q] at q1
      have := q1.symm.trans hO
      simp at this
    · rw [q] at q1
      have := q1.symm.trans hE
      simp at this
    · obtain ⟨cur, hcur⟩ := h0.typed q
      have := q1.symm.trans hcur
      simp at this
  have hoth : WRow lo W4 v1 R1 := h1.same fun g hg' => o4.block g (h1.block hg').2 (by
    rintro (q | q | q)
    · exact (hcv h1 g hg').1 q
    · exact (hcv h1 g hg').2 q
    · exact hne g q hg')
  have hlt1 : c < X.heap.size := hO.lt
  have hlt2 : e < X.heap.size := heap_lt hE
  have hnew : ∀ g, v'.ownBlock = some g → g ≠ c ∧ g ≠ e := fun g hg' => by
    rcases hat with q | ⟨k, q, hk⟩
    · exact hcv h0 g (q ▸ hg')
    · rw [q] at hg'
      obtain rfl := Option.some.inj hg'
      omega
  have hself : WRow lo W4 v' (R0 ++ [x]) := ho.same fun g hg' => by
    obtain ⟨q1, q2⟩ := hnew g hg'
    rw [he, Below.heap_setCell _ ⟨e, 0, none⟩ _ g q2, Below.heap_setCell _ ⟨c, 2, none⟩ _ g q1]
  have hE4 : Boxed W4 e 25 (.int .i64 0) := by
    rw [he]
    have e1 : Blk w1 e 25 [ev] := Blk.only (show Blk X e _ [ev] from hE) (Only.of_grown hg) fun q => (hcv h0 e q).2 rfl
    exact (e1.set_other ⟨c, 2, none⟩ _ hce.symm).set 0 _
  refine ⟨⟨⟨r, v', v1, k1, hr, hR.only o4 hRr, hself, hoth, ?_⟩, hc, by rw [List.length_append]; exact few0, Nat.le_of_lt few1⟩, o4, hE4.cell, fun q vs hq => hq.only o4 ?_⟩
  rotate_left
  · rintro (z | z | z)
    · rw [z] at hq; have := hO.symm.trans hq; simp at this
    · rw [z] at hq; have := (show X.heap[e]? = _ from hE).symm.trans hq; simp at this
    · obtain ⟨cur, hcur⟩ := h0.typed z
      have := hcur.symm.trans hq
      simp at this
  intro g q1 q2
  rcases hat with q | ⟨k, q, hk⟩
  · exact hne g (q ▸ q1) q2
  · rw [q] at q1
    obtain rfl := Option.some.inj q1
    have := (h1.block q2).2
    omega
theorem wait_fin1 {lo c most : Nat} {Bf : List Int} {R0 R1 : List Wt} {x : Wt} {X w1 W4 : World} {r e : Nat} {v0 v1 v' ev : Value} (hO : Blk X c 72 [.pointer (some ⟨r, 0, none⟩), .bool false, v0, v1]) (hr : lo ≤ r) (hR : RingAt X r most Bf) (h0 : WRow lo X v0 R0) (h1 : WRow lo X v1 R1)
    (hne : ∀ g, v0.ownBlock = some g → v1.ownBlock ≠ some g) (hc : lo ≤ c) (few0 : R0.length < 100000) (few1 : R1.length < 100000) (hE : Boxed X e 25 ev) (ho : WRow lo w1 v' (R1 ++ [x])) (hg : X.grownBy w1 v1.ownBlock) (hat : v'.ownBlock = v1.ownBlock ∨ ∃ k, v'.ownBlock = some k ∧ X.heap.size ≤ k)
    (he : W4 = (w1.setCell ⟨c, 3, none⟩ v').setCell ⟨e, 0, none⟩ (.int .i64 0)) : ChAt lo W4 c most Bf R0 (R1 ++ [x]) ∧ Only (fun k => k = c ∨ k = e ∨ v1.ownBlock = some k) X W4 ∧ W4.cell? ⟨e, 0, none⟩ = some (.int .i64 0) ∧ KeepG X W4 := by
  have o1 : Only (fun k => k = c ∨ k = e ∨ v1.ownBlock = some k) X w1 := (Only.of_grown hg).mono fun k _ h => .inr (.inr h)
  have o4 : Only (fun k => k = c ∨ k = e ∨ v1.ownBlock = some k) X W4 := by
    rw [he]
    exact (o1.trans (Only.setCell _ ⟨c, 3, none⟩ _ (.inl rfl))).trans (Only.setCell _ ⟨e, 0, none⟩ _ (.inr (.inl rfl)))
  have hce : c ≠ e := fun q => by
    rw [q] at hO
    have := hO.symm.trans hE
    simp at this
  have hcv : ∀ {v2 : Value} {L2 : List Wt}, WRow lo X v2 L2 → ∀ g, v2.ownBlock = some g → g ≠ c ∧ g ≠ e := fun hrow g hg => by
    obtain ⟨cur, hcur⟩ := hrow.typed hg
    refine ⟨fun q => ?_, fun q => ?_⟩
    · rw [q] at hcur
      have := hO.symm.trans hcur
      simp at this
    · rw [q] at hcur
      have := (show X.heap[e]? = _ from hE).symm.trans hcur
      simp at this
  have k0 : Blk w1 c 72 [.pointer (some ⟨r, 0, none⟩), .bool false, v0, v1] := hO.only (Only.of_grown hg) fun q => (hcv h1 c q).1 rfl
  have k1 : Blk W4 c 72 [.pointer (some ⟨r, 0, none⟩), .bool false, v0, v'] := by
    rw [he]
    exact (k0.set 3 v').set_other ⟨e, 0, none⟩ _ hce
  have hRr : ¬ (r = c ∨ r = e ∨ v1.ownBlock = some r) := by
    obtain ⟨_, _, q1, _⟩ := hR
    rintro (q | q | q)
    · rw [q] at q1
      have := q1.symm.trans hO
      simp at this
    · rw [q] at q1
      have := q1.symm.trans hE
      simp at this
    · obtain ⟨cur, hcur⟩ := h1.typed q
      have := q1.symm.trans hcur
      simp at this
  have hoth : WRow lo W4 v0 R0 := h0.same fun g hg' => o4.block g (h0.block hg').2 (by
    rintro (q | q | q)
    · exact (hcv h0 g hg').1 q
    · exact (hcv h0 g hg').2 q
    · exact hne g hg' q)
  have hlt1 : c < X.heap.size := hO.lt
  have hlt2 : e < X.heap.size := heap_lt hE
  have hnew : ∀ g, v'.ownBlock = some g → g ≠ c ∧ g ≠ e := fun g hg' => by
    rcases hat with q | ⟨k, q, hk⟩
    · exact hcv h1 g (q ▸ hg')
    · rw [q] at hg'
      obtain rfl := Option.some.inj hg'
      omega
  have hself : WRow lo W4 v' (R1 ++ [x]) := ho.same fun g hg' => by
    obtain ⟨q1, q2⟩ := hnew g hg'
    rw [he, Below.heap_setCell _ ⟨e, 0, none⟩ _ g q2, Below.heap_setCell _ ⟨c, 3, none⟩ _ g q1]
  have hE4 : Boxed W4 e 25 (.int .i64 0) := by
    rw [he]
    have e1 : Blk w1 e 25 [ev] := Blk.only (show Blk X e _ [ev] from hE) (Only.of_grown hg) fun q => (hcv h1 e q).2 rfl
    exact (e1.set_other ⟨c, 3, none⟩ _ hce.symm).set 0 _
  refine ⟨⟨⟨r, v0, v', k1, hr, hR.only o4 hRr, hoth, hself, ?_⟩, hc, Nat.le_of_lt few0, by rw [List.length_append]; exact few1⟩, o4, hE4.cell, fun q vs hq => hq.only o4 ?_⟩
  rotate_left
  · rintro (z | z | z)
    · rw [z] at hq; have := hO.symm.trans hq; simp at this
    · rw [z] at hq; have := (show X.heap[e]? = _ from hE).symm.trans hq; simp at this
    · obtain ⟨cur, hcur⟩ := h1.typed z
      have := hcur.symm.trans hq
      simp at this
  intro g q1 q2
  rcases hat with q | ⟨k, q, hk⟩
  · exact hne g q1 (q ▸ q2)
  · rw [q] at q2
    obtain rfl := Option.some.inj q2
    have := (h0.block q1).2
    omega
set_option maxHeartbeats 8000000 in
theorem wait_in0 {lo : Nat} {w : World} {c most : Nat} {Bf : List Int} {R0 R1 : List Wt} (x : Wt) (h : ChAt lo w c most Bf R0 R1) (hlo : lo ≤ w.heap.size) (hnew : ∀ y ∈ R0, y.task ≠ x.task) (few0 : R0.length < 100000) (few1 : R1.length < 100000) :
    CallsIn Fence.wide 5 Try.prog 16 #[.pointer (some ⟨c, 0, none⟩), .bool false, x.v] w fun e W' => e = .returned (.int .i64 0) ∧ ChAt lo W' c most Bf (R0 ++ [x]) R1 ∧ Below lo w W' ∧ KeepG w W' := by
  have hro : Fence.wide.round = none := rfl
  have h27 : Fence.wide.fn 27 := trivial
  have h36 : Fence.wide.fn 36 := trivial
  have hwd : Fence.wide.depth = none := rfl
  obtain ⟨A, cap, hSe⟩ := h.sees false
  rw [show (if false = true then R1 else R0) = R0 from rfl] at hSe
  have hfew := hSe.few
  simp only [Wt.v]
  refine callsIn_of_wp_marks Try.func16 rfl trivial ?_ hro
  simp only [Try.ntmps16, List.size_toArray, List.length_cons, List.length_nil, Nat.reduceAdd, Nat.reduceSub, Array.replicate_succ, Array.replicate_zero, List.push_toArray, List.append_toArray, List.nil_append, List.cons_append]
  gi_wp2_with (gi_at_call 27; refine (all_in Fence.wide _ h27 hro _ _ _).mono ?_; rintro e w' ⟨rfl, rfl⟩)
  have b3 := (((Blk.new w 48 [.int .i64 x.task, .int .i64 x.case, .int .i64 x.val]).alloc (.cells #[.int .i64 0] 25)).alloc (.cells #[.pointer (some ⟨c, 0, none⟩)] 42)).alloc (.cells #[.bool false] 4)
  have b4 := ((Boxed.new (w.alloc (.cells #[.int .i64 x.task, .int .i64 x.case, .int .i64 x.val] 48)) 25 (.int .i64 0)).alloc (.cells #[.pointer (some ⟨c, 0, none⟩)] 42)).alloc (.cells #[.bool false] 4)
  have bS := (Blk.new ((w.alloc (.cells #[.int .i64 x.task, .int .i64 x.case, .int .i64 x.val] 48)).alloc (.cells #[.int .i64 0] 25)) 42 [.pointer (some ⟨c, 0, none⟩)]).alloc (.cells #[.bool false] 4)
  have bL := Blk.new (((w.alloc (.cells #[.int .i64 x.task, .int .i64 x.case, .int .i64 x.val] 48)).alloc (.cells #[.int .i64 0] 25)).alloc (.cells #[.pointer (some ⟨c, 0, none⟩)] 42)) 4 [.bool false]
  simp only [World.size_alloc] at b4 bS bL
  obtain ⟨W0, hW0⟩ : ∃ W0, W0 = (((w.alloc (.cells #[.int .i64 x.task, .int .i64 x.case, .int .i64 x.val] 48)).alloc (.cells #[.int .i64 0] 25)).alloc (.cells #[.pointer (some ⟨c, 0, none⟩)] 42)).alloc (.cells #[.bool false] 4) := ⟨_, rfl⟩
  have hsz : W0.heap.size = w.heap.size + 1 + 1 + 1 + 1 := by rw [hW0]; simp only [World.size_alloc]
  have hB0 : Below w.heap.size w W0 := by
    rw [hW0]
    exact ((((Below.refl _ w).alloc (Nat.le_refl _) _).alloc (by simp) _).alloc (by simp; omega) _).alloc (by simp; omega) _
  rw [show ((((w.alloc (.cells #[.int .i64 x.task, .int .i64 x.case, .int .i64 x.val] 48)).alloc (.cells #[.int .i64 0] 25)).alloc (.cells #[.pointer (some ⟨c, 0, none⟩)] 42)).alloc (.cells #[.bool false] 4)) = W0 from hW0.symm] at b3 b4 bS bL ⊢
  have hS : Stays W0 w.heap.size (w.heap.size + 1 + 1) (w.heap.size + 1 + 1 + 1) c false A cap R0 := ⟨bS, bL, hSe.below hB0⟩
  clear hW0
  refine wpIn_rangeFunc_ownH hro (by decide) (gf := 36) (lb := #[.pointer (some ⟨w.heap.size + 1 + 1, 0, none⟩), .pointer (some ⟨w.heap.size + 1 + 1 + 1, 0, none⟩)]) rfl h36 (enters_of Try.func36 (by kernel_rfl) rfl)
    (all1_stopsS 4 w.heap.size (w.heap.size + 1 + 1) (w.heap.size + 1 + 1 + 1) c false A cap R0 W0 (by omega) hS) Kp_t (Kp_b (by omega)) (Below.refl _ _) (fun _ => rfl)
    (fun pre W => (Blk W w.heap.size 48 [.int .i64 x.task, .int .i64 x.case, .int .i64 x.val] ∧ Boxed W (w.heap.size + 1) 25 (.int .i64 0)) ∧ Below w.heap.size w W)
    (fun _ _ _ => False)
    (OwnFrom.and (OwnFrom.and (Own.from (blk_own _ _ (fun _ => _)) _) (Own.from (boxed_own _ _ (fun _ => _)) _)) (ownFrom_below (Nat.le_refl _) (by omega)))
    (fun _ _ _ _ _ hs _ _ => hs)
    ⟨⟨b3, b4⟩, hB0⟩
    (fun y a' W => ∃ Bx, w.heap.size + 1 < Bx ∧ Blk W Bx 48 [.int .i64 y.1.task, .int .i64 y.1.case, .int .i64 y.1.val] ∧ a' = { tmps := #[.pointer (some ⟨c, 0, none⟩), .bool false, .agg #[.int .i64 x.task, .int .i64 x.case, .int .i64 x.val], undef, undef, .pointer (some ⟨w.heap.size, 0, none⟩), .pointer (some ⟨w.heap.size + 1, 0, none⟩), .pointer (some ⟨Bx, 0, none⟩), undef, .pointer (some ⟨c, 0, none⟩), .bool false, .pointer (some ⟨c, 0, none⟩), .bool false, .func (.func 36) #[] #[.pointer (some ⟨w.heap.size + 1 + 1, 0, none⟩), .pointer (some ⟨w.heap.size + 1 + 1 + 1, 0, none⟩)], .agg #[.int .i64 y.1.task, .int .i64 y.1.case, .int .i64 y.1.val], undef, undef, undef, undef, undef, undef, undef, undef, undef, undef, undef, undef, undef, undef, undef, undef, undef, undef, undef, undef, undef, undef, undef, undef, undef, undef, undef, undef], defers := [] })
    (fun y a' _ X Y row hs hg hr => by obtain ⟨Bx, h1, h2, h3⟩ := hs; exact ⟨Bx, h1, blk_own Bx _ (fun (_ : Unit) => _) () X Y row h2 hg (fun r e => (hr r e).2), h3⟩)
    ?assign ?body ?done ?stop
  case assign =>
    rintro l pre ⟨y, hy⟩ W K ⟨⟨b1, b2⟩, hB1⟩ hK
    simp only [Wt.v]
    gi_wp2
    exact hK _ _ ((KeepsOthers.alloc _ _).from _) ⟨(Below.refl _ W).alloc hB1.size _, Kt.alloc _ _ _⟩ ⟨⟨b1.alloc _, b2.alloc _⟩, hB1.alloc hB1.size _⟩ ⟨W.heap.size, b2.lt, Blk.new W _ _, rfl⟩
  case body =>
    rintro l pre ⟨y, hy⟩ a' W hlw ⟨r, hr⟩ ⟨⟨b1, b2⟩, hB1⟩ ⟨Bx, hBx, bX, rfl⟩ hlt
    have x0 : W.cell? ⟨Bx, 0, none⟩ = some (.int .i64 y.task) := bX.cell 0
    have x1 : W.cell? ⟨Bx, 1, none⟩ = some (.int .i64 y.case) := bX.cell 1
    have z0 : W.cell? ⟨w.heap.size, 0, none⟩ = some (.int .i64 x.task) := b1.cell 0
    have z1 : W.cell? ⟨w.heap.size, 1, none⟩ = some (.int .i64 x.case) := b1.cell 1
    have hne := hnew y hy
    have hneb : (y.task == x.task) = false := by rw [beq_eq_false_iff_ne]; exact hne
    gi_wp2
    exact ⟨KeepsFrom.refl _ _, ⟨Below.refl _ _, Kt.refl _ _⟩, ⟨b1, b2⟩, hB1⟩
  case done =>
    rintro D ys W hD - ⟨⟨b1, b2⟩, hB⟩ hK
    have hofv : ∀ W, Calls Try.prog 28 #[.bool false] W fun e w' => e = .returned (.int .i64 0) ∧ w' = W := of_at false
    have hch := h.below hB
    obtain ⟨r, v0, v1, hO, hr, hR, hr0, hr1, hne⟩ := hch.obj
    obtain ⟨A0, cp0, rfl, _⟩ := hr0.form
    obtain ⟨A1, cp1, rfl, _⟩ := hr1.form
    have g2 : W.cell? ⟨c, 2, none⟩ = some (.slice A0 R0.length cp0) := hO.cell 2
    have gz := hO.frozen
    have hbb : ∀ (n : Nat), Below W.heap.size W (W.drewN n) := fun n => bl_drewN (Below.refl _ W)
    have qOf : ∀ n, Calls Try.prog 28 #[.bool false] (W.drewN n) fun e w' => e = .returned (.int .i64 0) ∧ ∃ m, w' = W.drewN m := fun n => (of_at false _).mono fun e w' ⟨a, b⟩ => ⟨a, n, b⟩
    have few' : R0.length ≤ 100000 := by omega
    have hloW : lo ≤ W.heap.size := Nat.le_trans hlo hB.size
    gi_wp2
    refine wpIn_wide.2 ?_
    go_quiet (exact qOf _)
    clear qOf hofv
    have hO2 : Blk (W.drewN nq) c 72 [.pointer (some ⟨r, 0, none⟩), .bool false, .slice A0 R0.length cp0, .slice A1 R1.length cp1] := hO.same ((hbb nq).block _ hO.lt)
    have hR2 : RingAt (W.drewN nq) r most Bf := hR.same ((hbb nq).block _ hR.lt)
    have h02 : WRow lo (W.drewN nq) (.slice A0 R0.length cp0) R0 := hr0.below (hbb nq)
    have h12 : WRow lo (W.drewN nq) (.slice A1 R1.length cp1) R1 := hr1.below (hbb nq)
    have b12 : Blk (W.drewN nq) w.heap.size 48 [.int .i64 x.task, .int .i64 x.case, .int .i64 x.val] := b1
    have b22 : Boxed (W.drewN nq) (w.heap.size + 1) 25 (.int .i64 0) := b2
    have hB2 : Below w.heap.size w (W.drewN nq) := bl_drewN hB
    have hK2 : (W.drewN nq).heap[D]? = some (.deferred (some [])) := hK
    have hlo2 : lo ≤ (W.drewN nq).heap.size := hloW
    clear hbb hO hR hr0 hr1 b1 b2 hB hK hloW g2 gz hch
    generalize W.drewN nq = X at *
    clear hnew hSe hS b3 b4 bS bL
    obtain ⟨Y, hY⟩ : ∃ Y, Y = X.drew.alloc (.cells #[.int .i64 x.task, .int .i64 x.case, .int .i64 x.val] 48) := ⟨_, rfl⟩
    have hXY : Below X.heap.size X Y := by rw [hY]; exact (bl_drewN (n := 1) (Below.refl _ X)).alloc (Nat.le_refl _) _
    have hN : Blk Y X.heap.size 48 x.cells := by rw [hY]; exact Blk.new X.drew 48 x.cells
    have hOY := hO2.same (hXY.block _ hO2.lt)
    have hRY := hR2.same (hXY.block _ hR2.lt)
    have h0Y := h02.below hXY
    have h1Y := h12.below hXY
    have bY : Boxed Y (w.heap.size + 1) 25 (.int .i64 0) := Blk.same (show Blk X (w.heap.size + 1) _ [.int .i64 0] from b22) (hXY.block _ (heap_lt b22))
    have hKY : Y.heap[D]? = some (.deferred (some [])) := by rw [hXY.block _ (heap_lt hK2)]; exact hK2
    have hBY : Below lo w Y := (hB2.trans (hXY.mono hB2.size)).mono hlo
    have hloY : lo ≤ Y.heap.size := Nat.le_trans hlo2 hXY.size
    have fin := fun v' w1 W4 ho hg hat he => wait_fin0 (x := x) (v' := v') (w1 := w1) (W4 := W4) hOY hr hRY h0Y h1Y hne h.lo few0 few1 bY ho hg hat he
    have hcA : ∀ g, (Value.slice A0 R0.length cp0).ownBlock = some g → g ≠ c ∧ g ≠ w.heap.size + 1 := fun g hg => by
      obtain ⟨cur, hcur⟩ := h0Y.typed hg
      refine ⟨fun q => ?_, fun q => ?_⟩
      · rw [q] at hcur
        have := hOY.symm.trans hcur
        simp at this
      · rw [q] at hcur
        have := (show Y.heap[w.heap.size + 1]? = _ from bY).symm.trans hcur
        simp at this
    have stp : ∀ w1, Y.grownBy w1 (Value.slice A0 R0.length cp0).ownBlock → (w1.cell? ⟨c, 2, none⟩ = some (.slice A0 R0.length cp0) ∧ (∀ o, w1.frozen? ⟨c, o, none⟩ = false)) ∧ w1.cell? ⟨w.heap.size + 1, 0, none⟩ = some (.int .i64 0) ∧ (∀ o, w1.frozen? ⟨w.heap.size + 1, o, none⟩ = false) := fun w1 hg => by
      have k1 := hOY.only (Only.of_grown hg) (fun q => (hcA c q).1 rfl)
      have k2 := Blk.only (show Blk Y (w.heap.size + 1) 25 [.int .i64 0] from bY) (Only.of_grown hg) (fun q => (hcA _ q).2 rfl)
      exact ⟨⟨k1.cell 2, fun o => k1.frozen o⟩, k2.cell 0, fun o => k2.frozen o⟩
    have z0 : X.cell? ⟨w.heap.size, 0, none⟩ = some (.int .i64 x.task) := b12.cell 0
    have z1 : X.cell? ⟨w.heap.size, 1, none⟩ = some (.int .i64 x.case) := b12.cell 1
    have z2 : X.cell? ⟨w.heap.size, 2, none⟩ = some (.int .i64 x.val) := b12.cell 2
    have g2 : X.cell? ⟨c, 2, none⟩ = some (.slice A0 R0.length cp0) := hO2.cell 2
    have g2Y : Y.cell? ⟨c, 2, none⟩ = some (.slice A0 R0.length cp0) := hOY.cell 2
    have hXs : X.drew.heap.size = X.heap.size := rfl
    have hY' : X.drew.alloc (.cells #[.int .i64 x.task, .int .i64 x.case, .int .i64 x.val] 48) = Y := hY.symm
    have finH := hid fin
    have stpH := hid stp
    have hKYH := hid hKY
    have hBYH := hid hBY
    have kkH := hid (KeepG.below (hB2.trans (hXY.mono hB2.size)))
    have hfacts : c < Y.heap.size ∧ w.heap.size + 1 < Y.heap.size ∧ c ≠ w.heap.size + 1 ∧ lo ≤ c := ⟨hOY.lt, heap_lt bY, fun q => by have h1 := hOY; rw [q] at h1; have := h1.symm.trans bY; simp at this, h.lo⟩
    have hfH := hid hfacts
    have hDn : ∀ W4, Only (fun k => k = c ∨ k = w.heap.size + 1 ∨ (Value.slice A0 R0.length cp0).ownBlock = some k) Y W4 → W4.heap[D]? = some (.deferred (some [])) := fun W4 o4 => (o4.block D (heap_lt hKY) (by
      rintro (q | q | q)
      · rw [q] at hKY
        have := hOY.symm.trans hKY
        simp at this
      · rw [q] at hKY
        have := (show Y.heap[w.heap.size + 1]? = _ from bY).symm.trans hKY
        simp at this
      · obtain ⟨cur, hcur⟩ := h0Y.typed q
        have := hcur.symm.trans hKY
        simp at this)).trans hKY
    have hDnH := hid hDn
    have hlt0 := hid (fun g hg => (h0Y.block (g := g) hg).1)
    clear hDn hO2 hR2 h02 h12 b12 b22 hB2 hK2 hOY hRY h1Y bY hKY hBY fin stp hcA hY hfacts h hXY
    go_wp2_with (fail)
    refine wpIn_wide.2 ?_
    go_wp2_with (fail)
    refine wp_normal ?_
    go_region_law (refine wrow_step (lo := lo) (by simp [Region.wanted]) (.tmp 37) (.tmp 39) (by rfl) x (by rfl) (by rfl) h0Y hN hloY few' ?_; intro v' w1 ho hg hat; obtain ⟨A2, c2, rfl, _⟩ := ho.form; obtain ⟨⟨y0, y1⟩, y2, y3⟩ := stpH.out w1 hg)
    all_goals
      have hce := hfH.out.2.2.1
      obtain ⟨f1, f2, f3, f5⟩ := finH.out _ w1 ((w1.setCell ⟨c, 2, none⟩ (.slice A2 (R0.length + 1) c2)).setCell ⟨w.heap.size + 1, 0, none⟩ (.int .i64 0)) ho hg hat (by rw [List.length_append]; rfl)
      have f4 := hDnH.out _ f2
      show Exit.then _ _ Exit.normal _ _
      clear finH stpH hDnH
      go_wp2_with (fail)
      refine ⟨by simp, .inl ⟨_, _, rfl, run_takeDeferred f4, ?_⟩⟩
      have hc5 := cell_kept f3 (grownBy_putObj' _ D (.deferred none)) (fun r e => by cases e; exact ⟨_, f4, rfl⟩)
      refine ⟨.int .i64 0, by simp [results, Try.f16, go_sem, hc5], rfl, f1.putD f4 _, ?_, fun q vs hq => (f5 q vs (kkH.out q vs hq)).only (Only.of_grown (grownBy_putObj' _ D (.deferred none))) fun z => ?_⟩
      rotate_left
      · obtain rfl := Option.some.inj z
        have := (f5 _ vs (kkH.out _ vs hq)).symm.trans f4
        simp at this
      have hb4 : Below lo w _ := f2.below hBYH.out hloY (by
        rintro k _ (q | q | q)
        · rw [q]; exact hfH.out.2.2.2
        · rw [q]; omega
        · exact hlt0.out _ q)
      exact (Only.of_grown (grownBy_putObj' _ D (.deferred none))).below hb4 (Nat.le_trans hloY f2.size) (fun k _ q => by obtain rfl := Option.some.inj q; omega)
  case stop =>
    rintro D c pre W _ _ h _
    exact h.elim
set_option maxHeartbeats 8000000 in
theorem wait_in1 {lo : Nat} {w : World} {c most : Nat} {Bf : List Int} {R0 R1 : List Wt} (x : Wt) (h : ChAt lo w c most Bf R0 R1) (hlo : lo ≤ w.heap.size) (hnew : ∀ y ∈ R1, y.task ≠ x.task) (few0 : R0.length < 100000) (few1 : R1.length < 100000) :
    CallsIn Fence.wide 5 Try.prog 16 #[.pointer (some ⟨c, 0, none⟩), .bool true, x.v] w fun e W' => e = .returned (.int .i64 0) ∧ ChAt lo W' c most Bf R0 (R1 ++ [x]) ∧ Below lo w W' ∧ KeepG w W' := by
  have hro : Fence.wide.round = none := rfl
  have h27 : Fence.wide.fn 27 := trivial
  have h36 : Fence.wide.fn 36 := trivial
  have hwd : Fence.wide.depth = none := rfl
  obtain ⟨A, cap, hSe⟩ := h.sees true
  rw [show (if true = true then R1 else R0) = R1 from rfl] at hSe
  have hfew := hSe.few
  simp only [Wt.v]
  refine callsIn_of_wp_marks Try.func16 rfl trivial ?_ hro
  simp only [Try.ntmps16, List.size_toArray, List.length_cons, List.length_nil, Nat.reduceAdd, Nat.reduceSub, Array.replicate_succ, Array.replicate_zero, List.push_toArray, List.append_toArray, List.nil_append, List.cons_append]
  gi_wp2_with (gi_at_call 27; refine (all_in Fence.wide _ h27 hro _ _ _).mono ?_; rintro e w' ⟨rfl, rfl⟩)
  have b3 := (((Blk.new w 48 [.int .i64 x.task, .int .i64 x.case, .int .i64 x.val]).alloc (.cells #[.int .i64 0] 25)).alloc (.cells #[.pointer (some ⟨c, 0, none⟩)] 42)).alloc (.cells #[.bool true] 4)
  have b4 := ((Boxed.new (w.alloc (.cells #[.int .i64 x.task, .int .i64 x.case, .int .i64 x.val] 48)) 25 (.int .i64 0)).alloc (.cells #[.pointer (some ⟨c, 0, none⟩)] 42)).alloc (.cells #[.bool true] 4)
  have bS := (Blk.new ((w.alloc (.cells #[.int .i64 x.task, .int .i64 x.case, .int .i64 x.val] 48)).alloc (.cells #[.int .i64 0] 25)) 42 [.pointer (some ⟨c, 0, none⟩)]).alloc (.cells #[.bool true] 4)
  have bL := Blk.new (((w.alloc (.cells #[.int .i64 x.task, .int .i64 x.case, .int .i64 x.val] 48)).alloc (.cells #[.int .i64 0] 25)).alloc (.cells #[.pointer (some ⟨c, 0, none⟩)] 42)) 4 [.bool true]
  simp only [World.size_alloc] at b4 bS bL
  obtain ⟨W0, hW0⟩ : ∃ W0, W0 = (((w.alloc (.cells #[.int .i64 x.task, .int .i64 x.case, .int .i64 x.val] 48)).alloc (.cells #[.int .i64 0] 25)).alloc (.cells #[.pointer (some ⟨c, 0, none⟩)] 42)).alloc (.cells #[.bool true] 4) := ⟨_, rfl⟩
  have hsz : W0.heap.size = w.heap.size + 1 + 1 + 1 + 1 := by rw [hW0]; simp only [World.size_alloc]
  have hB0 : Below w.heap.size w W0 := by
    rw [hW0]
    exact ((((Below.refl _ w).alloc (Nat.le_refl _) _).alloc (by simp) _).alloc (by simp; omega) _).alloc (by simp; omega) _
  rw [show ((((w.alloc (.cells #[.int .i64 x.task, .int .i64 x.case, .int .i64 x.val] 48)).alloc (.cells #[.int .i64 0] 25)).alloc (.cells #[.pointer (some ⟨c, 0, none⟩)] 42)).alloc (.cells #[.bool true] 4)) = W0 from hW0.symm] at b3 b4 bS bL ⊢
  have hS : Stays W0 w.heap.size (w.heap.size + 1 + 1) (w.heap.size + 1 + 1 + 1) c true A cap R1 := ⟨bS, bL, hSe.below hB0⟩
  clear hW0
  refine wpIn_rangeFunc_ownH hro (by decide) (gf := 36) (lb := #[.pointer (some ⟨w.heap.size + 1 + 1, 0, none⟩), .pointer (some ⟨w.heap.size + 1 + 1 + 1, 0, none⟩)]) rfl h36 (enters_of Try.func36 (by kernel_rfl) rfl)
    (all1_stopsS 4 w.heap.size (w.heap.size + 1 + 1) (w.heap.size + 1 + 1 + 1) c true A cap R1 W0 (by omega) hS) Kp_t (Kp_b (by omega)) (Below.refl _ _) (fun _ => rfl)
    (fun pre W => (Blk W w.heap.size 48 [.int .i64 x.task, .int .i64 x.case, .int .i64 x.val] ∧ Boxed W (w.heap.size + 1) 25 (.int .i64 0)) ∧ Below w.heap.size w W)
    (fun _ _ _ => False)
    (OwnFrom.and (OwnFrom.and (Own.from (blk_own _ _ (fun _ => _)) _) (Own.from (boxed_own _ _ (fun _ => _)) _)) (ownFrom_below (Nat.le_refl _) (by omega)))
    (fun _ _ _ _ _ hs _ _ => hs)
    ⟨⟨b3, b4⟩, hB0⟩
    (fun y a' W => ∃ Bx, w.heap.size + 1 < Bx ∧ Blk W Bx 48 [.int .i64 y.1.task, .int .i64 y.1.case, .int .i64 y.1.val] ∧ a' = { tmps := #[.pointer (some ⟨c, 0, none⟩), .bool true, .agg #[.int .i64 x.task, .int .i64 x.case, .int .i64 x.val], undef, undef, .pointer (some ⟨w.heap.size, 0, none⟩), .pointer (some ⟨w.heap.size + 1, 0, none⟩), .pointer (some ⟨Bx, 0, none⟩), undef, .pointer (some ⟨c, 0, none⟩), .bool false, .pointer (some ⟨c, 0, none⟩), .bool true, .func (.func 36) #[] #[.pointer (some ⟨w.heap.size + 1 + 1, 0, none⟩), .pointer (some ⟨w.heap.size + 1 + 1 + 1, 0, none⟩)], .agg #[.int .i64 y.1.task, .int .i64 y.1.case, .int .i64 y.1.val], undef, undef, undef, undef, undef, undef, undef, undef, undef, undef, undef, undef, undef, undef, undef, undef, undef, undef, undef, undef, undef, undef, undef, undef, undef, undef, undef, undef], defers := [] })
    (fun y a' _ X Y row hs hg hr => by obtain ⟨Bx, h1, h2, h3⟩ := hs; exact ⟨Bx, h1, blk_own Bx _ (fun (_ : Unit) => _) () X Y row h2 hg (fun r e => (hr r e).2), h3⟩)
    ?assign ?body ?done ?stop
  case assign =>
    rintro l pre ⟨y, hy⟩ W K ⟨⟨b1, b2⟩, hB1⟩ hK
    simp only [Wt.v]
    gi_wp2
    exact hK _ _ ((KeepsOthers.alloc _ _).from _) ⟨(Below.refl _ W).alloc hB1.size _, Kt.alloc _ _ _⟩ ⟨⟨b1.alloc _, b2.alloc _⟩, hB1.alloc hB1.size _⟩ ⟨W.heap.size, b2.lt, Blk.new W _ _, rfl⟩
  case body =>
    rintro l pre ⟨y, hy⟩ a' W hlw ⟨r, hr⟩ ⟨⟨b1, b2⟩, hB1⟩ ⟨Bx, hBx, bX, rfl⟩ hlt
    have x0 : W.cell? ⟨Bx, 0, none⟩ = some (.int .i64 y.task) := bX.cell 0
    have x1 : W.cell? ⟨Bx, 1, none⟩ = some (.int .i64 y.case) := bX.cell 1
    have z0 : W.cell? ⟨w.heap.size, 0, none⟩ = some (.int .i64 x.task) := b1.cell 0
    have z1 : W.cell? ⟨w.heap.size, 1, none⟩ = some (.int .i64 x.case) := b1.cell 1
    have hne := hnew y hy
    have hneb : (y.task == x.task) = false := by rw [beq_eq_false_iff_ne]; exact hne
    gi_wp2
    exact ⟨KeepsFrom.refl _ _, ⟨Below.refl _ _, Kt.refl _ _⟩, ⟨b1, b2⟩, hB1⟩
  case done =>
    rintro D ys W hD - ⟨⟨b1, b2⟩, hB⟩ hK
    have hofv : ∀ W, Calls Try.prog 28 #[.bool true] W fun e w' => e = .returned (.int .i64 1) ∧ w' = W := of_at true
    have hch := h.below hB
    obtain ⟨r, v0, v1, hO, hr, hR, hr0, hr1, hne⟩ := hch.obj
    obtain ⟨A0, cp0, rfl, _⟩ := hr0.form
    obtain ⟨A1, cp1, rfl, _⟩ := hr1.form
    have g2 : W.cell? ⟨c, 3, none⟩ = some (.slice A1 R1.length cp1) := hO.cell 3
    have gz := hO.frozen
    have hbb : ∀ (n : Nat), Below W.heap.size W (W.drewN n) := fun n => bl_drewN (Below.refl _ W)
    have qOf : ∀ n, Calls Try.prog 28 #[.bool true] (W.drewN n) fun e w' => e = .returned (.int .i64 1) ∧ ∃ m, w' = W.drewN m := fun n => (of_at true _).mono fun e w' ⟨a, b⟩ => ⟨a, n, b⟩
    have few' : R1.length ≤ 100000 := by omega
    have hloW : lo ≤ W.heap.size := Nat.le_trans hlo hB.size
    gi_wp2
    refine wpIn_wide.2 ?_
    go_quiet (exact qOf _)
    clear qOf hofv
    have hO2 : Blk (W.drewN nq) c 72 [.pointer (some ⟨r, 0, none⟩), .bool false, .slice A0 R0.length cp0, .slice A1 R1.length cp1] := hO.same ((hbb nq).block _ hO.lt)
    have hR2 : RingAt (W.drewN nq) r most Bf := hR.same ((hbb nq).block _ hR.lt)
    have h02 : WRow lo (W.drewN nq) (.slice A0 R0.length cp0) R0 := hr0.below (hbb nq)
    have h12 : WRow lo (W.drewN nq) (.slice A1 R1.length cp1) R1 := hr1.below (hbb nq)
    have b12 : Blk (W.drewN nq) w.heap.size 48 [.int .i64 x.task, .int .i64 x.case, .int .i64 x.val] := b1
    have b22 : Boxed (W.drewN nq) (w.heap.size + 1) 25 (.int .i64 0) := b2
    have hB2 : Below w.heap.size w (W.drewN nq) := bl_drewN hB
    have hK2 : (W.drewN nq).heap[D]? = some (.deferred (some [])) := hK
    have hlo2 : lo ≤ (W.drewN nq).heap.size := hloW
    clear hbb hO hR hr0 hr1 b1 b2 hB hK hloW g2 gz hch
    generalize W.drewN nq = X at *
    clear hnew hSe hS b3 b4 bS bL
    obtain ⟨Y, hY⟩ : ∃ Y, Y = X.drew.alloc (.cells #[.int .i64 x.task, .int .i64 x.case, .int .i64 x.val] 48) := ⟨_, rfl⟩
    have hXY : Below X.heap.size X Y := by rw [hY]; exact (bl_drewN (n := 1) (Below.refl _ X)).alloc (Nat.le_refl _) _
    have hN : Blk Y X.heap.size 48 x.cells := by rw [hY]; exact Blk.new X.drew 48 x.cells
    have hOY := hO2.same (hXY.block _ hO2.lt)
    have hRY := hR2.same (hXY.block _ hR2.lt)
    have h0Y := h02.below hXY
    have h1Y := h12.below hXY
    have bY : Boxed Y (w.heap.size + 1) 25 (.int .i64 0) := Blk.same (show Blk X (w.heap.size + 1) _ [.int .i64 0] from b22) (hXY.block _ (heap_lt b22))
    have hKY : Y.heap[D]? = some (.deferred (some [])) := by rw [hXY.block _ (heap_lt hK2)]; exact hK2
    have hBY : Below lo w Y := (hB2.trans (hXY.mono hB2.size)).mono hlo
    have hloY : lo ≤ Y.heap.size := Nat.le_trans hlo2 hXY.size
    have fin := fun v' w1 W4 ho hg hat he => wait_fin1 (x := x) (v' := v') (w1 := w1) (W4 := W4) hOY hr hRY h0Y h1Y hne h.lo few0 few1 bY ho hg hat he
    have hcA : ∀ g, (Value.slice A1 R1.length cp1).ownBlock = some g → g ≠ c ∧ g ≠ w.heap.size + 1 := fun g hg => by
      obtain ⟨cur, hcur⟩ := h1Y.typed hg
      refine ⟨fun q => ?_, fun q => ?_⟩
      · rw [q] at hcur
        have := hOY.symm.trans hcur
        simp at this
      · rw [q] at hcur
        have := (show Y.heap[w.heap.size + 1]? = _ from bY).symm.trans hcur
        simp at this
    have stp : ∀ w1, Y.grownBy w1 (Value.slice A1 R1.length cp1).ownBlock → (w1.cell? ⟨c, 3, none⟩ = some (.slice A1 R1.length cp1) ∧ (∀ o, w1.frozen? ⟨c, o, none⟩ = false)) ∧ w1.cell? ⟨w.heap.size + 1, 0, none⟩ = some (.int .i64 0) ∧ (∀ o, w1.frozen? ⟨w.heap.size + 1, o, none⟩ = false) := fun w1 hg => by
      have k1 := hOY.only (Only.of_grown hg) (fun q => (hcA c q).1 rfl)
      have k2 := Blk.only (show Blk Y (w.heap.size + 1) 25 [.int .i64 0] from bY) (Only.of_grown hg) (fun q => (hcA _ q).2 rfl)
      exact ⟨⟨k1.cell 3, fun o => k1.frozen o⟩, k2.cell 0, fun o => k2.frozen o⟩
    have z0 : X.cell? ⟨w.heap.size, 0, none⟩ = some (.int .i64 x.task) := b12.cell 0
    have z1 : X.cell? ⟨w.heap.size, 1, none⟩ = some (.int .i64 x.case) := b12.cell 1
    have z2 : X.cell? ⟨w.heap.size, 2, none⟩ = some (.int .i64 x.val) := b12.cell 2
    have g2 : X.cell? ⟨c, 3, none⟩ = some (.slice A1 R1.length cp1) := hO2.cell 3
    have g2Y : Y.cell? ⟨c, 3, none⟩ = some (.slice A1 R1.length cp1) := hOY.cell 3
    have hXs : X.drew.heap.size = X.heap.size := rfl
    have hY' : X.drew.alloc (.cells #[.int .i64 x.task, .int .i64 x.case, .int .i64 x.val] 48) = Y := hY.symm
    have finH := hid fin
    have stpH := hid stp
    have hKYH := hid hKY
    have hBYH := hid hBY
    have kkH := hid (KeepG.below (hB2.trans (hXY.mono hB2.size)))
    have hfacts : c < Y.heap.size ∧ w.heap.size + 1 < Y.heap.size ∧ c ≠ w.heap.size + 1 ∧ lo ≤ c := ⟨hOY.lt, heap_lt bY, fun q => by have h1 := hOY; rw [q] at h1; have := h1.symm.trans bY; simp at this, h.lo⟩
    have hfH := hid hfacts
    have hDn : ∀ W4, Only (fun k => k = c ∨ k = w.heap.size + 1 ∨ (Value.slice A1 R1.length cp1).ownBlock = some k) Y W4 → W4.heap[D]? = some (.deferred (some [])) := fun W4 o4 => (o4.block D (heap_lt hKY) (by
      rintro (q | q | q)
      · rw [q] at hKY
        have := hOY.symm.trans hKY
        simp at this
      · rw [q] at hKY
        have := (show Y.heap[w.heap.size + 1]? = _ from bY).symm.trans hKY
        simp at this
      · obtain ⟨cur, hcur⟩ := h1Y.typed q
        have := hcur.symm.trans hKY
        simp at this)).trans hKY
    have hDnH := hid hDn
    have hlt1 := hid (fun g hg => (h1Y.block (g := g) hg).1)
    clear hDn hO2 hR2 h02 h12 b12 b22 hB2 hK2 hOY hRY h0Y bY hKY hBY fin stp hcA hY hfacts h hXY
    go_wp2_with (fail)
    refine wpIn_wide.2 ?_
    go_wp2_with (fail)
    refine wp_normal ?_
    go_region_law (refine wrow_step (lo := lo) (by simp [Region.wanted]) (.tmp 37) (.tmp 39) (by rfl) x (by rfl) (by rfl) h1Y hN hloY few' ?_; intro v' w1 ho hg hat; obtain ⟨A2, c2, rfl, _⟩ := ho.form; obtain ⟨⟨y0, y1⟩, y2, y3⟩ := stpH.out w1 hg)
    all_goals
      have hce := hfH.out.2.2.1
      obtain ⟨f1, f2, f3, f5⟩ := finH.out _ w1 ((w1.setCell ⟨c, 3, none⟩ (.slice A2 (R1.length + 1) c2)).setCell ⟨w.heap.size + 1, 0, none⟩ (.int .i64 0)) ho hg hat (by rw [List.length_append]; rfl)
      have f4 := hDnH.out _ f2
      show Exit.then _ _ Exit.normal _ _
      clear finH stpH hDnH
      go_wp2_with (fail)
      refine ⟨by simp, .inl ⟨_, _, rfl, run_takeDeferred f4, ?_⟩⟩
      have hc5 := cell_kept f3 (grownBy_putObj' _ D (.deferred none)) (fun r e => by cases e; exact ⟨_, f4, rfl⟩)
      refine ⟨.int .i64 0, by simp [results, Try.f16, go_sem, hc5], rfl, f1.putD f4 _, ?_, fun q vs hq => (f5 q vs (kkH.out q vs hq)).only (Only.of_grown (grownBy_putObj' _ D (.deferred none))) fun z => ?_⟩
      rotate_left
      · obtain rfl := Option.some.inj z
        have := (f5 _ vs (kkH.out _ vs hq)).symm.trans f4
        simp at this
      have hb4 : Below lo w _ := f2.below hBYH.out hloY (by
        rintro k _ (q | q | q)
        · rw [q]; exact hfH.out.2.2.2
        · rw [q]; omega
        · exact hlt1.out _ q)
      exact (Only.of_grown (grownBy_putObj' _ D (.deferred none))).below hb4 (Nat.le_trans hloY f2.size) (fun k _ q => by obtain rfl := Option.some.inj q; omega)
  case stop =>
    rintro D c pre W _ _ h _
    exact h.elim
theorem wait_at {lo : Nat} {w : World} {c most : Nat} {Bf : List Int} {R0 R1 : List Wt} (b : Bool) (x : Wt) (h : ChAt lo w c most Bf R0 R1) (hlo : lo ≤ w.heap.size) (hnew : ∀ y ∈ (if b then R1 else R0), y.task ≠ x.task) (few0 : R0.length < 100000) (few1 : R1.length < 100000) :
    Calls Try.prog 16 #[.pointer (some ⟨c, 0, none⟩), .bool b, x.v] w fun e W' => e = .returned (.int .i64 0) ∧ ChAt lo W' c most Bf (if b then R0 else R0 ++ [x]) (if b then R1 ++ [x] else R1) ∧ Below lo w W' ∧ KeepG w W' := by
  cases b with
  | true => exact callsIn_wide.1 (wait_in1 x h hlo hnew few0 few1)
  | false => exact callsIn_wide.1 (wait_in0 x h hlo hnew few0 few1)
end Go.Proofs.Ytabcodjalacdjaa.MchanCode
