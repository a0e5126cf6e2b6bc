
/- locks.Ready. -/
import Derived.Test.YtabcodjalacdjadLocksEach
namespace Go.Proofs.Ytabcodjalacdjad.LocksCode
open Go Go.RowKit Go.Shelf Go.Proofs.Ytabcodjalacdjad.Obj Go.Proofs.Ytabcodjalacdjad.Iter Go.Proofs.YtabcodjalacdjadW.PrintWords Go.Proofs.YtabcodjalacdjadW.PrintLast Go.Proofs.YtabcodjalacdjadW.PrintMore
attribute [local go_sem] Oper.semAt_some
set_option linter.unusedVariables false
set_option linter.unusedSimpArgs false
set_option maxRecDepth 100000
theorem blk_own {β : Type} (B : Nat) (t : TypeId) (f : β → List Value) : Own (fun s W => Blk W B t (f s)) := fun s X Y row hs hg hrow =>
  hs.same (hg.block B hs.lt (fun e' => by obtain ⟨o, ho, hc⟩ := hrow B e'.symm; rw [show X.heap[B]? = _ from hs] at ho; cases ho; cases hc))
/-- Is a case ready? -/
def rdy (send recv : Nat) (c : Cs) : Bool := c.ch != -1 && hasI (if c.send then send else recv) c.ch
def readyL (send recv : Nat) (xs : List KC) : Nat := xs.foldl (fun s x => if rdy send recv x.2 then s ||| bitN (x.1 : Int) else s) 0
theorem readyL_snoc (send recv : Nat) (xs : List KC) (x : KC) : readyL send recv (xs ++ [x]) = if rdy send recv x.2 then readyL send recv xs ||| bitN (x.1 : Int) else readyL send recv xs := by simp [readyL]
theorem readyL_lt (send recv : Nat) (xs : List KC) : readyL send recv xs < 2 ^ 64 := by
  have : ∀ (xs : List KC) (s : Nat), s < 2 ^ 64 → xs.foldl (fun s x => if rdy send recv x.2 then s ||| bitN (x.1 : Int) else s) s < 2 ^ 64 := by
    intro l
    induction l with
    | nil => intro s h; exact h
    | cons k l ih => intro s h; refine ih _ ?_; dsimp only; split; exact Nat.or_lt_two_pow h (bitN_lt _); exact h
  exact this xs 0 (by decide)
set_option maxHeartbeats 4000000 in
theorem Ready_in {w : World} {A : Option Addr} {cap : Nat} {d : Bool} {cs : List Cs} (send recv : Nat) (hs : send < 2 ^ 64) (hr : recv < 2 ^ 64) (h : CSl w.heap.size w A cs) (hl : cs.length ≤ 1000) (hcap : cs.length ≤ cap) :
    CallsIn Fence.wide 5 Try.prog 10 #[.agg #[.slice A cs.length cap, .bool d], .int .u64 (send : Int), .int .u64 (recv : Int)] w fun e W' => e = .returned (.int .u64 (readyL send recv (kcs cs cs.length) : Int)) ∧ Below w.heap.size w W' := by
  have hro : Fence.wide.round = none := rfl
  have h15 : Fence.wide.fn 15 := trivial
  have h20 : Fence.wide.fn 20 := trivial
  have hwd : Fence.wide.depth = none := rfl
  refine callsIn_of_wp_marks Try.func10 rfl trivial ?_ hro
  simp only [Try.ntmps10, List.size_toArray, List.length_cons, List.length_nil, Nat.reduceAdd, Nat.reduceSub, Array.replicate_succ, Array.replicate_zero, List.push_toArray, List.append_toArray, List.nil_append, List.cons_append]
  gi_wp2_with (gi_at_call 15; refine (each_in Fence.wide _ h15 hro _ _ _ _ rfl _).mono ?_; rintro e w' ⟨rfl, rfl⟩)
  have b4 := ((((Boxed.new (w.alloc (.cells #[.slice A cs.length cap, .bool d] 24)) 34 (.int .u64 (send : Int))).alloc (.cells #[.int .u64 (recv : Int)] 34)).alloc (.cells #[.int .u64 0] 34)).alloc (.cells #[.slice A cs.length cap, .bool d] 24)).alloc (.cells #[.slice (some ⟨w.heap.size + 1 + 1 + 1 + 1, 0, none⟩) 1 1] 49)
  have b5 := (((Boxed.new ((w.alloc (.cells #[.slice A cs.length cap, .bool d] 24)).alloc (.cells #[.int .u64 (send : Int)] 34)) 34 (.int .u64 (recv : Int))).alloc (.cells #[.int .u64 0] 34)).alloc (.cells #[.slice A cs.length cap, .bool d] 24)).alloc (.cells #[.slice (some ⟨w.heap.size + 1 + 1 + 1 + 1, 0, none⟩) 1 1] 49)
  have b6 := ((Boxed.new (((w.alloc (.cells #[.slice A cs.length cap, .bool d] 24)).alloc (.cells #[.int .u64 (send : Int)] 34)).alloc (.cells #[.int .u64 (recv : Int)] 34)) 34 (.int .u64 0)).alloc (.cells #[.slice A cs.length cap, .bool d] 24)).alloc (.cells #[.slice (some ⟨w.heap.size + 1 + 1 + 1 + 1, 0, none⟩) 1 1] 49)
  have bS := (Blk.new ((((w.alloc (.cells #[.slice A cs.length cap, .bool d] 24)).alloc (.cells #[.int .u64 (send : Int)] 34)).alloc (.cells #[.int .u64 (recv : Int)] 34)).alloc (.cells #[.int .u64 0] 34)) 24 [.slice A cs.length cap, .bool d]).alloc (.cells #[.slice (some ⟨w.heap.size + 1 + 1 + 1 + 1, 0, none⟩) 1 1] 49)
  have bL := Blk.new (((((w.alloc (.cells #[.slice A cs.length cap, .bool d] 24)).alloc (.cells #[.int .u64 (send : Int)] 34)).alloc (.cells #[.int .u64 (recv : Int)] 34)).alloc (.cells #[.int .u64 0] 34)).alloc (.cells #[.slice A cs.length cap, .bool d] 24)) 49 [.slice (some ⟨w.heap.size + 1 + 1 + 1 + 1, 0, none⟩) 1 1]
  simp only [World.size_alloc] at b4 b5 b6 bS bL
  obtain ⟨W0, hW0⟩ : ∃ W0, W0 = (((((w.alloc (.cells #[.slice A cs.length cap, .bool d] 24)).alloc (.cells #[.int .u64 (send : Int)] 34)).alloc (.cells #[.int .u64 (recv : Int)] 34)).alloc (.cells #[.int .u64 0] 34)).alloc (.cells #[.slice A cs.length cap, .bool d] 24)).alloc (.cells #[.slice (some ⟨w.heap.size + 1 + 1 + 1 + 1, 0, none⟩) 1 1] 49) := ⟨_, rfl⟩
  have hsz : W0.heap.size = w.heap.size + 1 + 1 + 1 + 1 + 1 + 1 := by rw [hW0]; simp only [World.size_alloc]
  have hB0 : Below w.heap.size w W0 := by
    rw [hW0]
    exact ((((((Below.refl _ w).alloc (Nat.le_refl _) _).alloc (by simp) _).alloc (by simp; omega) _).alloc (by simp; omega) _).alloc (by simp; omega) _).alloc (by simp; omega) _
  rw [← hW0] at b4 b5 b6 bS bL ⊢
  have hS : Stays W0 w.heap.size (w.heap.size + 1 + 1 + 1 + 1 + 1) (w.heap.size + 1 + 1 + 1 + 1) A cap d cs := ⟨bL, bS, h.below hB0⟩
  clear hW0
  refine wpIn_rangeFunc_ownH hro (by decide) (gf := 20) (lb := #[.pointer (some ⟨w.heap.size + 1 + 1 + 1 + 1 + 1, 0, none⟩)]) rfl h20 (enters_of Try.func20 (by kernel_rfl) rfl)
    (each1_stops 4 w.heap.size (w.heap.size + 1 + 1 + 1 + 1 + 1) (w.heap.size + 1 + 1 + 1 + 1) A cap d cs hl hcap W0 (by omega) hS) Kp_t (Kp_b (by omega)) (Below.refl _ _) (fun _ => rfl)
    (fun pre W => (Boxed W (w.heap.size + 1) 34 (.int .u64 (send : Int)) ∧ Boxed W (w.heap.size + 1 + 1) 34 (.int .u64 (recv : Int)) ∧ Boxed W (w.heap.size + 1 + 1 + 1) 34 (.int .u64 (readyL send recv pre : Int))) ∧ Below w.heap.size w W)
    (fun _ _ _ => False)
    (OwnFrom.and (OwnFrom.and (Own.from (boxed_own _ _ _) _) (OwnFrom.and (Own.from (boxed_own _ _ _) _) (Own.from (boxed_own _ _ (fun pre => Value.int .u64 (readyL send recv pre : Int))) _))) (ownFrom_below (Nat.le_refl _) (by omega)))
    (fun _ _ _ _ _ hs _ _ => hs)
    ⟨⟨b4, b5, b6⟩, hB0⟩
    (fun x a' W => ∃ Bx, w.heap.size + 1 + 1 + 1 < Bx ∧ Blk W Bx 32 [.bool x.2.send, .int .i64 x.2.ch, .int .i64 x.2.vl, .int .i64 x.2.ok] ∧ a' = { tmps := #[.agg #[.slice A cs.length cap, .bool d], .int .u64 (send : Int), .int .u64 (recv : Int), .pointer (some ⟨w.heap.size, 0, none⟩), .pointer (some ⟨w.heap.size + 1, 0, none⟩), .pointer (some ⟨w.heap.size + 1 + 1, 0, none⟩), .pointer (some ⟨w.heap.size + 1 + 1 + 1, 0, none⟩), .int .i64 (x.1 : Int), .pointer (some ⟨Bx, 0, none⟩), undef, .agg #[.slice A cs.length cap, .bool d], .slice (some ⟨w.heap.size + 1 + 1 + 1 + 1, 0, none⟩) 1 1, .func (.func 20) #[] #[.pointer (some ⟨w.heap.size + 1 + 1 + 1 + 1 + 1, 0, none⟩)], .int .i64 (x.1 : Int), .agg #[.bool x.2.send, .int .i64 x.2.ch, .int .i64 x.2.vl, .int .i64 x.2.ok], undef, undef, undef, undef, undef, undef, undef, undef, undef, undef, undef, undef, undef, undef, undef, undef, undef], defers := [] })
    (fun x a' _ X Y row hs hg hr => by obtain ⟨Bx, h1, h2, h3⟩ := hs; exact ⟨Bx, h1, blk_own Bx _ (fun (_ : Unit) => _) () X Y row h2 hg (fun r e => (hr r e).2), h3⟩)
    ?assign ?body ?done ?stop
  case assign =>
    rintro l pre ⟨k, c⟩ W K ⟨⟨b1, b2, b3⟩, hB1⟩ hK
    simp only [encK, Cs.val]
    gi_wp2
    exact hK _ _ ((KeepsOthers.alloc _ _).from _) ⟨(Below.refl _ W).alloc hB1.size _, Kt.alloc _ _ _⟩ ⟨⟨b1.alloc _, b2.alloc _, b3.alloc _⟩, hB1.alloc hB1.size _⟩ ⟨W.heap.size, b3.lt, Blk.new W _ _, rfl⟩
  case body =>
    rintro l pre ⟨k, c⟩ a' W hlw ⟨r, hr⟩ ⟨⟨b1, b2, b3⟩, hB1⟩ ⟨Bx, hBx, bX, rfl⟩ hlt
    have c1 := b1.cell
    have c2 := b2.cell
    have c3 := b3.cell
    have f3 := b3.frozen
    have x0 : W.cell? ⟨Bx, 0, none⟩ = some (.bool c.send) := bX.cell 0
    have x1 : W.cell? ⟨Bx, 1, none⟩ = some (.int .i64 c.ch) := bX.cell 1
    have hf17 : (Fence.wide.inRound l).fn 17 := trivial
    have hf18 : (Fence.wide.inRound l).fn 18 := trivial
    have hstay : ∀ W', W' = W → KeepsFrom W0.heap.size W W' ∧ Kp w.heap.size W W' := fun W' e => by subst e; exact ⟨KeepsFrom.refl _ _, Below.refl _ _, Kt.refl _ _⟩
    have hset : ∀ v, KeepsFrom W0.heap.size W (W.setCell ⟨w.heap.size + 1 + 1 + 1, 0, none⟩ v) ∧ Kp w.heap.size W (W.setCell ⟨w.heap.size + 1 + 1 + 1, 0, none⟩ v) := fun v =>
      ⟨(KeepsOthers.setCell _ _ _).from _, (Below.refl _ W).setCell (p := ⟨w.heap.size + 1 + 1 + 1, 0, none⟩) (by simp; omega) _, Kt.set b3 (by decide) _ rfl _⟩
    have hset2 : ∀ v, Boxed (W.setCell ⟨w.heap.size + 1 + 1 + 1, 0, none⟩ v) (w.heap.size + 1) 34 (.int .u64 (send : Int)) ∧ Boxed (W.setCell ⟨w.heap.size + 1 + 1 + 1, 0, none⟩ v) (w.heap.size + 1 + 1) 34 (.int .u64 (recv : Int)) ∧ Boxed (W.setCell ⟨w.heap.size + 1 + 1 + 1, 0, none⟩ v) (w.heap.size + 1 + 1 + 1) 34 v ∧ Below w.heap.size w (W.setCell ⟨w.heap.size + 1 + 1 + 1, 0, none⟩ v) := fun v =>
      ⟨b1.other (by omega) _, b2.other (by omega) _, b3.set _, hB1.setCell (p := ⟨w.heap.size + 1 + 1 + 1, 0, none⟩) (by simp; omega) _⟩
    have hstH := hid hstay
    have hseH := hid hset
    have hs2H := hid hset2
    have hWith := fun W' => with_at (readyL send recv pre) (readyL_lt _ _ _) (k : Int) W'
    have hsn := hid (readyL_snoc send recv pre (k, c))
    have hbH := hid (show (Boxed W (w.heap.size + 1) 34 (.int .u64 (send : Int)) ∧ Boxed W (w.heap.size + 1 + 1) 34 (.int .u64 (recv : Int)) ∧ Boxed W (w.heap.size + 1 + 1 + 1) 34 (.int .u64 (readyL send recv pre : Int))) ∧ Below w.heap.size w W from ⟨⟨b1, b2, b3⟩, hB1⟩)
    have hhas := fun W' => has_at (if c.send then send else recv) (by split <;> assumption) c.ch W'
    clear hstay hset hset2 b1 b2 b3 hB1 bX hr
    by_cases hch : c.ch = -1
    · have hrd : rdy send recv c = false := by unfold rdy; rw [hch]; rfl
      rw [hch] at x1
      have hsn2 := hsn.out
      simp only [hrd] at hsn2
      have hsn2H := hid hsn2
      clear hsn2 hrd hhas hWith
      cases hsd : c.send with
      | true =>
        rw [hsd] at x0
        gi_wp2
        refine ⟨trivial, ?_⟩
        gi_wp2
        obtain ⟨k1, k2⟩ := hstH.out W rfl
        exact ⟨k1, k2, by rw [hsn2H.out]; exact hbH.out.1, hbH.out.2⟩
      | false =>
        rw [hsd] at x0
        gi_wp2
        refine ⟨trivial, ?_⟩
        gi_wp2
        obtain ⟨k1, k2⟩ := hstH.out W rfl
        exact ⟨k1, k2, by rw [hsn2H.out]; exact hbH.out.1, hbH.out.2⟩
    · have hne : (c.ch != -1) = true := by rw [bne_iff_ne]; exact hch
      cases hsd : c.send with
      | true =>
        rw [hsd] at x0 hhas
        rw [if_pos rfl] at hhas
        cases hh : hasI send c.ch with
        | true =>
          rw [hh] at hhas
          have hsn2 := hsn.out
          have hrd : rdy send recv c = true := by unfold rdy; rw [hsd, if_pos rfl, hh, hne]; rfl
          rw [show rdy send recv (k, c).2 = true from hrd, if_pos rfl] at hsn2
          have hsn2H := hid hsn2
          clear hsn2 hrd hh hsd
          gi_wp2
          refine ⟨trivial, ?_⟩
          refine (CallsIn.inRound l (callsIn_wide.2 (hhas _))).mono ?_
          rintro e w' ⟨rfl, rfl⟩
          clear hhas
          gi_wp2
          refine ⟨trivial, ?_⟩
          refine (CallsIn.inRound l (callsIn_wide.2 (hWith _))).mono ?_
          rintro e w' ⟨rfl, rfl⟩
          clear hWith
          gi_wp2
          obtain ⟨k1, k2⟩ := hseH.out (.int .u64 ((readyL send recv pre ||| bitN (k : Int) : Nat) : Int))
          obtain ⟨k3, k4, k5, k6⟩ := hs2H.out (.int .u64 ((readyL send recv pre ||| bitN (k : Int) : Nat) : Int))
          exact ⟨k1, k2, ⟨k3, k4, by rw [hsn2H.out]; exact k5⟩, k6⟩
        | false =>
          rw [hh] at hhas
          have hsn2 := hsn.out
          have hrd : rdy send recv c = false := by unfold rdy; rw [hsd, if_pos rfl, hh, hne]; rfl
          rw [show rdy send recv (k, c).2 = false from hrd, if_neg (by decide)] at hsn2
          have hsn2H := hid hsn2
          clear hsn2 hrd hh hsd hWith
          gi_wp2
          refine ⟨trivial, ?_⟩
          refine (CallsIn.inRound l (callsIn_wide.2 (hhas _))).mono ?_
          rintro e w' ⟨rfl, rfl⟩
          clear hhas
          gi_wp2
          obtain ⟨k1, k2⟩ := hstH.out w' rfl
          exact ⟨k1, k2, by rw [hsn2H.out]; exact hbH.out.1, hbH.out.2⟩
      | false =>
        rw [hsd] at x0 hhas
        rw [if_neg (by decide : ¬ (false = true))] at hhas
        cases hh : hasI recv c.ch with
        | true =>
          rw [hh] at hhas
          have hsn2 := hsn.out
          have hrd : rdy send recv c = true := by unfold rdy; rw [hsd, if_neg (by decide : ¬ (false = true)), hh, hne]; rfl
          rw [show rdy send recv (k, c).2 = true from hrd, if_pos rfl] at hsn2
          have hsn2H := hid hsn2
          clear hsn2 hrd hh hsd
          gi_wp2
          refine ⟨trivial, ?_⟩
          refine (CallsIn.inRound l (callsIn_wide.2 (hhas _))).mono ?_
          rintro e w' ⟨rfl, rfl⟩
          clear hhas
          gi_wp2
          refine ⟨trivial, ?_⟩
          refine (CallsIn.inRound l (callsIn_wide.2 (hWith _))).mono ?_
          rintro e w' ⟨rfl, rfl⟩
          clear hWith
          gi_wp2
          obtain ⟨k1, k2⟩ := hseH.out (.int .u64 ((readyL send recv pre ||| bitN (k : Int) : Nat) : Int))
          obtain ⟨k3, k4, k5, k6⟩ := hs2H.out (.int .u64 ((readyL send recv pre ||| bitN (k : Int) : Nat) : Int))
          exact ⟨k1, k2, ⟨k3, k4, by rw [hsn2H.out]; exact k5⟩, k6⟩
        | false =>
          rw [hh] at hhas
          have hsn2 := hsn.out
          have hrd : rdy send recv c = false := by unfold rdy; rw [hsd, if_neg (by decide : ¬ (false = true)), hh, hne]; rfl
          rw [show rdy send recv (k, c).2 = false from hrd, if_neg (by decide)] at hsn2
          have hsn2H := hid hsn2
          clear hsn2 hrd hh hsd hWith
          gi_wp2
          refine ⟨trivial, ?_⟩
          refine (CallsIn.inRound l (callsIn_wide.2 (hhas _))).mono ?_
          rintro e w' ⟨rfl, rfl⟩
          clear hhas
          gi_wp2
          obtain ⟨k1, k2⟩ := hstH.out w' rfl
          exact ⟨k1, k2, by rw [hsn2H.out]; exact hbH.out.1, hbH.out.2⟩
  case done =>
    rintro D ys W hD rfl ⟨⟨b1, b2, b3⟩, hB1⟩ hK
    have c3 := b3.cell
    have f3 := b3.frozen
    gi_wp2
    have hK' := (KeepsOthers.setCell W ⟨w.heap.size + 1 + 1 + 1, 0, none⟩ (.int .u64 (readyL send recv (kcs cs cs.length) : Int))).same D _ hK rfl
    refine ⟨by simp, .inl ⟨_, _, rfl, run_takeDeferred hK', ?_⟩⟩
    have g := ((b3.set (.int .u64 (readyL send recv (kcs cs cs.length) : Int))).kept (grownBy_putObj' _ D (.deferred none)) (by intro e; injection e; omega)).cell
    refine ⟨.int .u64 (readyL send recv (kcs cs cs.length) : Int), ?_, rfl, (hB1.setCell (p := ⟨w.heap.size + 1 + 1 + 1, 0, none⟩) (by simp; omega) _).trans (belowK_b (w := w) (Nat.le_refl _) _ D _ _ (by omega) hK' rfl rfl)⟩
    simp [results, Try.f10, go_sem, g]
  case stop =>
    rintro D c pre W _ _ h _
    exact h.elim
theorem ready_at {w : World} {A : Option Addr} {cap : Nat} {d : Bool} {cs : List Cs} (send recv : Nat) (hs : send < 2 ^ 64) (hr : recv < 2 ^ 64) (h : CSl w.heap.size w A cs) (hl : cs.length ≤ 1000) (hcap : cs.length ≤ cap) :
    Calls Try.prog 10 #[.agg #[.slice A cs.length cap, .bool d], .int .u64 (send : Int), .int .u64 (recv : Int)] w fun e W' => e = .returned (.int .u64 (readyL send recv (kcs cs cs.length) : Int)) ∧ Below w.heap.size w W' :=
  callsIn_wide.1 (Ready_in send recv hs hr h hl hcap)
end Go.Proofs.Ytabcodjalacdjad.LocksCode
