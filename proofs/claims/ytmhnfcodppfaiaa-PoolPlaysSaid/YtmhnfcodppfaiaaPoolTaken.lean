
/- The iterator of package pool hands out the slots that are taken, rising, or a part of them where it is told to stop. -/
import Derived.RangeFuncNested
import Derived.RangeFuncBound
import Derived.RangeFuncCalls
import Derived.RangeFuncLeaves
import Derived.Shelf.Abstract
import Derived.Shelf.RegionOpen
import Derived.WalkKit
import Derived.OwnWalkIn
import Derived.TacticsInMore
import Derived.LoopNIn
import Derived.LoopIn
import Derived.Maps.AppendAt
import Derived.Test.YtmhnfcodppfaiaaPoolPlain
namespace Go.Proofs.Ytmhnfcodppfaiaa.PoolCode
open Go Go.RowKit Go.Shelf Go.Proofs.YtmhnfcodppfaiaaW.PrintWords Go.Proofs.YtmhnfcodppfaiaaW.PrintLast Go.Proofs.YtmhnfcodppfaiaaW.PrintMore
attribute [local go_sem] Oper.semAt_some
set_option linter.unusedVariables false
set_option maxRecDepth 100000
theorem stepR_scope' {P : Program} {b : Frame} {a : Act} {k : List Item} {cs : List Frame} {w : World} {c : Code} : step P (lone (b.atR a (.code (.scope c) :: k)) cs w) = .next (lone (b.atR a (.code c :: .inScope c :: k)) cs w) :=
  step_lone_go (by simp [stepG, stepG.exec, Frame.atR])
theorem stepR_inScope' {P : Program} {b : Frame} {a : Act} {k : List Item} {cs : List Frame} {w : World} {c : Code} : step P (lone (b.atR a (.inScope c :: k)) cs w) = .next (lone (b.atR a k) cs w) :=
  step_lone_go (by simp [stepG, stepG.exec, Frame.atR])
/-- A scope through which the run goes without a goto, inside a fence. -/
theorem wpIn_scope_straight' {F : Fence} {n : Nat} {P : Program} {Q : Exit → Act → World → Prop} {a : Act} {w : World} {c : Code} (h : c.wpIn F n P (Exit.noGoto Q) a w) : (Code.scope c).wpIn F n P Q a w := by
  intro b k cs hro hb hr
  have h0 : (lone (b.atR a (.code (.scope c) :: k)) cs w).fenced P F := fenced_calm hb hr rfl
  obtain ⟨e, a₁, w₁, hq, harr⟩ := h b (.inScope c :: k) cs hro hb hr
  cases e with
  | normal => exact ⟨.normal, a₁, w₁, hq, .head h0 stepR_scope' (StepsIn.trans harr (.one (fenced_calm hb hr rfl) stepR_inScope'))⟩
  | exit id =>
    have hx : exitTo id (.inScope c :: k) = exitTo id k := by simp [exitTo]
    exact ⟨.exit id, a₁, w₁, hq, fun k' hk => .head h0 stepR_scope' (harr.1 k' (by rw [hx]; exact hk)),
      fun hr' hk => let ⟨k₁, h1, h2⟩ := harr.2 hr' (by rw [hx]; exact hk); ⟨k₁, h1, .head h0 stepR_scope' h2⟩⟩
  | goto l => exact hq.elim
  | ret => exact ⟨_, a₁, w₁, hq, .of_steps (.one h0 stepR_scope') harr⟩
  | panic ch => exact ⟨_, a₁, w₁, hq, .of_steps (.one h0 stepR_scope') harr⟩
  | outgrown => exact ⟨_, a₁, w₁, hq, .of_steps (.one h0 stepR_scope') harr⟩
def isAt (l : List Slot) (k : Nat) : Bool := match l[k]? with | some y => y.is | none => false
/-- The taken ones below k. -/
def tk (l : List Slot) (k : Nat) : List Int := ((List.range k).filter (isAt l)).map (fun n : Nat => (n : Int))
theorem tk_yes {l : List Slot} {k : Nat} (h : isAt l k = true) : tk l (k + 1) = tk l k ++ [(k : Int)] := by simp [tk, List.range_succ, List.filter_append, h]
theorem tk_no {l : List Slot} {k : Nat} (h : isAt l k = false) : tk l (k + 1) = tk l k := by simp [tk, List.range_succ, List.filter_append, h]
theorem tk_prefix {s : List Slot} : ∀ {k m : Nat}, k ≤ m → tk s k <+: tk s m := by
  intro k m h
  induction m with
  | zero => obtain rfl : k = 0 := by omega
            exact List.prefix_refl _
  | succ m ih =>
    by_cases e : k = m + 1
    · subst e; exact List.prefix_refl _
    · refine (ih (by omega)).trans ?_
      cases hb : isAt s m with
      | true => rw [tk_yes hb]; exact List.prefix_append _ _
      | false => rw [tk_no hb]; exact List.prefix_refl _
/-- What stays while the iterator runs: the pool, and the cell in which it was handed. -/
structure Stays (W : World) (Bn p q : Nat) (l : List Slot) (pad : List Value) (cp : Nat) (f n : Int) : Prop where
  cell : W.cell? ⟨Bn, 0, none⟩ = some (.pointer (some ⟨p, 0, none⟩))
  pool : PoolAt W p q l pad cp f n
theorem cell_lt {W : World} {a : Addr} {v : Value} (h : W.cell? a = some v) : a.block < W.heap.size := by
  rcases Nat.lt_or_ge a.block W.heap.size with h1 | h1
  · exact h1
  · unfold World.cell? at h; rw [Array.getElem?_eq_none h1] at h; cases h
theorem Stays.alloc {W : World} {Bn p q cp : Nat} {l : List Slot} {pad : List Value} {f n : Int} (h : Stays W Bn p q l pad cp f n) (o : Obj) : Stays (W.alloc o) Bn p q l pad cp f n :=
  ⟨by rw [World.cell?_alloc_some _ _ _ (by rw [h.cell]; rfl)]; exact h.cell, h.pool.alloc⟩
/-- What a round of the loop keeps: the pool's blocks, and the captured pointer's. -/
def Kc (Bn p q : Nat) (W W' : World) : Prop := W'.heap[p]? = W.heap[p]? ∧ W'.heap[q]? = W.heap[q]? ∧ W'.heap[Bn]? = W.heap[Bn]?
theorem Stays.kept {W W' : World} {Bn p q cp : Nat} {l : List Slot} {pad : List Value} {f n : Int} (h : Stays W Bn p q l pad cp f n) (k : Kc Bn p q W W') : Stays W' Bn p q l pad cp f n :=
  ⟨by rw [← h.cell]; unfold World.cell?; simp only [k.2.2], h.pool.else k.1 k.2.1⟩
theorem taken1_in (n lb Bn p q cp : Nat) (l : List Slot) (pad : List Value) (f m : Int) (hl : l.length ≤ 1024) (J Jx : List Int → World → Prop)
    (hJ : ∀ pre W m, J pre W → J pre (W.drewN m)) (hA : ∀ pre W o, J pre W → J pre (W.alloc o))
    (hY : ∀ pre x W, J pre W → pre.length < (tk l l.length).length → YieldAt Fence.wide (n - 1) Try.prog lb #[.int .i64 x] W fun e W' =>
      (e = .returned (.bool true) ∧ J (pre ++ [x]) W' ∧ Kc Bn p q W W') ∨ (e = .returned (.bool false) ∧ Jx (pre ++ [x]) W'))
    (W : World) (hK : Stays W Bn p q l pad cp f m) (h0 : J [] W) :
    CallsIn Fence.wide n Try.prog 25 #[.func (.yield lb) #[] #[], .pointer (some ⟨Bn, 0, none⟩)] W fun e W' => (∃ v, e = .returned v) ∧
      ((∃ ys, ys = tk l l.length ∧ J ys W') ∨ (∃ pre, pre <+: tk l l.length ∧ Jx pre W')) := by
  refine callsIn_of_wp Try.func25 rfl trivial ?_ rfl
  simp only [Try.ntmps25, List.size_toArray, List.length_cons, List.length_nil, Nat.reduceAdd, Nat.reduceSub, Array.replicate_succ, Array.replicate_zero, List.push_toArray, List.append_toArray, List.nil_append, List.cons_append]
  have hc := hK.cell
  have h1 := hK.pool.c0
  gi_wp2
  refine wpIn_scope_straight' ?_
  gi_wp2
  refine wpIn_label ?_
  gi_wp2
  gi_loopw [10] (fun v wr => ∃ k : Nat, k ≤ l.length ∧ v = .int .i64 k ∧ J (tk l k) wr ∧ Stays wr Bn p q l pad cp f m)
    (fun v wr => l.length - (intOf v).toNat)
  case atStart => exact ⟨0, by omega, rfl, h0, hK⟩
  case round =>
    obtain ⟨k, hk, rfl, hJs, hS⟩ := hrel
    by_cases hlt : k < l.length
    · obtain ⟨y, hy⟩ : ∃ y, l[k]? = some y := ⟨l[k], List.getElem?_eq_getElem hlt⟩
      obtain ⟨c0, c1, c2, c3, c4, c5, c6⟩ := cells_some fun j hj => hS.pool.at hy hj
      cases hb : y.is with
      | true =>
        rw [hb] at c0
        have hi : isAt l k = true := by simp [isAt, hy, hb]
        have hpre : tk l k ++ [(k : Int)] <+: tk l l.length := by rw [← tk_yes hi]; exact tk_prefix (by omega)
        obtain ⟨fn, tmps, assign, body, hyy, hR⟩ := hY (tk l k) (k : Int) (wr.alloc (.cells #[.bool true, .int .i64 y.x.t, .int .i64 y.x.c, .bool y.x.s, .int .i64 y.x.v, .int .u64 y.x.u, .int .i64 y.next] 54)) (hA _ _ _ hJs) (by have := hpre.length_le; simp at this; omega)
        have hR' := hR.mono (R' := fun e W' => ∃ b : Bool, e = .returned (.bool b) ∧ ((b = true ∧ J (tk l k ++ [(k : Int)]) W' ∧ Kc Bn p q (wr.alloc (.cells #[.bool true, .int .i64 y.x.t, .int .i64 y.x.c, .bool y.x.s, .int .i64 y.x.v, .int .u64 y.x.u, .int .i64 y.next] 54)) W') ∨ (b = false ∧ Jx (tk l k ++ [(k : Int)]) W')))
          (fun e W' h => h.elim (fun h => ⟨true, h.1, .inl ⟨rfl, h.2⟩⟩) (fun h => ⟨false, h.1, .inr ⟨rfl, h.2⟩⟩))
        clear hR
        gi_wp2_with (first | (refine ⟨(fun hd => by cases hd), ?_⟩; refine hR'.mono ?_; rintro e W3 ⟨b, rfl, hpost⟩))
        · have hx : Jx (tk l k ++ [(k : Int)]) W3 := by
            rcases hpost with h | h
            · exfalso; simp_all
            · exact h.2
          simp only [Exit.noGoto]
          go_end0
          exact ⟨⟨_, rfl⟩, .inr ⟨_, hpre, hx⟩⟩
        · have hx : J (tk l k ++ [(k : Int)]) W3 ∧ Kc Bn p q (wr.alloc (.cells #[.bool true, .int .i64 y.x.t, .int .i64 y.x.c, .bool y.x.s, .int .i64 y.x.v, .int .u64 y.x.u, .int .i64 y.next] 54)) W3 := by
            rcases hpost with h | h
            · exact h.2
            · exfalso; simp_all
          go_roundw
          case rel => exact ⟨k + 1, by omega, by go_num, by rw [tk_yes hi]; exact hx.1, (hS.alloc _).kept hx.2⟩
          case measure => simp [intOf]; omega
      | false =>
        rw [hb] at c0
        have hi : isAt l k = false := by simp [isAt, hy, hb]
        gi_wp2
        go_roundw
        case rel => exact ⟨k + 1, by omega, by go_num, by rw [tk_no hi]; exact hA _ _ _ hJs, hS.alloc _⟩
        case measure => simp [intOf]; omega
    · gi_wp2
      simp only [Exit.noGoto]
      go_end0
      exact ⟨⟨_, rfl⟩, .inl ⟨_, by rw [show k = l.length by omega], hJs⟩⟩
theorem taken1_stops (n Bn p q cp : Nat) (l : List Slot) (pad : List Value) (f m : Int) (hl : l.length ≤ 1024) (w : World) (hS : Stays w Bn p q l pad cp f m) :
    SeqStopsK Fence.wide n Try.prog 25 #[.pointer (some ⟨Bn, 0, none⟩)] (fun x : Int => #[Value.int .i64 x]) (Kc Bn p q) (fun ys => ys = tk l l.length) (fun pre => pre <+: tk l l.length) (tk l l.length).length w := fun lb J Jx W hW hJ _ hY h0 =>
  taken1_in n lb Bn p q cp l pad f m hl J Jx (fun pre W m h => hJ pre W (W.drewN m) none h ⟨rfl, rfl, rfl, Nat.le_refl _, fun _ _ _ => rfl⟩ (fun r e => by cases e))
    (fun pre W o h => hJ pre W (W.alloc o) none h (World.grownBy_alloc W o none) (fun r e => by cases e)) hY W
    (hS.kept ⟨hW.block _ hS.pool.lp, hW.block _ hS.pool.lq, hW.block _ (cell_lt hS.cell)⟩) h0
theorem taken_in (F : Fence) (n : Nat) (h22 : F.fn 22) (hro : F.round = none) (p : Nat) (w : World) :
    CallsIn F n Try.prog 22 #[.pointer (some ⟨p, 0, none⟩)] w fun e w' => e = .returned (.func (.func 25) #[] #[.pointer (some ⟨w.heap.size, 0, none⟩)]) ∧ w' = w.alloc (.cells #[.pointer (some ⟨p, 0, none⟩)] 24) := by
  refine callsIn_of_wp Try.func22 rfl h22 ?_ hro
  simp only [Try.ntmps22, List.size_toArray, List.length_cons, List.length_nil, Nat.reduceAdd, Nat.reduceSub, Array.replicate_succ, Array.replicate_zero, List.push_toArray, List.append_toArray, List.nil_append, List.cons_append]
  gi_wp2
  refine bodyPost_ret (results_tmp rfl _ _ _) rfl ?_
  exact ⟨rfl, rfl⟩
end Go.Proofs.Ytmhnfcodppfaiaa.PoolCode
