
/- Iterators: scopes without a goto; what a round of the caller's keeps; a row of one's own. -/
import Derived.RangeFuncNested
import Derived.RangeFuncBound
import Derived.RangeFuncCalls
import Derived.RangeFuncLeaves
import Derived.Shelf.Abstract
import Derived.Shelf.RegionOpen
import Derived.Stop.RegionWithIn
import Derived.BigRegionIn
import Derived.WalkKit
import Derived.OwnWalkIn
import Derived.TacticsInMore
import Derived.LoopNIn
import Derived.LoopIn
import Derived.Maps.AppendAt
import Derived.Test.YtabcodjalacdjabProg
import Derived.Test.YtabcodjalacdjabObj
import Derived.Test.YtabcodjalacdjabWWords
import Derived.Test.YtabcodjalacdjabWMore
namespace Go.Proofs.Ytabcodjalacdjab.Iter
open Go Go.RowKit Go.Shelf Go.Proofs.Ytabcodjalacdjab.Obj
set_option linter.unusedVariables false
set_option maxRecDepth 100000
theorem stepR_scope' {P : Program} {b : Frame} {a : Act} {k : List Item} {cs : List Frame} {w : World} {c : Code} : step P (lone (b.atR a (.code (.scope c) :: k)) cs w) = .next (lone (b.atR a (.code c :: .inScope c :: k)) cs w) :=
  step_lone_go (by simp [stepG, stepG.exec, Frame.atR])
theorem stepR_inScope' {P : Program} {b : Frame} {a : Act} {k : List Item} {cs : List Frame} {w : World} {c : Code} : step P (lone (b.atR a (.inScope c :: k)) cs w) = .next (lone (b.atR a k) cs w) :=
  step_lone_go (by simp [stepG, stepG.exec, Frame.atR])
/-- A scope through which the run goes without a goto, inside a fence. -/
theorem wpIn_scope_straight' {F : Fence} {n : Nat} {P : Program} {Q : Exit → Act → World → Prop} {a : Act} {w : World} {c : Code} (h : c.wpIn F n P (Exit.noGoto Q) a w) : (Code.scope c).wpIn F n P Q a w := by
  intro b k cs hro hb hr
  have h0 : (lone (b.atR a (.code (.scope c) :: k)) cs w).fenced P F := fenced_calm hb hr rfl
  obtain ⟨e, a₁, w₁, hq, harr⟩ := h b (.inScope c :: k) cs hro hb hr
  cases e with
  | normal => exact ⟨.normal, a₁, w₁, hq, .head h0 stepR_scope' (StepsIn.trans harr (.one (fenced_calm hb hr rfl) stepR_inScope'))⟩
  | exit id =>
    have hx : exitTo id (.inScope c :: k) = exitTo id k := by simp [exitTo]
    exact ⟨.exit id, a₁, w₁, hq, fun k' hk => .head h0 stepR_scope' (harr.1 k' (by rw [hx]; exact hk)),
      fun hr' hk => let ⟨k₁, h1, h2⟩ := harr.2 hr' (by rw [hx]; exact hk); ⟨k₁, h1, .head h0 stepR_scope' h2⟩⟩
  | goto l => exact hq.elim
  | ret => exact ⟨_, a₁, w₁, hq, .of_steps (.one h0 stepR_scope') harr⟩
  | panic ch => exact ⟨_, a₁, w₁, hq, .of_steps (.one h0 stepR_scope') harr⟩
  | outgrown => exact ⟨_, a₁, w₁, hq, .of_steps (.one h0 stepR_scope') harr⟩
/-- All blocks of these types stand as they stood. -/
def Kt (ts : List TypeId) (W W' : World) : Prop := ∀ (k : Nat) (c : Array Value) (t : TypeId) (fz : Nat × Nat), W.heap[k]? = some (Obj.cells c t fz) → t ∈ ts → W'.heap[k]? = W.heap[k]?
theorem Kt.refl (ts : List TypeId) (W : World) : Kt ts W W := fun _ _ _ _ _ _ => rfl
theorem Kt_t {ts : List TypeId} {A B C : World} (h : Kt ts A B) (k : Kt ts B C) : Kt ts A C := fun i c t fz hi ht => by
  have e := h i c t fz hi ht
  exact (k i c t fz (e.trans hi) ht).trans e
theorem Kt_b {ts : List TypeId} {w : World} (W : World) (l : Nat) (o o' : Obj) (hl : w.heap.size ≤ l) (h : W.heap[l]? = some o) (ho : o.isCells = false) (_ : o.isWalk = false) : Kt ts W (W.putObj l o') := fun k c t fz hk _ => by
  refine (grownBy_putObj' W l o').block k (heap_lt hk) (fun e => ?_)
  cases e
  rw [h] at hk
  obtain rfl := Option.some.inj hk
  simp [Obj.isCells] at ho
theorem Kt.alloc (ts : List TypeId) (W : World) (o : Obj) : Kt ts W (W.alloc o) := fun k c t fz hk _ => Below.heap_alloc _ _ _ (heap_lt hk)
theorem Kt.set {ts : List TypeId} {W : World} {b : Nat} {c : Array Value} {t : TypeId} {fz : Nat × Nat} (hb : W.heap[b]? = some (Obj.cells c t fz)) (ht : t ∉ ts) (a : Addr) (ha : a.block = b) (v : Value) : Kt ts W (W.setCell a v) := fun k c' t' fz' hk ht' => by
  refine Below.heap_setCell _ _ _ _ (fun e => ?_)
  rw [e, ha, hb] at hk
  simp only [Option.some.injEq, Obj.cells.injEq] at hk
  exact ht (hk.2.1 ▸ ht')
theorem Kt.grown {ts : List TypeId} {W W' : World} {base e size n : Nat} {v : Value} {xs : List Value} (hr : W.ownsRow base e size v n xs) (hg : W.grownBy W' v.ownBlock) (he : e ∉ ts) : Kt ts W W' := fun k c t fz hk ht => by
  refine hg.block k (heap_lt hk) (fun e' => ?_)
  rcases hr.2 with ⟨rfl, _⟩ | ⟨g, cap, cur, rfl, _, hh, _⟩
  · cases e'
  · have e2 : k = g := by simpa [Value.ownBlock] using e'
    rw [e2, hh] at hk
    simp only [Option.some.injEq, Obj.cells.injEq] at hk
    exact he (hk.2.1 ▸ ht)
theorem blk_kt {ts : List TypeId} {W W' : World} {b : Nat} {t : TypeId} {vs : List Value} (h : Blk W b t vs) (k : Kt ts W W') (ht : t ∈ ts) : Blk W' b t vs := h.same (k b _ t _ h ht)
end Go.Proofs.Ytabcodjalacdjab.Iter
