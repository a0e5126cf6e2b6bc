/- The iterator of package set hands out what a set has, rising, or a part of it where it is told to stop. -/
import Derived.RangeFuncNested
import Derived.RangeFuncBound
import Derived.RangeFuncCalls
import Derived.RangeFuncLeaves
import Derived.Shelf.Abstract
import Derived.Shelf.RegionOpen
import Derived.WalkKit
import Derived.OwnWalkIn
import Derived.TacticsInMore
import Derived.LoopNIn
import Derived.LoopIn
import Derived.Maps.AppendAt
import Derived.Test.YtghbcdpnngheoaaPSetx1
namespace Go.Proofs.Ytghbcdpnngheoaa.PSet
open Go.RowKit Go.Shelf Go.Proofs.YtghbcdpnngheoaaW.PrintWords Go.Proofs.YtghbcdpnngheoaaW.PrintLast Go.Proofs.YtghbcdpnngheoaaW.PrintMore
attribute [local go_sem] Oper.semAt_some
set_option linter.unusedVariables false

def bitv (k : Int) : Int := (set_bit.f k).getD 0
theorem bit_f (k : Int) : set_bit.f k = some (bitv k) := by
  have : ∃ r, set_bit.f k = some r := by
    unfold set_bit.f
    by_cases h1 : k ≥ 0
    · rw [if_pos h1]
      by_cases h2 : k < 64
      · rw [if_pos h2, if_pos (by omega)]; exact ⟨_, rfl⟩
      · rw [if_neg h2]; exact ⟨_, rfl⟩
    · rw [if_neg h1]; exact ⟨_, rfl⟩
  obtain ⟨r, h⟩ := this
  rw [bitv, h]; rfl
def hasB (s : Int) (k : Nat) : Bool := (Go.bits .and .u64 s (bitv (k : Int))) != 0
theorem has_f (s : Int) (k : Nat) : set_Has.f s (k : Int) = some (hasB s k) := by
  unfold set_Has.f; rw [bit_f]; rfl
/-- What a set has below k. -/
def upto (s : Int) (k : Nat) : List Int := ((List.range k).filter (hasB s)).map (fun n : Nat => (n : Int))
theorem upto_yes {s : Int} {k : Nat} (h : hasB s k = true) : upto s (k + 1) = upto s k ++ [(k : Int)] := by simp [upto, List.range_succ, List.filter_append, h]
theorem upto_no {s : Int} {k : Nat} (h : hasB s k = false) : upto s (k + 1) = upto s k := by simp [upto, List.range_succ, List.filter_append, h]

theorem upto_prefix {s : Int} : ∀ {k m : Nat}, k ≤ m → upto s k <+: upto s m := by
  intro k m h
  induction m with
  | zero => obtain rfl : k = 0 := by omega
            exact List.prefix_refl _
  | succ m ih =>
    by_cases e : k = m + 1
    · subst e; exact List.prefix_refl _
    · refine (ih (by omega)).trans ?_
      cases hb : hasB s m with
      | true => rw [upto_yes hb]; exact List.prefix_append _ _
      | false => rw [upto_no hb]; exact List.prefix_refl _
theorem all_in (F : Fence) (n : Nat) (h21 : F.fn 21) (hro : F.round = none) (s : Int) (w : World) :
    CallsIn F n Try.prog 21 #[.int .u64 s] w fun e w' => e = .returned (.func (.func 24) #[] #[.pointer (some ⟨w.heap.size, 0, none⟩)]) ∧ w' = w.alloc (.cells #[.int .u64 s] 23) := by
  refine callsIn_of_wp Try.func21 rfl h21 ?_ hro
  simp only [Try.ntmps21, List.size_toArray, List.length_cons, List.length_nil, Nat.reduceAdd, Nat.reduceSub, Array.replicate_succ, Array.replicate_zero, List.push_toArray, List.append_toArray, List.nil_append, List.cons_append]
  gi_wp2
  refine bodyPost_ret (results_tmp rfl _ _ _) rfl ?_
  exact ⟨rfl, rfl⟩

theorem bitv_eq (k : Int) (h0 : 0 ≤ k) (h1 : k < 64) : bitv k = IntKind.u64.wrap (1 * 2 ^ k.toNat) := by
  unfold bitv set_bit.f
  rw [if_pos h0, if_pos h1, if_pos h0]
  unfold shl
  rw [Nat.min_eq_left (show k.toNat ≤ IntKind.u64.bits from by show k.toNat ≤ 64; omega)]; rfl
theorem bit_exact (k : Int) (h0 : 0 ≤ k) (h1 : k < 64) (w : World) : Calls Try.prog 22 #[.int .i64 k] w fun e w' => e = .returned (.int .u64 (bitv k)) ∧ w' = w := by
  have hb := Aside0.mk (bitv_eq k h0 h1)
  go_enter Try.func22, Try.ntmps22
  go_wp2
  go_ret
  rw [hb.out]
  exact ⟨by first | rfl | simp, rfl⟩
theorem bit_in (n : Nat) (k : Nat) (h1 : k < 64) (w : World) : CallsIn Fence.wide n Try.prog 22 #[.int .i64 k] w fun e w' => e = .returned (.int .u64 (bitv k)) ∧ w' = w :=
  callsIn_wide.2 (bit_exact k (by omega) (by omega) w)

set_option maxRecDepth 100000 in
set_option maxHeartbeats 2000000 in
theorem all1_in (n : Nat) (l Bn : Nat) (s : Int) (J Jx : List Int → World → Prop)
    (hJ : ∀ pre W m, J pre W → J pre (W.drewN m))
    (hY : ∀ pre x W, J pre W → pre.length < (upto s 64).length → YieldAt Fence.wide (n - 1) Try.prog l #[.int .i64 x] W fun e W' =>
      (e = .returned (.bool true) ∧ J (pre ++ [x]) W' ∧ W'.cell? ⟨Bn, 0, none⟩ = W.cell? ⟨Bn, 0, none⟩) ∨ (e = .returned (.bool false) ∧ Jx (pre ++ [x]) W'))
    (W : World) (hBn : W.cell? ⟨Bn, 0, none⟩ = some (.int .u64 s)) (h0 : J [] W) :
    CallsIn Fence.wide n Try.prog 24 #[.func (.yield l) #[] #[], .pointer (some ⟨Bn, 0, none⟩)] W fun e W' => (∃ v, e = .returned v) ∧
      ((∃ ys, ys = upto s 64 ∧ J ys W') ∨ (∃ pre, pre <+: upto s 64 ∧ Jx pre W')) := by
  refine callsIn_of_wp Try.func24 rfl trivial ?_ rfl
  simp only [Try.ntmps24, List.size_toArray, List.length_cons, List.length_nil, Nat.reduceAdd, Nat.reduceSub, Array.replicate_succ, Array.replicate_zero, List.push_toArray, List.append_toArray, List.nil_append, List.cons_append]
  gi_wp2
  gi_loopw [4] (fun v wr => ∃ k : Nat, k ≤ 64 ∧ v = .int .i64 k ∧ J (upto s k) wr ∧ wr.cell? ⟨Bn, 0, none⟩ = some (.int .u64 s))
    (fun v wr => 64 - (intOf v).toNat)
  case atStart => exact ⟨0, by omega, rfl, h0, hBn⟩
  case round =>
    obtain ⟨k, hk, rfl, hJs, hc⟩ := hrel
    by_cases hlt : k < 64
    · cases hb : hasB s k with
      | true =>
        have hbt : ((Go.bits .and .u64 s (bitv (k : Int))) != 0) = true := hb
        have hpre : upto s k ++ [(k : Int)] <+: upto s 64 := by rw [← upto_yes hb]; exact upto_prefix (by omega)
        have hlen : (upto s k).length < (upto s 64).length := by have := hpre.length_le; simp at this; omega
        obtain ⟨fn, tmps, assign, body, hy, hR⟩ := hY (upto s k) (k : Int) wr.drew (hJ _ _ 1 hJs) hlen
        have hR' := hR.mono (R' := fun e W' => ∃ b : Bool, e = .returned (.bool b) ∧ ((b = true ∧ J (upto s k ++ [(k : Int)]) W' ∧ W'.cell? ⟨Bn, 0, none⟩ = wr.drew.cell? ⟨Bn, 0, none⟩) ∨ (b = false ∧ Jx (upto s k ++ [(k : Int)]) W')))
          (fun e W' h => h.elim (fun h => ⟨true, h.1, .inl ⟨rfl, h.2⟩⟩) (fun h => ⟨false, h.1, .inr ⟨rfl, h.2⟩⟩))
        clear hR
        gi_wp2
        gi_region_with (first | (refine ⟨trivial, (fun hd => by cases hd), ?_⟩; gi_at_call 22; refine (bit_in _ _ hlt _).mono ?_; rintro e w' ⟨rfl, rfl⟩) | (refine ⟨(fun hd => by cases hd), ?_⟩; refine hR'.mono ?_; rintro e W3 ⟨b, rfl, hpost⟩))
        all_goals (cases b)
        all_goals first
          | (have hx := (hpost.resolve_left (fun h => by cases h.1)).2
             clear hpost
             gi_wp2
             refine bodyPost_ret (results_none rfl _ _ _) rfl ?_
             exact ⟨⟨_, rfl⟩, .inr ⟨_, hpre, hx⟩⟩)
          | (have hx := (hpost.resolve_right (fun h => by cases h.1)).2
             clear hpost
             gi_wp2
             go_roundw
             case rel => exact ⟨k + 1, by omega, by go_num, by rw [upto_yes hb]; exact hx.1, hx.2.trans hc⟩
             case measure => simp [intOf]; omega)
      | false =>
        have hbt : ((Go.bits .and .u64 s (bitv (k : Int))) != 0) = false := hb
        have hw22 : Fence.wide.fn 22 := trivial
        have hwd : Fence.wide.depth = none := rfl
        gi_wp2
        refine wpIn_region_quiet_lit rfl (by kernel_rfl) (by kernel_rfl) ?_
        repeat (gi_big_quiet_step ((first | (refine ⟨(fun hd => by cases hd), ?_⟩; gi_at_call 22; exact CallsIn.quiet_of_same (bit_in _ _ hlt _)) | (gi_at_call 22; exact CallsIn.quiet_of_same (bit_in _ _ hlt _)))))
        refine Go.BigFrame.wpQuietIn_skip (fun _ _ _ _ => trivial) rfl ?_
        simp only [Act.put, List.setIfInBounds_toArray, List.set_cons_zero, List.set_cons_succ]
        repeat (gi_big_quiet_step (fail))
        refine wpQuietIn_nil ?_
        intro _ hw'
        obtain ⟨nq, hw''⟩ := hw'
        subst hw''
        gi_wp2
        go_roundw
        case rel => exact ⟨k + 1, by omega, by go_num, by rw [upto_no hb]; exact hJ _ _ _ hJs, hc⟩
        case measure => simp [intOf]; omega
    · gi_wp2
      go_end0
      exact ⟨⟨_, rfl⟩, .inl ⟨_, by rw [show k = 64 by omega], hJs⟩⟩
end Go.Proofs.Ytghbcdpnngheoaa.PSet
