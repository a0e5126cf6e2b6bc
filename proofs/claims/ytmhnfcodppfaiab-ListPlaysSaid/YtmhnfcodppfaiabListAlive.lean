
/- The chapter's example of list answers true. -/
import Derived.Test.YtmhnfcodppfaiabListAll
import Derived.Test.YtmhnfcodppfaiabSameInts
namespace Go.Proofs.Ytmhnfcodppfaiab.ListCode
open Go Go.RowKit Go.Proofs.Ytmhnfcodppfaiab.Obj Go.Proofs.Ytmhnfcodppfaiab.ListPure
set_option linter.unusedVariables false
set_option maxRecDepth 100000
section
variable {w w' : World} {p b : Nat} {L : List Int}
theorem put_eq (h : LsAt w p b L) (i c : Int) (L' : List Int) (hc : putC L i = c) (hl : putL L i = L') : Calls Try.prog 8 #[.pointer (some ⟨p, 0, none⟩), .int .i64 i] w fun e w' => e = .returned (.int .i64 c) ∧ LsAt w' p b L' ∧ Only (fun k => k = p ∨ k = b) w w' := by
  subst hc; subst hl; exact put_at h i
theorem drop_eq (h : LsAt w p b L) (i c : Int) (L' : List Int) (hwf : (Lit.int .i64 i).wf = true) (hc : dropC L i = c) (hl : L.erase i = L') : Calls Try.prog 9 #[.pointer (some ⟨p, 0, none⟩), .int .i64 i] w fun e w' => e = .returned (.int .i64 c) ∧ LsAt w' p b L' ∧ Only (fun k => k = p ∨ k = b) w w' := by
  subst hc; subst hl; exact drop_at h hwf
theorem next_eq (h : LsAt w p b L) (i : Int) (v : Int) (c : Bool) (hwf : (Lit.int .i64 i).wf = true) (hc : nextV L i = (v, c)) : Calls Try.prog 14 #[.pointer (some ⟨p, 0, none⟩), .int .i64 i] w fun e w' => e = .returned (.tuple #[.int .i64 v, .bool c]) ∧ Below w.heap.size w w' := by
  have := next_at h hwf
  rw [hc] at this; exact this
end
theorem up {B : Nat} {w W W' : World} {S : Nat → Prop} (hb : Below B w W) (hB : B ≤ w.heap.size) (o : Only S W W') (hs : ∀ k, S k → B ≤ k) : Below B w W' := o.below hb (Nat.le_trans hB hb.size) (fun k _ h => hs k h)
set_option maxHeartbeats 2000000 in
theorem alive_at (w : World) : Calls Try.prog 6 #[] w fun e w' => e = .returned (.bool true) ∧ Below w.heap.size w w' := by
  go_enter Try.func6, Try.ntmps6
  go_wp2_with (fail)
  refine (lnew_at w).mono ?_
  rintro e w1 ⟨rfl, h0, hb1⟩
  go_wp2_with (fail)
  refine (put_eq h0 5 0 [5] (by decide) (by decide)).mono ?_
  rintro e w2 ⟨rfl, h1, o1⟩
  have hb2 := up hb1 (Nat.le_refl _) o1 (fun k h => by omega)
  go_wp2_with (fail)
  refine (put_eq h1 3 0 [5, 3] (by decide) (by decide)).mono ?_
  rintro e w3 ⟨rfl, h2, o2⟩
  have hb3 := up hb2 (Nat.le_refl _) o2 (fun k h => by omega)
  go_wp2_with (fail)
  refine (put_eq h2 8 0 [5, 3, 8] (by decide) (by decide)).mono ?_
  rintro e w4 ⟨rfl, h3, o3⟩
  have hb4 := up hb3 (Nat.le_refl _) o3 (fun k h => by omega)
  go_wp2_with (fail)
  refine (drop_eq h3 3 0 [5, 8] (by decide) (by decide) (by decide)).mono ?_
  rintro e w5 ⟨rfl, h4, o4⟩
  have hb5 := up hb4 (Nat.le_refl _) o4 (fun k h => by omega)
  clear h0 h1 h2 h3 o1 o2 o3 o4 hb1 hb2 hb3 hb4
  go_wp2_with (fail)
  refine (all_nums h4).mono ?_
  rintro e w6 ⟨A, c, rfl, hN, hB6, hA6⟩
  have h5 := h4.below hB6
  have hb6 := hb5.trans (hB6.mono hb5.size)
  go_wp2_with (fail)
  refine (next_eq h5 5 8 true (by decide) (by decide)).mono ?_
  rintro e w7 ⟨rfl, hB7⟩
  have h6 := h5.below hB7
  have hb7 := hb6.trans (hB7.mono hb6.size)
  have hN7 := hN.below hB7
  go_wp2_with (fail)
  refine (pop_at (r := [8]) h6).mono ?_
  rintro e w8 ⟨rfl, h7, o7⟩
  have hb8 := up hb7 (Nat.le_refl _) o7 (fun k h => by omega)
  have hl5 := hb5.size
  have hl7 := hB7.size
  have hsz5 := h4.lt
  have hN8 := nums_far (B := w5.heap.size) hN7 (fun x hx => ⟨(hA6 x hx).1, Nat.lt_of_lt_of_le (hA6 x hx).2 hl7⟩) o7 (fun k h => by omega)
  clear h4 h5 h6 o7 hB6 hB7 hb5 hb6 hb7 hN hN7 hA6
  have hN9 : Nums (w8.alloc (.cells #[.int .i64 5, .int .i64 8] 3)) .i64 A [5, 8] := hN8.below ((Below.refl _ w8).alloc (Nat.le_refl _) _)
  have hK9 : Nums (w8.alloc (.cells #[.int .i64 5, .int .i64 8] 3)) .i64 (some ⟨w8.heap.size, 0, none⟩) [5, 8] := ⟨fun i hi => by
    have hb := Blk.new w8 3 [.int .i64 5, .int .i64 8]
    refine ⟨_, rfl, ?_⟩
    rw [Go.Proofs.Ytmhnfcodppfaiab.Obj.addr_add0]
    have := hb.cell i
    rw [this]
    match i, hi with
    | 0, _ => rfl
    | 1, _ => rfl⟩
  have h8 : LsAt (w8.alloc (.cells #[.int .i64 5, .int .i64 8] 3)) (w.heap.size + 1) w.heap.size [8] := h7.below ((Below.refl _ w8).alloc (Nat.le_refl _) _)
  have hb9 : Below w.heap.size w (w8.alloc (.cells #[.int .i64 5, .int .i64 8] 3)) := hb8.alloc hb8.size _
  have hS := SameInts.same_at A (some ⟨w8.heap.size, 0, none⟩) c 2 [5, 8] [5, 8] _ hN9 hK9 (by decide)
  have hdd : decide (([5, 8] : List Int) = [5, 8]) = true := by decide
  rw [hdd] at hS
  generalize hw9 : w8.alloc (.cells #[.int .i64 5, .int .i64 8] 3) = w9 at *
  go_wp2_with (fail)
  refine hS.mono ?_
  rintro e w10 ⟨rfl, m, rfl⟩
  go_wp2_with (fail)
  refine (put_eq (h8.drewN m) 8 9 [8] (by decide) (by decide)).mono ?_
  rintro e w11 ⟨rfl, h11, o11⟩
  have hb11 := up (W := w9.drewN m) ⟨hb9.os, hb9.tape, hb9.output, hb9.size, hb9.block⟩ (Nat.le_refl _) o11 (fun k h => by omega)
  go_wp2_with (fail)
  refine (put_eq h11 (-1) 2 [8] (by decide) (by decide)).mono ?_
  rintro e w12 ⟨rfl, h12, o12⟩
  have hb12 := up hb11 (Nat.le_refl _) o12 (fun k h => by omega)
  go_wp2_with (fail)
  go_ret
  exact ⟨rfl, hb12⟩
end Go.Proofs.Ytmhnfcodppfaiab.ListCode
