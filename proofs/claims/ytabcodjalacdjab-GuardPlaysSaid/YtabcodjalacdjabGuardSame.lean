
/- A guard is the document's. -/
import Derived.Test.YtabcodjalacdjabGuardCopy
import Derived.Test.YtabcodjalacdjabRefWant
import Derived.Test.YtabcodjalacdjabSame08
namespace Go.Proofs.Ytabcodjalacdjab.GuardPlays
open Go Go.RowKit Go.Proofs.Ytabcodjalacdjab.Obj Go.Proofs.Ytabcodjalacdjab.Row Go.Proofs.YtabcodjalacdjabW.PrintWords Go.Proofs.YtabcodjalacdjabW.PrintMore
open Go.Proofs.Ytabcodjalacdjab.TicketCode (Sm)
open Go.Proofs.Ytabcodjalacdjab.GuardCode (Gs GAt RowM lock_cell not_int Rise all_at held_at next_at nextK nextT nextD)
open Go.Proofs.Ytabcodjalacdjab.RefGuard (RG rall_at)
set_option linter.unusedVariables false
set_option maxRecDepth 100000
/-- Who goes for a lock has not all; who goes for none has no ticket. -/
structure Oks (s : Gs) : Prop where
  rise : Rise s.row
  le : s.n ≤ s.row.length
  drawn : s.drawn = true → s.n < s.row.length
  mine : s.drawn = false → s.mine = 0
section
variable {w w' : World} {g x r y : Nat} {s : Gs}
theorem bl0 (w : World) (n : Nat) : Below w.heap.size w (w.drewN n) := ⟨rfl, rfl, rfl, Nat.le_refl _, fun _ _ => rfl⟩
theorem bl1 (w : World) : Below w.heap.size w w.drew := bl0 w 1
theorem bln {w w' : World} (h : Below w.heap.size w w') (n : Nat) : Below w.heap.size w (w'.drewN n) := ⟨h.os, h.tape, h.output, h.size, h.block⟩
theorem all_b (h : GAt w g x s) (W : World) (hb : Below w.heap.size w W) : Calls Try.prog 11 #[.pointer (some ⟨g, 0, none⟩)] W fun e w' => e = .returned (.bool (decide (s.n = s.row.length))) ∧ Below w.heap.size w w' :=
  (all_at (h.below hb)).mono fun e w' ⟨a, n, b⟩ => ⟨a, by subst b; exact bln hb n⟩
theorem rall_b (h : RG w r y s) (W : World) (hb : Below w.heap.size w W) : Calls Try.prog 36 #[.pointer (some ⟨r, 0, none⟩)] W fun e w' => e = .returned (.bool (decide (s.n = s.row.length))) ∧ Below w.heap.size w w' :=
  (rall_at (h.below hb)).mono fun e w' ⟨a, n, b⟩ => ⟨a, by subst b; exact bln hb n⟩
theorem held_b (h : GAt w g x s) (hf : s.row.length ≤ 1000) (W : World) (hb : Below w.heap.size w W) : Calls Try.prog 23 #[.pointer (some ⟨g, 0, none⟩)] W fun e w' => ∃ A' cap', e = .returned (.slice A' s.n cap') ∧ RowM w' A' (s.row.take s.n) ∧ Below w.heap.size w w' :=
  (held_at (h.below hb) hf).mono fun e w' ⟨A', c', a, _, b, d⟩ => ⟨A', c', a, b, hb.trans (d.mono hb.size)⟩
theorem same_b {A : Option Addr} {cap n : Nat} {R : List Int} (hl : R.length = n) (h : Nums w .i64 A R) (hA : ∀ a, A = some a → a.block < w.heap.size) (hf : n ≤ 1000) (W : World) (A' : Option Addr) (c' : Nat) (hR : RowM W A' R) (hb : Below w.heap.size w W) :
    Calls Try.prog 22 #[.slice A' n c', .slice A n cap] W fun e w' => e = .returned (.bool true) ∧ Below w.heap.size w w' := by
  have hN : Nums W .i64 A R := h.same fun a ha => hb.block _ (hA a ha)
  have := Same08.same_at A' A c' cap R R W hR.nums hN (by omega)
  rw [hl] at this
  exact this.mono fun e w' ⟨a, m, b⟩ => ⟨by rw [a, decide_eq_true rfl], by subst b; exact bln hb m⟩
set_option maxHeartbeats 4000000 in
theorem same_at (h : GAt w g x s) (k : RG w r y s) (hs : Oks s) (hf : s.row.length ≤ 1000) : Calls Try.prog 21 #[.pointer (some ⟨g, 0, none⟩), .pointer (some ⟨r, 0, none⟩)] w fun e w' => e = .returned (.bool true) ∧ Below w.heap.size w w' := by
  have hNx := next_at h
  have hAl := all_b h
  have hRa := rall_b k
  have hHe := hid (held_b h hf)
  obtain ⟨A, cap, hO, hcap, hR⟩ := k.obj
  have hle := hs.le
  have hSa := hid (fun W A' c' hR' => same_b (w := w) (cap := cap) (R := s.row.take s.n) (n := s.n) (by rw [List.length_take]; omega) (hR.takeN s.n).nums (fun a ha => hR.lt ha) (by omega) W A' c' hR')
  have hcl := hid (show ∀ W, Below w.heap.size w W → W.cell? ⟨r, 1, none⟩ = some (.slice A s.row.length cap) ∧ W.cell? ⟨r, 2, none⟩ = some (.int .i64 (s.n : Int)) ∧ W.cell? ⟨r, 3, none⟩ = some (.int .u16 (s.mine : Int)) ∧ W.cell? ⟨r, 4, none⟩ = some (.bool s.drawn) from fun W hb => by
    have := hO.same (hb.block _ hO.lt)
    exact ⟨this.cell 1, this.cell 2, this.cell 3, this.cell 4⟩)
  have q1 : (s.n : Int) ≤ (cap : Int) := by omega
  have q2 : (0 : Int) ≤ (s.n : Int) := by omega
  by_cases h1 : s.n = s.row.length
  · have hd : s.drawn = false := by
      cases hd : s.drawn with
      | true => have := hs.drawn hd; omega
      | false => rfl
    have hm : s.mine = 0 := hs.mine hd
    rw [decide_eq_true h1] at hAl hRa
    rw [show nextK s = 0 by unfold nextK; rw [if_pos h1], show nextT s = 0 by unfold nextT; rw [if_pos h1], show nextD s = false by unfold nextD; rw [if_pos h1]] at hNx
    rw [hm, hd, show ((0 : Nat) : Int) = 0 from rfl] at hcl
    have hAlH := hid hAl
    have hRaH := hid hRa
    clear h k hs hO hR hd hm h1 hle hf hAl hRa
    go_enter Try.func21, Try.ntmps21
    go_wp2_with (fail)
    refine hNx.mono ?_
    rintro e w1 ⟨rfl, n1, hw1⟩
    have b1 : Below w.heap.size w w1 := by rw [hw1]; exact bl0 w n1
    clear hw1 hNx
    go_wp2_with (fail)
    refine (hRaH.out _ b1).mono ?_
    rintro e w2 ⟨rfl, b2⟩
    obtain ⟨c1, c2, c3, c4⟩ := hcl.out _ b2
    have b2d : Below w.heap.size w w2.drew := bln b2 1
    clear b1
    go_wp2_with (fail)
    go_region_held3 (fun W' : World => W'.cell? ⟨r, 1, none⟩ = some (.slice A s.row.length cap) ∧ W'.cell? ⟨r, 2, none⟩ = some (.int .i64 (s.n : Int)) ∧ W'.cell? ⟨r, 3, none⟩ = some (.int .u16 0) ∧ W'.cell? ⟨r, 4, none⟩ = some (.bool false)) (first | (refine ⟨?_, ?_, ?_, ?_⟩ <;> assumption) | go_keep) (first
      | (go_at_call 11; refine (hAlH.out _ b2d).mono ?_; rintro e w3 ⟨rfl, b3⟩; obtain ⟨d1, d2, d3, d4⟩ := hcl.out _ b3)
      | (go_at_call 36; refine (hRaH.out _ b3).mono ?_; rintro e w4 ⟨rfl, b4⟩; obtain ⟨e1, e2, e3, e4⟩ := hcl.out _ b4)
      | (go_at_call 23; refine (hHe.out _ b4).mono ?_; rintro e w5 ⟨A', c', rfl, hR5, b5⟩; obtain ⟨i1, i2, i3, i4⟩ := hcl.out _ b5)
      | (go_at_call 22; refine (hSa.out _ _ _ hR5 b5).mono ?_; rintro e w6 ⟨rfl, b6⟩; obtain ⟨j1, j2, j3, j4⟩ := hcl.out _ b6))
    go_wp2_with (fail)
    go_ret
    exact ⟨rfl, b6⟩
  · rw [decide_eq_false h1] at hAl hRa
    rw [show nextK s = s.row.getD s.n 0 by unfold nextK; rw [if_neg h1], show nextT s = s.mine by unfold nextT; rw [if_neg h1], show nextD s = s.drawn by unfold nextD; rw [if_neg h1]] at hNx
    have hlt : s.n < s.row.length := by omega
    have hlt1 : (s.n : Int) < (s.row.length : Int) := by omega
    have hrw := hid (show ∃ rb ro, A = some ⟨rb, ro, none⟩ ∧ ∀ W, Below w.heap.size w W → W.cell? ⟨rb, ro + s.n, none⟩ = some (.int .i64 (s.row.getD s.n 0)) from by
      obtain ⟨rb, ro, rfl, hrl, hrc⟩ := lock_cell hR hlt
      exact ⟨rb, ro, rfl, fun W hb => by rw [← hrc]; exact cell_same (hb.block _ hrl)⟩)
    have hAlH := hid hAl
    have hRaH := hid hRa
    clear h k hs hO hR h1 hle hf hAl hRa
    obtain ⟨rb, ro, rfl, hrc⟩ := hrw.out
    have hrcH := hid hrc
    clear hrw hrc hlt
    generalize s.row.getD s.n 0 = kk at *
    go_enter Try.func21, Try.ntmps21
    go_wp2_with (fail)
    refine hNx.mono ?_
    rintro e w1 ⟨rfl, n1, hw1⟩
    have b1 : Below w.heap.size w w1 := by rw [hw1]; exact bl0 w n1
    clear hw1 hNx
    go_wp2_with (fail)
    refine (hRaH.out _ b1).mono ?_
    rintro e w2x ⟨rfl, b2x⟩
    obtain ⟨c1, c2, c3, c4⟩ := hcl.out _ b2x
    have c5 := hrcH.out _ b2x
    go_wp2_with (go_quiet (fail))
    obtain ⟨w2, hw2⟩ : ∃ w2, w2 = w2x.drewN nq := ⟨_, rfl⟩
    rw [← hw2]
    have b2 : Below w.heap.size w w2 := by rw [hw2]; exact bln b2x nq
    clear hw2 b2x c1 c2 c3 c4 c5
    obtain ⟨c1, c2, c3, c4⟩ := hcl.out _ b2
    have b2d : Below w.heap.size w w2.drew := bln b2 1
    clear b1
    go_wp2_with (fail)
    go_region_held3 (fun W' : World => W'.cell? ⟨r, 1, none⟩ = some (.slice (some ⟨rb, ro, none⟩) s.row.length cap) ∧ W'.cell? ⟨r, 2, none⟩ = some (.int .i64 (s.n : Int)) ∧ W'.cell? ⟨r, 3, none⟩ = some (.int .u16 (s.mine : Int)) ∧ W'.cell? ⟨r, 4, none⟩ = some (.bool s.drawn)) (first | (refine ⟨?_, ?_, ?_, ?_⟩ <;> assumption) | go_keep) (first
      | (go_at_call 11; refine (hAlH.out _ b2d).mono ?_; rintro e w3 ⟨rfl, b3⟩; obtain ⟨d1, d2, d3, d4⟩ := hcl.out _ b3)
      | (go_at_call 36; refine (hRaH.out _ b3).mono ?_; rintro e w4 ⟨rfl, b4⟩; obtain ⟨e1, e2, e3, e4⟩ := hcl.out _ b4)
      | (go_at_call 23; refine (hHe.out _ b4).mono ?_; rintro e w5 ⟨A', c', rfl, hR5, b5⟩; obtain ⟨i1, i2, i3, i4⟩ := hcl.out _ b5)
      | (go_at_call 22; refine (hSa.out _ _ _ hR5 b5).mono ?_; rintro e w6 ⟨rfl, b6⟩; obtain ⟨j1, j2, j3, j4⟩ := hcl.out _ b6))
    go_wp2_with (fail)
    go_ret
    exact ⟨rfl, b6⟩
end
end Go.Proofs.Ytabcodjalacdjab.GuardPlays
