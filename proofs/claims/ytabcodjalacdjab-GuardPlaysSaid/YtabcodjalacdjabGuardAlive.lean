
/- guard's law: alive. -/
import Derived.Test.YtabcodjalacdjabGuardAlone
namespace Go.Proofs.Ytabcodjalacdjab.GuardCode
open Go Go.RowKit Go.Proofs.Ytabcodjalacdjab.Obj Go.Proofs.Ytabcodjalacdjab.Row Go.Proofs.Ytabcodjalacdjab.CellCode Go.Proofs.Ytabcodjalacdjab.TicketCode Go.Proofs.YtabcodjalacdjabW.PrintWords Go.Proofs.YtabcodjalacdjabW.PrintMore
set_option linter.unusedVariables false
set_option maxRecDepth 100000
section
variable {w w' : World} {g x c lb : Nat} {s : Gs} {L : List Nat} {N : Nat} {A : Option Addr} {r D G : List Int}
/-- A guard that wants a row, behind Want. -/
theorem want_alone {cap : Nat} (h : GAt w g x ⟨[], 0, 0, false⟩) (T : TAt w x c lb (List.replicate 20 0) 0) (hS : SlM w A cap r) (hr : Rise r) :
    Calls Try.prog 9 #[.pointer (some ⟨g, 0, none⟩), .slice A r.length cap] w fun e w' => e = .returned (.int .i64 0) ∧ Al w' g x c lb r 0 ∧ Only (· = g) w w' := by
  have hb : Both w g x c lb ⟨[], 0, 0, false⟩ (List.replicate 20 0) 0 := ⟨h, T⟩
  obtain ⟨n1, n2, n3⟩ := hb.ne
  refine (want_at h T hS hr rfl rfl rfl).mono ?_
  rintro e w' ⟨rfl, h1, h2⟩
  exact ⟨rfl, ⟨List.replicate 20 0, ⟨h1, T.only h2 (Ne.symm n2) (Ne.symm n3) (Ne.symm n1)⟩, sm0, by rw [show (0 + 1) / 2 = 0 from rfl, List.take_zero]; exact PL.zero⟩, h2⟩
theorem Al.all {i : Nat} (h : Al w g x c lb r i) : GAt w g x ⟨r, i / 2, 0, i % 2 == 1⟩ := by obtain ⟨L, h1, _⟩ := h; exact h1.g
theorem Bl.all {j : Nat} (h : Bl w g x c lb r j N) : GAt w g x ⟨r.take j, j, 0, false⟩ := by obtain ⟨L, h1, _⟩ := h; exact h1.g
/-- Two numbers in a slice of their own. -/
theorem two_at (w : World) (a b : Int) : SlM (w.alloc (.cells #[.int .i64 a, .int .i64 b] 3)) (some ⟨w.heap.size, 0, none⟩) 2 [a, b] := by
  have hB := Blk.new w 3 [.int .i64 a, .int .i64 b]
  refine ⟨⟨⟨fun i hi => ?_⟩, fun y hy => ?_⟩, fun e => (by cases e), Nat.le_refl _, by simp⟩
  · refine ⟨_, rfl, ?_⟩
    rw [addr_add0]
    match i, hi with
    | 0, _ => exact hB.cell 0
    | 1, _ => exact hB.cell 1
  · cases hy; exact ⟨_, hB⟩
theorem rise02 : Rise [0, 2] := by
  intro i hi
  match i, hi with
  | 0, _ => decide
  | 1, _ => decide
set_option maxHeartbeats 4000000 in
theorem alive_at (w : World) : Calls Try.prog 6 #[] w fun e w' => e = .returned (.bool true) ∧ Below w.heap.size w w' := by
  have hMade := made_at w
  obtain ⟨B, hBw⟩ : ∃ B, B = w.heap.size := ⟨_, rfl⟩
  rw [← hBw] at hMade ⊢
  have hBH := hid hBw
  clear hBw
  go_enter Try.func6, Try.ntmps6
  go_wp2_with (fail)
  refine hMade.mono ?_
  rintro e w1 ⟨rfl, hT, hb1, hz1⟩
  have hNew := GuardCode.new_at (B + 2) w1
  rw [hz1] at hNew
  clear hMade
  go_wp2_with (fail)
  refine hNew.mono ?_
  rintro e w2 ⟨rfl, hG, hb2, hz2⟩
  have hT2 := hT.below (by rw [hz1]; exact hb2)
  have hb := hb1.trans (hb2.mono (by omega))
  have hNil := new_nil w2
  clear hNew hT hb1 hb2
  go_wp2_with (fail)
  refine hNil.mono ?_
  rintro e w3 ⟨rfl, hw3⟩
  obtain rfl : w2 = w3 := hw3.symm
  clear hNil hw3
  have hba := (Below.refl _ w2).alloc (Nat.le_refl _) (.cells #[.int .i64 0, .int .i64 2] 3)
  have hWant := want_alone (hG.below hba) (hT2.below hba) (two_at w2 0 2) rise02
  have e2 : ([0, 2] : List Int).length = 2 := rfl
  rw [e2, hz2] at hWant
  clear e2
  have hb4 := hb.alloc (by omega) (.cells #[.int .i64 0, .int .i64 2] 3)
  clear hG hT2 hb hba
  go_wp2_with (fail)
  refine hWant.mono ?_
  rintro e w4 ⟨rfl, hA, o4⟩
  have hb5 := o4.below hb4 (by simp; omega) (fun k _ hk => by omega)
  clear hWant hb4 o4
  go_wp2_with (fail)
  go_loopg [4, 7, 8] 4 (fun kq v4 v7 v8 w' => ∃ i : Nat, kq + i = 4 ∧ v8 = .int .i64 (i : Int) ∧ v7 = .bool (decide (i = 4)) ∧ v4 = .int .i64 0 ∧ Al w' (B + 3) (B + 2) (B + 1) B [0, 2] i ∧ Below B w w')
  case atStart => exact ⟨0, rfl, rfl, rfl, rfl, hA, hb5⟩
  case round =>
    clear hA hb5
    obtain ⟨i, hi, rfl, rfl, rfl, hA, hb5⟩ := hrel
    cases gk with
    | zero =>
      have hin : ¬ ((i : Int) < 4) := by omega
      obtain rfl : i = 4 := by omega
      have hGv := alone_give (j := 1) (hA.done rfl) rise02 (by decide) (by decide)
      have dt : decide ((4 : Nat) = 4) = true := rfl
      rw [dt]
      clear dt hA
      go_wp2_with (fail)
      refine hGv.mono ?_
      rintro e w5 ⟨rfl, hA, o5⟩
      have hb6 := o5.below hb5 (by have := hBH.out; have := hb5.size; omega) (fun k _ hk => by rcases hk with h | h | h <;> omega)
      clear hGv hb5 o5
      have hGv := alone_give (j := 0) hA rise02 (by decide) (by decide)
      clear hA
      go_wp2_with (fail)
      refine hGv.mono ?_
      rintro e w6 ⟨rfl, hA, o5⟩
      have hb7 := o5.below hb6 (by have := hBH.out; have := hb6.size; omega) (fun k _ hk => by rcases hk with h | h | h <;> omega)
      clear hGv hb6 o5
      have hGv := give_none hA.all rfl
      go_wp2_with (fail)
      refine hGv.mono ?_
      rintro e w7 ⟨rfl, hb⟩
      have hAll := all_at (hA.all.below hb)
      have et : ∀ a b : List Int, decide ((Gs.mk (List.take 0 a) 0 0 false).n = (Gs.mk (List.take 0 a) 0 0 false).row.length) = true := fun a b => rfl
      rw [et _ []] at hAll
      clear et
      have hb8 := hb7.trans (hb.mono (by have := hBH.out; have := hb7.size; omega))
      clear hGv hb7 hb hA
      go_wp2_with (fail)
      refine hAll.mono ?_
      rintro e w8 ⟨rfl, n8, rfl⟩
      clear hAll
      go_wp2_with (fail)
      go_ret
      exact ⟨rfl, ⟨hb8.os, hb8.tape, hb8.output, hb8.size, hb8.block⟩⟩
    | succ k1 =>
      have hin : ((i : Int) < 4) := by omega
      have hSt := alone_step hA rise02 (by show i < 4; omega) (by omega)
      have e4 : decide (i + 1 = 2 * ([0, 2] : List Int).length) = decide (i + 1 = 4) := rfl
      rw [e4] at hSt
      have hne : decide (i = 4) = false := decide_eq_false (by omega)
      rw [hne]
      clear e4 hne hA
      go_wp2_with (fail)
      refine hSt.mono ?_
      rintro e w5 ⟨rfl, hA, o5⟩
      have hb6 := o5.below hb5 (by have := hBH.out; have := hb5.size; omega) (fun k _ hk => by rcases hk with h | h | h <;> omega)
      clear hSt hb5 o5
      go_wp2_with (fail)
      go_roundg k1
      case measure => omega
      case rel => exact ⟨i + 1, by omega, by first | rfl | (congr 1; omega), by rw [Value.bool.injEq, decide_eq_decide]; omega, rfl, hA, hb6⟩
end
end Go.Proofs.Ytabcodjalacdjab.GuardCode
