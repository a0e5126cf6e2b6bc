
/- What BoundRises's and BoundFair's alive shows. -/
import Derived.Test.YtabcodjalacdjacBoundPicks
import Derived.Test.YtabcodjalacdjacBoundOf
namespace Go.Proofs.Ytabcodjalacdjac.BoundCode
open Go Go.RowKit Go.Proofs.Ytabcodjalacdjac.Obj Go.Proofs.Ytabcodjalacdjac.Row Go.Proofs.Ytabcodjalacdjac.BoundPure Go.Proofs.Ytabcodjalacdjac.BoundGap Go.Proofs.YtabcodjalacdjacW.PrintWords Go.Proofs.YtabcodjalacdjacW.PrintMore
set_option linter.unusedVariables false
set_option maxRecDepth 100000
def zA : Sz := ⟨1, 1, 1, 0, 1, 1⟩
def z0 : Sz := ⟨0, 0, 0, 0, 0, 0⟩
theorem may_A : May zA := by decide
theorem may_0 : ¬ May z0 := by decide
theorem of_A : ofV zA = 544 := by decide
theorem hold_A : holdV zA = 56 := by decide
def s4 : ByteArray := { data := #[0, 1, 0, 1] }
def s3 : ByteArray := { data := #[0, 0, 1] }
theorem fair_A : fairV (rs s4 2) s4.size 2 2 = true := by decide
theorem win_A : windowV (rs s3 2) s3.size 2 = 3 := by decide
theorem round_A : roundV 2 3 = { data := #[0, 1, 0] } := by decide
set_option maxHeartbeats 8000000 in
theorem alive_at (w : World) : Calls Try.prog 6 #[] w fun e w' => e = .returned (.bool true) ∧ Below w.heap.size w w' := by
  have hb0 : Below w.heap.size w (w.alloc (.cells (szs zA).toArray 23)) := (Below.refl _ _).alloc (Nat.le_refl _) _
  have hB0 : Blk (w.alloc (.cells (szs zA).toArray 23)) w.heap.size 23 (szs zA) := Blk.new w _ _
  go_enter Try.func6, Try.ntmps6
  go_wp2_with (fail)
  have hO := of_yes zA (w.alloc (.cells (szs zA).toArray 23)) may_A
  rw [of_A] at hO
  refine hO.mono ?_
  rintro e w1 ⟨rfl, hb1⟩
  have k1 := hb0.trans (hb1.mono hb0.size)
  have hB1 := hB0.same (hb1.block _ hB0.lt)
  clear hO hB0 hb0 hb1
  have hH := hold_yes zA w1 may_A
  rw [hold_A] at hH
  obtain ⟨c0, c1, c2, c3, c4, c5⟩ := zc_of hB1
  go_wp2_with (fail)
  refine hH.mono ?_
  rintro e w2 ⟨rfl, hb2⟩
  have k2 := k1.trans (hb2.mono k1.size)
  have hB2 := hB1.same (hb2.block _ hB1.lt)
  clear hH hB1 k1 hb2 c0 c1 c2 c3 c4 c5
  have hL := lock_no zA w2 0 (by decide)
  obtain ⟨c0, c1, c2, c3, c4, c5⟩ := zc_of hB2
  go_wp2_with (fail)
  refine hL.mono ?_
  rintro e w3 ⟨rfl, hb3⟩
  have k3 := k2.trans (hb3.mono k2.size)
  clear hL hB2 k2 hb3 c0 c1 c2 c3 c4 c5
  go_wp2_with (fail)
  refine (of_no z0 w3 may_0).mono ?_
  rintro e w4 ⟨rfl, hb4⟩
  have k4 := k3.trans (hb4.mono k3.size)
  clear k3 hb4
  have hF := fair_at s4 2 2 (by decide) w4
  rw [show (2 : Int).toNat = 2 from rfl, fair_A] at hF
  go_wp2_with (fail)
  refine hF.mono ?_
  rintro e w5 ⟨rfl, hb5⟩
  have k5 := k4.trans (hb5.mono k4.size)
  clear k4 hb5 hF
  have hW := window_at s3 2 (by decide) w5
  rw [show (2 : Int).toNat = 2 from rfl, win_A] at hW
  go_wp2_with (fail)
  refine hW.mono ?_
  rintro e w6 ⟨rfl, hb6⟩
  have k6 := k5.trans (hb6.mono k5.size)
  clear k5 hb6 hW
  have hR := round_at 2 3 (.inl (by decide)) w6
  rw [round_A] at hR
  go_wp2_with (fail)
  refine hR.mono ?_
  rintro e w7 ⟨rfl, hb7⟩
  have k7 := k6.trans (hb7.mono k6.size)
  clear k6 hb7 hR
  go_wp2_with (fail)
  go_ret
  exact ⟨rfl, k7⟩
end Go.Proofs.Ytabcodjalacdjac.BoundCode
