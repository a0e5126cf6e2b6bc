
/- guard's law: made, locks. -/
import Derived.Test.YtabcodjalacdjabGuardHeld
import Derived.Test.YtabcodjalacdjabTicketFree
import Derived.Test.YtabcodjalacdjabGuardLocks
namespace Go.Proofs.Ytabcodjalacdjab.GuardCode
open Go Go.RowKit Go.Proofs.Ytabcodjalacdjab.Obj Go.Proofs.Ytabcodjalacdjab.Row Go.Proofs.Ytabcodjalacdjab.CellCode Go.Proofs.Ytabcodjalacdjab.TicketCode Go.Proofs.YtabcodjalacdjabW.PrintWords Go.Proofs.YtabcodjalacdjabW.PrintMore
set_option linter.unusedVariables false
set_option maxRecDepth 100000
section
variable {w w' : World} {g x c lb : Nat} {s : Gs} {L : List Nat} {N : Nat} {A : Option Addr} {r : List Int}
theorem made_at (w : World) : Calls Try.prog 7 #[] w fun e w' => e = .returned (.tuple #[.pointer (some ⟨w.heap.size + 1, 0, none⟩), .pointer (some ⟨w.heap.size + 2, 0, none⟩)]) ∧ TAt w' (w.heap.size + 2) (w.heap.size + 1) w.heap.size (List.replicate 20 0) 0 ∧ Below w.heap.size w w' ∧ w'.heap.size = w.heap.size + 3 := by
  have hC := CellCode.new_at w
  go_enter Try.func7, Try.ntmps7
  go_wp2_with (fail)
  refine hC.mono ?_
  rintro e w1 ⟨rfl, hc, hb, hz⟩
  have hT := TicketCode.new_at hc (by simp)
  rw [hz] at hT
  clear hC
  go_wp2_with (fail)
  refine hT.mono ?_
  rintro e w2 ⟨rfl, ht, hb2, hz2⟩
  clear hT hc
  go_wp2_with (fail)
  go_ret2
  exact ⟨rfl, ht, hb.trans (hb2.mono (by omega)), by omega⟩
theorem new_nil (w : World) : Calls Try.prog 8 #[.pointer none] w fun e w' => e = .returned (.tuple #[.pointer none, .int .i64 1]) ∧ w' = w := by
  go_enter Try.func8, Try.ntmps8
  go_wp2_with (fail)
  go_ret2
  exact ⟨rfl, rfl⟩
theorem slM_of_own {base m cap : Nat} (h : w.ownsRow base 3 1 (.slice A m cap) r.length (nums .i64 r)) (hr : r.length ≤ 1000) : SlM w A cap r ∧ m = r.length := by
  obtain ⟨h1, h2, h3⟩ := rowM_of_own h
  refine ⟨⟨h1, fun e => ?_, h3, hr⟩, h2⟩
  rcases own_cases h with ⟨_, e1, e2⟩ | ⟨gb, e1, _⟩
  · exact ⟨List.length_eq_zero_iff.mp e1, e2⟩
  · rw [e] at e1; cases e1
end
end Go.Proofs.Ytabcodjalacdjab.GuardCode
