
/- mchan: Buffer, and how long a row is. -/
import Derived.Test.YtabcodjalacdjaaMchanWait
import Derived.Test.YtabcodjalacdjaaRingList
namespace Go.Proofs.Ytabcodjalacdjaa.MchanCode
open Go Go.RowKit Go.Proofs.Ytabcodjalacdjaa.Obj Go.Proofs.Ytabcodjalacdjaa.RingCode Go.Proofs.YtabcodjalacdjaaW.PrintWords Go.Proofs.YtabcodjalacdjaaW.PrintLast Go.Proofs.YtabcodjalacdjaaW.PrintMore
set_option linter.unusedVariables false
set_option linter.unusedSimpArgs false
set_option maxRecDepth 100000
section
variable {lo : Nat} {w w' : World} {c most : Nat} {Bf : List Int} {R0 R1 : List Wt}
set_option maxHeartbeats 2000000 in
theorem buf_at (h : ChAt lo w c most Bf R0 R1) : Calls Try.prog 18 #[.pointer (some ⟨c, 0, none⟩)] w fun e w' => ∃ A cap, e = .returned (.slice A Bf.length cap) ∧ Below w.heap.size w w' := by
  obtain ⟨r, v0, v1, hO, hr, hR, h0, h1, _⟩ := h.obj
  have hL := RingCode.list_nums hR
  have g0 : w.cell? ⟨c, 0, none⟩ = some (.pointer (some ⟨r, 0, none⟩)) := hO.cell 0
  clear h hO hR h0 h1
  go_enter Try.func18, Try.ntmps18
  go_wp2_with (fail)
  refine hL.mono ?_
  rintro e w1 ⟨A, cp, rfl, _, hb⟩
  clear hL
  go_wp2_with (fail)
  go_ret
  exact ⟨_, _, rfl, hb⟩
theorem rowlen_at (h : ChAt lo w c most Bf R0 R1) (b : Bool) : Calls Try.prog 19 #[.pointer (some ⟨c, 0, none⟩), .bool b] w fun e w' => ∃ A cap, e = .returned (.slice A (if b then R1 else R0).length cap) ∧ Below w.heap.size w w' := by
  obtain ⟨A, cap, hSe⟩ := h.sees b
  refine (row_at hSe).mono ?_
  rintro e w1 ⟨v, rfl, hrow, hb⟩
  obtain ⟨A1, c1, rfl⟩ := own_form hrow
  exact ⟨_, _, rfl, hb⟩
end
end Go.Proofs.Ytabcodjalacdjaa.MchanCode
