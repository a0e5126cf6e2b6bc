
/- slices.Clone of a row of numbers that begins anywhere. -/
import Derived.Test.YtabcodjalacdjabRow
import Derived.Test.YtabcodjalacdjabIter
import Derived.BigQuiet
namespace Go.Proofs.Ytabcodjalacdjab.GuardClone
open Go Go.RowKit Go.Proofs.Ytabcodjalacdjab.Obj Go.Proofs.Ytabcodjalacdjab.Row Go.Proofs.YtabcodjalacdjabW.PrintWords Go.Proofs.YtabcodjalacdjabW.PrintMore
set_option linter.unusedVariables false
set_option maxRecDepth 100000
theorem info2 : (Try.prog.info? 3).map (fun i => (i.zero, i.size, i.bytes)) = some (some (.int .i64 0), 1, 8) := by kernel_rfl
set_option maxHeartbeats 1000000 in
theorem clone_some {w : World} {a : Addr} {cap : Nat} {r : List Int} (hN : Nums w .i64 (some a) r) (hl : r.length ≤ 1000) : Calls Try.prog 28 #[.slice (some a) r.length cap] w fun e w' => ∃ v, e = .returned v ∧ w'.ownsRow w.heap.size 3 1 v r.length (nums .i64 r) ∧ Below w.heap.size w w' := by
  have hEq : (binOp .eql 34 (.slice (some a) r.length cap) (.slice none 0 0)).run Try.prog w = .ok (.bool false) w := by kernel_rfl
  have hO : (w.alloc (.cells #[] 3)).ownsRow w.heap.size 3 1 (.slice (some ⟨w.heap.size, 0, none⟩) 0 0) ([] : List Int).length (nums .i64 []) :=
    ⟨rfl, .inr ⟨w.heap.size, 0, #[], rfl, Nat.le_refl _, heap_alloc_new w _, Nat.le_refl _, Nat.zero_le _, rfl, rfl⟩⟩
  have hb0 : Below w.heap.size w (w.alloc (.cells #[] 3)) := (Below.refl _ _).alloc (Nat.le_refl _) _
  have hRd : ReadsInt (w.alloc (.cells #[] 3)) .i64 (some a) r.length r := by
    refine ⟨rfl, by omega, fun h0 => ⟨a, rfl, fun j hj => ?_⟩⟩
    obtain ⟨y, hy, hc⟩ := (hN.below hb0).cell j hj
    cases hy
    obtain ⟨b, o, e, _⟩ := hN.at j hj
    cases e
    exact hc
  have hm3 : w.heap.size ≤ (w.alloc (.cells #[] 3)).heap.size := by simp
  go_enter Try.func28, Try.ntmps28
  go_wp2_with (first | ((with_reducible refine gate_builtin (b := .append) (xs := #[.tmp 5, .tmp 6]) rfl ?_); at_builtin; go_loud (refine print_append_row (w0 := w) w.heap.size rfl (.tmp 5) (.tmp 6) 34 3 .i64 8 rfl Try.underlying34 info2 (by decide) (.slice (some ⟨w.heap.size, 0, none⟩) 0 0) [] r (some a) r.length cap rfl rfl hO hRd hb0 hm3 (by simp; omega) ?_); intro v1 w1 ho hb hgr hat))
  go_ret
  exact ⟨_, rfl, ho, hb⟩
theorem clone_nil (w : World) (c : Nat) : Calls Try.prog 28 #[.slice none 0 c] w fun e w' => e = .returned (.slice none 0 0) ∧ w' = w := by
  have hEq : (binOp .eql 34 (.slice none 0 c) (.slice none 0 0)).run Try.prog w = .ok (.bool true) w := by kernel_rfl
  go_enter Try.func28, Try.ntmps28
  go_wp2
  go_ret
  exact ⟨rfl, rfl⟩
end Go.Proofs.Ytabcodjalacdjab.GuardClone
