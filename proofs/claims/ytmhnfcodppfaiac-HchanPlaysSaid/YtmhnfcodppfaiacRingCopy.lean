
/- ring.Copy makes another ring, that is the same; what no ring answers. -/
import Derived.Test.YtmhnfcodppfaiacRingList
namespace Go.Proofs.Ytmhnfcodppfaiac.RingCode
open Go Go.RowKit Go.Proofs.Ytmhnfcodppfaiac.Obj
set_option maxRecDepth 100000
set_option linter.unusedVariables false
theorem copy_raw (p : Nat) (a0 a1 a2 a3 a4 a5 a6 a7 m f n : Int) (w : World)
    (c0 : w.cell? ⟨p, 0, none⟩ = some (.int .i64 a0)) (c1 : w.cell? ⟨p, 1, none⟩ = some (.int .i64 a1)) (c2 : w.cell? ⟨p, 2, none⟩ = some (.int .i64 a2)) (c3 : w.cell? ⟨p, 3, none⟩ = some (.int .i64 a3)) (c4 : w.cell? ⟨p, 4, none⟩ = some (.int .i64 a4)) (c5 : w.cell? ⟨p, 5, none⟩ = some (.int .i64 a5)) (c6 : w.cell? ⟨p, 6, none⟩ = some (.int .i64 a6)) (c7 : w.cell? ⟨p, 7, none⟩ = some (.int .i64 a7)) (c8 : w.cell? ⟨p, 8, none⟩ = some (.int .i64 m)) (c9 : w.cell? ⟨p, 9, none⟩ = some (.int .i64 f)) (c10 : w.cell? ⟨p, 10, none⟩ = some (.int .i64 n)) :
    Calls Try.prog 38 #[.pointer (some ⟨p,0,none⟩)] w fun e w' => e = .returned (.pointer (some ⟨w.heap.size, 0, none⟩)) ∧ w' = w.alloc (.cells #[.int .i64 a0, .int .i64 a1, .int .i64 a2, .int .i64 a3, .int .i64 a4, .int .i64 a5, .int .i64 a6, .int .i64 a7, .int .i64 m, .int .i64 f, .int .i64 n] 83) := by
  go_enter Try.func38, Try.ntmps38
  go_wp2
  go_ret
  exact ⟨rfl, rfl⟩
theorem copy_at {w : World} {p most : Nat} {L : List Int} (h : RingAt w p most L) : Calls Try.prog 38 #[.pointer (some ⟨p,0,none⟩)] w fun e w' => e = .returned (.pointer (some ⟨w.heap.size, 0, none⟩)) ∧ RingAt w' w.heap.size most L ∧ Only (fun _ => False) w w' ∧ w.heap.size < w'.heap.size := by
  obtain ⟨A, fr, h1, h2⟩ := h
  obtain ⟨c8, c9, c10⟩ := rc8 h1 h2.len
  have hl := h2.len
  match A, hl, h1, h2, c8, c9, c10 with
  | [a0, a1, a2, a3, a4, a5, a6, a7], _, h1, h2, c8, c9, c10 =>
    refine (copy_raw p a0 a1 a2 a3 a4 a5 a6 a7 most fr L.length w (rcA h1 0 _ rfl) (rcA h1 1 _ rfl) (rcA h1 2 _ rfl) (rcA h1 3 _ rfl) (rcA h1 4 _ rfl) (rcA h1 5 _ rfl) (rcA h1 6 _ rfl) (rcA h1 7 _ rfl) c8 c9 c10).mono ?_
    rintro e w' ⟨rfl, rfl⟩
    exact ⟨rfl, ⟨[a0, a1, a2, a3, a4, a5, a6, a7], fr, Blk.new w 83 (ringCells [a0, a1, a2, a3, a4, a5, a6, a7] most fr L.length), h2⟩, Only.alloc _ _ _, by simp⟩
theorem put_nil (v : Int) (w : World) : Calls Try.prog 41 #[.pointer none, .int .i64 v] w fun e w' => e = .returned (.int .i64 1) ∧ w' = w := by
  go_enter Try.func41, Try.ntmps41
  go_wp2
  go_ret
  exact ⟨rfl, rfl⟩
theorem take_nil (w : World) : Calls Try.prog 55 #[.pointer none] w fun e w' => e = .returned (.tuple #[.int .i64 0, .int .i64 1]) ∧ w' = w := by
  go_enter Try.func55, Try.ntmps55
  go_wp2
  go_ret2
  exact ⟨rfl, rfl⟩
theorem swap_nil (v : Int) (w : World) : Calls Try.prog 56 #[.pointer none, .int .i64 v] w fun e w' => e = .returned (.tuple #[.int .i64 0, .int .i64 1]) ∧ w' = w := by
  go_enter Try.func56, Try.ntmps56
  go_wp2
  go_ret2
  exact ⟨rfl, rfl⟩
theorem front_nil (w : World) : Calls Try.prog 58 #[.pointer none] w fun e w' => e = .returned (.tuple #[.int .i64 0, .bool false]) ∧ w' = w := by
  go_enter Try.func58, Try.ntmps58
  go_wp2
  go_ret2
  exact ⟨rfl, rfl⟩
theorem len_nil (w : World) : Calls Try.prog 59 #[.pointer none] w fun e w' => e = .returned (.int .i64 0) ∧ w' = w := by
  go_enter Try.func59, Try.ntmps59
  go_wp2
  go_ret
  exact ⟨rfl, rfl⟩
theorem cap_nil (w : World) : Calls Try.prog 51 #[.pointer none] w fun e w' => e = .returned (.int .i64 0) ∧ w' = w := by
  go_enter Try.func51, Try.ntmps51
  go_wp2
  go_ret
  exact ⟨rfl, rfl⟩
theorem copy_nil (w : World) : Calls Try.prog 38 #[.pointer none] w fun e w' => e = .returned (.pointer none) ∧ w' = w := by
  go_enter Try.func38, Try.ntmps38
  go_wp2
  go_ret
  exact ⟨rfl, rfl⟩
theorem list_nil (w : World) : Calls Try.prog 35 #[.pointer none] w fun e w' => e = .returned (.slice none 0 0) ∧ Below w.heap.size w w' := by
  go_enter Try.func35, Try.ntmps35
  go_wp2
  refine bodyPost_ret (v := .slice none 0 0) (by simp [results, Try.f35, go_sem]) rfl ?_
  exact ⟨rfl, ((Below.refl _ w).alloc (Nat.le_refl _) _)⟩
end Go.Proofs.Ytmhnfcodppfaiac.RingCode
