
/- list.Copy makes another queue, that is the same; what no queue answers. -/
import Derived.Shelf.Lay
import Derived.Shelf.SlMaps.Clone
import Derived.Test.YtmhnfcodppfaiacListWalk
import Derived.Test.YtmhnfcodppfaiacListNil
namespace Go.Proofs.Ytmhnfcodppfaiac.ListCode
open Go Go.RowKit Go.Shelf Go.Proofs.Ytmhnfcodppfaiac.Obj Go.Proofs.Ytmhnfcodppfaiac.ListPure
set_option linter.unusedVariables false
set_option maxRecDepth 100000
shelf_lay_g SlLaysW.n5 Slmc 5 at Try 60 as laidClone
section
variable {w w' : World} {p b : Nat} {L : List Int}
theorem clone_map (h : LsAt w p b L) : Calls Try.prog 60 #[.map (some b)] w fun e w' => e = .returned (.map (some w.heap.size)) ∧ MapIs w' w.heap.size (lnk L) L.length ∧ Below w.heap.size w w' := by
  obtain ⟨D, h1, h2, h3⟩ := h.map
  have hcon := AnyW.maps_Clone_owns laidClone 3 nodeR b _ D w h1
  refine hcon.mono ?_
  rintro e w' ⟨rfl, k1, _, hB⟩
  exact ⟨rfl, ⟨D, k1, h2, h3⟩, hB⟩
set_option maxHeartbeats 2000000 in
theorem copy_at (h : LsAt w p b L) : Calls Try.prog 39 #[.pointer (some ⟨p, 0, none⟩)] w fun e w' => (∃ p2 b2, e = .returned (.pointer (some ⟨p2, 0, none⟩)) ∧ LsAt w' p2 b2 L ∧ w.heap.size ≤ p2 ∧ w.heap.size ≤ b2) ∧ Only (fun _ => False) w w' := by
  obtain ⟨c0, c1, c2⟩ := h.cells
  have hC := clone_map h.drew
  have hpl := h.lt.1
  have hH := hid h
  have d0 : w.drew.cell? ⟨p, 0, none⟩ = some (.map (some b)) := c0
  have d1 : w.drew.cell? ⟨p, 1, none⟩ = some (.int .i64 (hd (-1) L)) := c1
  have d2 : w.drew.cell? ⟨p, 2, none⟩ = some (.int .i64 (lst (-1) L)) := c2
  clear h
  go_enter Try.func39, Try.ntmps39
  go_wp2_with (fail)
  go_region_held3 (fun w' : World => w'.cell? ⟨p, 0, none⟩ = some (.map (some b)) ∧ w'.cell? ⟨p, 1, none⟩ = some (.int .i64 (hd (-1) L)) ∧ w'.cell? ⟨p, 2, none⟩ = some (.int .i64 (lst (-1) L))) (first | (refine ⟨?_, ?_, ?_⟩ <;> assumption) | go_keep) (first | (go_at_call 60; refine hC.mono ?_; rintro e w2 ⟨rfl, hM2, hB2⟩; have hz := hB2.block p hpl; have e0 : w2.cell? ⟨p, 0, none⟩ = some (.map (some b)) := (by rw [← c0]; exact cell_same hz); have e1 : w2.cell? ⟨p, 1, none⟩ = some (.int .i64 (hd (-1) L)) := (by rw [← c1]; exact cell_same hz); have e2 : w2.cell? ⟨p, 2, none⟩ = some (.int .i64 (lst (-1) L)) := (by rw [← c2]; exact cell_same hz)) | fail)
  all_goals go_wp2
  all_goals go_ret
  all_goals
    have hN := hM2.same (w' := w2.alloc (.cells #[.map (some w.heap.size), .int .i64 (hd (-1) L), .int .i64 (lst (-1) L)] 86)) (Below.heap_alloc _ _ _ hM2.lt)
    refine ⟨⟨w2.heap.size, w.heap.size, rfl, ⟨Blk.new w2 86 (listCells w.heap.size L), hN, hH.out.nodup, hH.out.rng⟩, hB2.size, Nat.le_refl _⟩, ?_⟩
    exact ((Only.drew _ w).trans (Only.none_of_below hB2)).trans (Only.alloc _ _ _)
theorem put_nil (i : Int) (w : World) : Calls Try.prog 30 #[.pointer none, .int .i64 i] w fun e w' => e = .returned (.int .i64 1) ∧ Below w.heap.size w w' := by
  go_enter Try.func30, Try.ntmps30
  go_wp2
  go_ret
  exact ⟨rfl, by first | exact Below.refl _ w | exact (Below.refl _ w).alloc (Nat.le_refl _) _⟩
theorem drop_nil (i : Int) (w : World) : Calls Try.prog 31 #[.pointer none, .int .i64 i] w fun e w' => e = .returned (.int .i64 1) ∧ Below w.heap.size w w' := by
  go_enter Try.func31, Try.ntmps31
  go_wp2
  go_ret
  exact ⟨rfl, by first | exact Below.refl _ w | exact (Below.refl _ w).alloc (Nat.le_refl _) _⟩
theorem front_nil (w : World) : Calls Try.prog 50 #[.pointer none] w fun e w' => e = .returned (.tuple #[.int .i64 0, .bool false]) ∧ Below w.heap.size w w' := by
  go_enter Try.func50, Try.ntmps50
  go_wp2
  go_ret2
  exact ⟨rfl, by first | exact Below.refl _ w | exact (Below.refl _ w).alloc (Nat.le_refl _) _⟩
theorem next_nil (i : Int) (w : World) : Calls Try.prog 63 #[.pointer none, .int .i64 i] w fun e w' => e = .returned (.tuple #[.int .i64 0, .bool false]) ∧ Below w.heap.size w w' := by
  go_enter Try.func63, Try.ntmps63
  go_wp2
  go_ret2
  exact ⟨rfl, by first | exact Below.refl _ w | exact (Below.refl _ w).alloc (Nat.le_refl _) _⟩
theorem has_nil (i : Int) (w : World) : Calls Try.prog 29 #[.pointer none, .int .i64 i] w fun e w' => e = .returned (.bool false) ∧ Below w.heap.size w w' := by
  go_enter Try.func29, Try.ntmps29
  go_wp2
  go_ret
  exact ⟨rfl, by first | exact Below.refl _ w | exact (Below.refl _ w).alloc (Nat.le_refl _) _⟩
theorem copy_nil (w : World) : Calls Try.prog 39 #[.pointer none] w fun e w' => e = .returned (.pointer none) ∧ Below w.heap.size w w' := by
  go_enter Try.func39, Try.ntmps39
  go_wp2
  go_ret
  exact ⟨rfl, by first | exact Below.refl _ w | exact (Below.refl _ w).alloc (Nat.le_refl _) _⟩
end
end Go.Proofs.Ytmhnfcodppfaiac.ListCode
