
/- list.Copy makes another queue, that is the same; what no queue answers. -/
import Derived.Shelf.Lay
import Derived.Shelf.SlMaps.Clone
import Derived.Test.YtmhnfcodppfaiabListWalk
import Derived.Test.YtmhnfcodppfaiabListNil
namespace Go.Proofs.Ytmhnfcodppfaiab.ListCode
open Go Go.RowKit Go.Shelf Go.Proofs.Ytmhnfcodppfaiab.Obj Go.Proofs.Ytmhnfcodppfaiab.ListPure
set_option linter.unusedVariables false
set_option maxRecDepth 100000
shelf_lay_g SlLaysW.n5 Slmc 5 at Try 26 as laidClone
section
variable {w w' : World} {p b : Nat} {L : List Int}
theorem clone_map (h : LsAt w p b L) : Calls Try.prog 26 #[.map (some b)] w fun e w' => e = .returned (.map (some w.heap.size)) ∧ MapIs w' w.heap.size (lnk L) L.length ∧ Below w.heap.size w w' := by
  obtain ⟨D, h1, h2, h3⟩ := h.map
  have hcon := AnyW.maps_Clone_owns laidClone 3 nodeR b _ D w h1
  refine hcon.mono ?_
  rintro e w' ⟨rfl, k1, _, hB⟩
  exact ⟨rfl, ⟨D, k1, h2, h3⟩, hB⟩
set_option maxHeartbeats 2000000 in
theorem copy_at (h : LsAt w p b L) : Calls Try.prog 20 #[.pointer (some ⟨p, 0, none⟩)] w fun e w' => (∃ p2 b2, e = .returned (.pointer (some ⟨p2, 0, none⟩)) ∧ LsAt w' p2 b2 L ∧ w.heap.size ≤ p2 ∧ w.heap.size ≤ b2) ∧ Only (fun _ => False) w w' := by
  obtain ⟨c0, c1, c2⟩ := h.cells
  have hC := clone_map h.drew
  have hpl := h.lt.1
  have hH := hid h
  have d0 : w.drew.cell? ⟨p, 0, none⟩ = some (.map (some b)) := c0
  have d1 : w.drew.cell? ⟨p, 1, none⟩ = some (.int .i64 (hd (-1) L)) := c1
  have d2 : w.drew.cell? ⟨p, 2, none⟩ = some (.int .i64 (lst (-1) L)) := c2
  clear h
  go_enter Try.func20, Try.ntmps20
  go_wp2_with (fail)
  go_region_held3 (fun w' : World => w'.cell? ⟨p, 0, none⟩ = some (.map (some b)) ∧ w'.cell? ⟨p, 1, none⟩ = some (.int .i64 (hd (-1) L)) ∧ w'.cell? ⟨p, 2, none⟩ = some (.int .i64 (lst (-1) L))) (first | (refine ⟨?_, ?_, ?_⟩ <;> assumption) | go_keep) (first | (go_at_call 26; refine hC.mono ?_; rintro e w2 ⟨rfl, hM2, hB2⟩; have hz := hB2.block p hpl; have e0 : w2.cell? ⟨p, 0, none⟩ = some (.map (some b)) := (by rw [← c0]; exact cell_same hz); have e1 : w2.cell? ⟨p, 1, none⟩ = some (.int .i64 (hd (-1) L)) := (by rw [← c1]; exact cell_same hz); have e2 : w2.cell? ⟨p, 2, none⟩ = some (.int .i64 (lst (-1) L)) := (by rw [← c2]; exact cell_same hz)) | fail)
  all_goals go_wp2
  all_goals go_ret
  all_goals
    have hN := hM2.same (w' := w2.alloc (.cells #[.map (some w.heap.size), .int .i64 (hd (-1) L), .int .i64 (lst (-1) L)] 48)) (Below.heap_alloc _ _ _ hM2.lt)
    refine ⟨⟨w2.heap.size, w.heap.size, rfl, ⟨Blk.new w2 48 (listCells w.heap.size L), hN, hH.out.nodup, hH.out.rng⟩, hB2.size, Nat.le_refl _⟩, ?_⟩
    exact ((Only.drew _ w).trans (Only.none_of_below hB2)).trans (Only.alloc _ _ _)
theorem put_nil (i : Int) (w : World) : Calls Try.prog 8 #[.pointer none, .int .i64 i] w fun e w' => e = .returned (.int .i64 1) ∧ Below w.heap.size w w' := by
  go_enter Try.func8, Try.ntmps8
  go_wp2
  go_ret
  exact ⟨rfl, by first | exact Below.refl _ w | exact (Below.refl _ w).alloc (Nat.le_refl _) _⟩
theorem drop_nil (i : Int) (w : World) : Calls Try.prog 9 #[.pointer none, .int .i64 i] w fun e w' => e = .returned (.int .i64 1) ∧ Below w.heap.size w w' := by
  go_enter Try.func9, Try.ntmps9
  go_wp2
  go_ret
  exact ⟨rfl, by first | exact Below.refl _ w | exact (Below.refl _ w).alloc (Nat.le_refl _) _⟩
theorem front_nil (w : World) : Calls Try.prog 13 #[.pointer none] w fun e w' => e = .returned (.tuple #[.int .i64 0, .bool false]) ∧ Below w.heap.size w w' := by
  go_enter Try.func13, Try.ntmps13
  go_wp2
  go_ret2
  exact ⟨rfl, by first | exact Below.refl _ w | exact (Below.refl _ w).alloc (Nat.le_refl _) _⟩
theorem next_nil (i : Int) (w : World) : Calls Try.prog 14 #[.pointer none, .int .i64 i] w fun e w' => e = .returned (.tuple #[.int .i64 0, .bool false]) ∧ Below w.heap.size w w' := by
  go_enter Try.func14, Try.ntmps14
  go_wp2
  go_ret2
  exact ⟨rfl, by first | exact Below.refl _ w | exact (Below.refl _ w).alloc (Nat.le_refl _) _⟩
theorem has_nil (i : Int) (w : World) : Calls Try.prog 10 #[.pointer none, .int .i64 i] w fun e w' => e = .returned (.bool false) ∧ Below w.heap.size w w' := by
  go_enter Try.func10, Try.ntmps10
  go_wp2
  go_ret
  exact ⟨rfl, by first | exact Below.refl _ w | exact (Below.refl _ w).alloc (Nat.le_refl _) _⟩
theorem llen_nil (w : World) : Calls Try.prog 15 #[.pointer none] w fun e w' => e = .returned (.int .i64 0) ∧ Below w.heap.size w w' := by
  go_enter Try.func15, Try.ntmps15
  go_wp2
  go_ret
  exact ⟨rfl, by first | exact Below.refl _ w | exact (Below.refl _ w).alloc (Nat.le_refl _) _⟩
theorem copy_nil (w : World) : Calls Try.prog 20 #[.pointer none] w fun e w' => e = .returned (.pointer none) ∧ Below w.heap.size w w' := by
  go_enter Try.func20, Try.ntmps20
  go_wp2
  go_ret
  exact ⟨rfl, by first | exact Below.refl _ w | exact (Below.refl _ w).alloc (Nat.le_refl _) _⟩
theorem pop_nil (w : World) : Calls Try.prog 11 #[.pointer none] w fun e w' => e = .returned (.tuple #[.int .i64 0, .int .i64 1]) ∧ Below w.heap.size w w' := by
  go_enter Try.func11, Try.ntmps11
  go_wp2_with (fail)
  refine (front_nil w).mono ?_
  rintro e w1 ⟨rfl, hB⟩
  go_wp2_with (fail)
  go_ret2
  exact ⟨rfl, hB⟩
set_option maxHeartbeats 2000000 in
theorem nothing_at (w : World) : Calls Try.prog 16 #[] w fun e w' => e = .returned (.bool true) ∧ Below w.heap.size w w' := by
  go_enter Try.func16, Try.ntmps16
  go_wp2_with (fail)
  refine (pop_nil _).mono ?_
  rintro e w1 ⟨rfl, h1⟩
  go_wp2_with (fail)
  refine (front_nil _).mono ?_
  rintro e w2 ⟨rfl, h2⟩
  have k2 := h1.trans (h2.mono h1.size)
  go_wp2_with (fail)
  refine (next_nil 1 _).mono ?_
  rintro e w3 ⟨rfl, h3⟩
  have k3 := k2.trans (h3.mono k2.size)
  go_wp2_with (fail)
  refine (put_nil 1 _).mono ?_
  rintro e w4 ⟨rfl, h4⟩
  have k4 := k3.trans (h4.mono k3.size)
  go_wp2_with (fail)
  refine (drop_nil 1 _).mono ?_
  rintro e w5 ⟨rfl, h5⟩
  have k5 := k4.trans (h5.mono k4.size)
  go_wp2_with (fail)
  refine (has_nil 1 _).mono ?_
  rintro e w6 ⟨rfl, h6⟩
  have k6 := k5.trans (h6.mono k5.size)
  go_wp2_with (fail)
  refine (llen_nil _).mono ?_
  rintro e w7 ⟨rfl, h7⟩
  have k7 := k6.trans (h7.mono k6.size)
  go_wp2_with (fail)
  refine (all_nil _).mono ?_
  rintro e w8 ⟨⟨A, c, rfl⟩, h8⟩
  have k8 := k7.trans (h8.mono k7.size)
  go_wp2_with (fail)
  refine (copy_nil _).mono ?_
  rintro e w9 ⟨rfl, h9⟩
  have k9 := k8.trans (h9.mono k8.size)
  go_wp2_with (fail)
  go_ret
  exact ⟨rfl, k9⟩
end
end Go.Proofs.Ytmhnfcodppfaiab.ListCode
