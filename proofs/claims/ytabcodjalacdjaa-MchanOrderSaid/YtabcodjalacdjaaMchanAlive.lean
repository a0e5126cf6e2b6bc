
/- MchanOrder: alive. -/
import Derived.Test.YtabcodjalacdjaaMchanBuf
import Derived.Laws.StructEq
namespace Go.Proofs.Ytabcodjalacdjaa.MchanCode
open Go Go.RowKit Go.Proofs.Ytabcodjalacdjaa.Obj Go.Proofs.Ytabcodjalacdjaa.RingCode Go.Proofs.YtabcodjalacdjaaW.PrintWords Go.Proofs.YtabcodjalacdjaaW.PrintLast Go.Proofs.YtabcodjalacdjaaW.PrintMore
set_option linter.unusedVariables false
set_option linter.unusedSimpArgs false
set_option maxRecDepth 100000
section
variable {lo : Nat} {w w' : World} {c most : Nat} {Bf : List Int} {R0 R1 : List Wt}
theorem serve_put (v : Int) (h : ChAt lo w c most Bf [] R1) (hlo : lo ≤ w.heap.size) (hl : Bf.length < most) :
    Calls Try.prog 17 #[.pointer (some ⟨c, 0, none⟩), .bool true, .int .i64 v] w fun e w' => e = .returned (.tuple #[got 3 zeroW v true 0, .int .i64 0]) ∧ ChAt lo w' c most (Bf ++ [v]) [] R1 ∧ Below lo w w' ∧ KeepG w w' :=
  serve_gen true v h hlo 3 30 (by simp [whatV, hl]) (.inr (.inl ⟨rfl, rfl⟩)) fun W hW hloW => buffer1_at hW hloW hl v
theorem serve_meet1 {x : Wt} {l : List Wt} (v : Int) (h : ChAt lo w c most Bf (x :: l) R1) (hlo : lo ≤ w.heap.size) :
    Calls Try.prog 17 #[.pointer (some ⟨c, 0, none⟩), .bool true, .int .i64 v] w fun e w' => e = .returned (.tuple #[got 2 x v true 0, .int .i64 0]) ∧ ChAt lo w' c most Bf l R1 ∧ Below lo w w' ∧ KeepG w w' :=
  serve_gen true v h hlo 2 29 rfl (.inl ⟨rfl, rfl⟩) fun W hW hloW => meet1_at hW hloW v
theorem serve_take {x : Int} {b : List Int} (v : Int) (h : ChAt lo w c most (x :: b) R0 []) (hlo : lo ≤ w.heap.size) :
    Calls Try.prog 17 #[.pointer (some ⟨c, 0, none⟩), .bool false, .int .i64 v] w fun e w' => e = .returned (.tuple #[got 3 zeroW x true 0, .int .i64 0]) ∧ ChAt lo w' c most b R0 [] ∧ Below lo w w' ∧ KeepG w w' :=
  serve_gen false v h hlo 3 30 rfl (.inr (.inl ⟨rfl, rfl⟩)) fun W hW hloW => buffer0_at hW hloW v
theorem serve_meet0 {x : Wt} {l : List Wt} (v : Int) (h : ChAt lo w c 0 Bf R0 (x :: l)) (hlo : lo ≤ w.heap.size) :
    Calls Try.prog 17 #[.pointer (some ⟨c, 0, none⟩), .bool false, .int .i64 v] w fun e w' => e = .returned (.tuple #[got 2 x x.val true 0, .int .i64 0]) ∧ ChAt lo w' c 0 Bf R0 l ∧ Below lo w w' ∧ KeepG w w' :=
  serve_gen false v h hlo 2 29 rfl (.inl ⟨rfl, rfl⟩) fun W hW hloW => meet0_at hW hloW v
theorem serve_refill {x : Wt} {l : List Wt} {u : Int} {b : List Int} (v : Int) (h : ChAt lo w c most (u :: b) R0 (x :: l)) (hlo : lo ≤ w.heap.size) (hm : most ≠ 0) :
    Calls Try.prog 17 #[.pointer (some ⟨c, 0, none⟩), .bool false, .int .i64 v] w fun e w' => e = .returned (.tuple #[got 4 x u true x.val, .int .i64 0]) ∧ ChAt lo w' c most (b ++ [x.val]) R0 l ∧ Below lo w w' ∧ KeepG w w' :=
  serve_gen false v h hlo 4 31 (by simp [whatV, hm]) (.inr (.inr ⟨rfl, rfl⟩)) fun W hW hloW => refill_at hW hloW v
end
set_option maxHeartbeats 8000000 in
theorem alive_at (w : World) : Calls Try.prog 13 #[] w fun e w' => e = .returned (.bool true) ∧ Below w.heap.size w w' := by
  have hN := new_at 1 (by decide) w
  go_enter Try.func13, Try.ntmps13
  go_wp2_with (fail)
  refine hN.mono ?_
  rintro e w1 ⟨c, rfl, h1, b1⟩
  clear hN
  have hN2 := new_out 9 w1 (by decide)
  go_wp2_with (fail)
  refine hN2.mono ?_
  rintro e w1' ⟨rfl, rfl⟩
  clear hN2
  have hS := serve_put 5 h1 b1.size (by decide)
  have h1H := hid h1
  clear h1
  go_wp2_with (fail)
  refine hS.mono ?_
  rintro e w2 ⟨rfl, h2, b2, -⟩
  have hB2 : Below w.heap.size w w2 := b1.trans b2
  have hG2 := Blk.new w2 50 (gcells 3 zeroW 5 true 0)
  have ha2 : Below w2.heap.size w2 (w2.alloc (.cells (gcells 3 zeroW 5 true 0).toArray 50)) := (Below.refl _ w2).alloc (Nat.le_refl _) _
  have h3 := h2.below ha2
  have hB3 := hB2.trans (ha2.mono hB2.size)
  have hW3 := what_at h3 true
  rw [show whatV true 1 ([] ++ [5]) [] [] = 6 from rfl] at hW3
  clear hS hB2 ha2 h2 b1 b2 h1H
  simp only [got, zeroW]
  go_wp2_with (fail)
  refine hW3.mono ?_
  rintro e w4 ⟨rfl, m, rfl⟩
  have h4 := h3.drewN m
  have hB4 := bl_drewN (n := m) hB3
  have hG4 : Blk ((w2.alloc (.cells (gcells 3 zeroW 5 true 0).toArray 50)).drewN m) w2.heap.size 50 (gcells 3 zeroW 5 true 0) := hG2
  have e4 : ((w2.alloc (.cells #[.int .u8 3, .int .i64 0, .int .i64 0, .int .i64 0, .int .i64 5, .bool true, .int .i64 0] 50)).drewN m) = ((w2.alloc (.cells (gcells 3 zeroW 5 true 0).toArray 50)).drewN m) := rfl
  obtain ⟨w4, hw4⟩ : ∃ w4, w4 = ((w2.alloc (.cells (gcells 3 zeroW 5 true 0).toArray 50)).drewN m) := ⟨_, rfl⟩
  rw [← hw4] at h4 hB4 hG4
  try rw [← hw4]
  clear hw4
  have hT := wait_at true ⟨7, 0, 6⟩ h4 hB4.size (by simp) (by simp) (by simp)
  rw [if_pos rfl, if_pos rfl] at hT
  simp only [Wt.v] at hT
  clear hW3 h3 hB3 hG2 e4
  go_wp2_with (fail)
  refine hT.mono ?_
  rintro e w5 ⟨rfl, h5, b5, k5⟩
  have hB5 := hB4.trans b5
  have hG5 := k5 _ _ hG4
  rw [show ([] : List Wt) ++ [⟨7, 0, 6⟩] = [⟨7, 0, 6⟩] from rfl, show ([] : List Int) ++ [5] = [5] from rfl] at h5
  have hS := serve_refill 0 h5 hB5.size (by decide)
  clear hT h4 hB4 hG4 b5 k5
  go_wp2_with (fail)
  refine hS.mono ?_
  rintro e w6 ⟨rfl, h6, b6, k6⟩
  rw [show ([] : List Int) ++ [(⟨7, 0, 6⟩ : Wt).val] = [6] from rfl] at h6
  have hB6 := hB5.trans b6
  have hG6 := k6 _ _ hG5
  have ha6 : Below w6.heap.size w6 (w6.alloc (.cells (gcells 4 ⟨7, 0, 6⟩ 5 true 6).toArray 50)) := (Below.refl _ w6).alloc (Nat.le_refl _) _
  have h7 := h6.below ha6
  have hB7 := hB6.trans (ha6.mono hB6.size)
  have hG7 := hG6.same (ha6.block _ hG6.lt)
  have hH7 := Blk.new w6 50 (gcells 4 ⟨7, 0, 6⟩ 5 true 6)
  have hS7 := serve_type true 8 h7 hB7.size rfl
  clear hS h5 hB5 hG5 b6 k6 h6 hB6 hG6 ha6
  simp only [got]
  go_wp2_with (fail)
  refine hS7.mono ?_
  rintro e w8 ⟨rfl, h8, b8, k8⟩
  have hB8 := hB7.trans b8
  have hG8 := k8 _ _ hG7
  have hH8 := k8 _ _ hH7
  have hB9 := hid (hB8.alloc (o := .cells (gcells 0 zeroW 0 false 0).toArray 50) hB8.size)
  have z0 : w8.cell? ⟨w2.heap.size, 0, none⟩ = some (.int .u8 3) := hG8.cell 0
  have z1 : w8.cell? ⟨w2.heap.size, 1, none⟩ = some (.int .i64 0) := hG8.cell 1
  have z2 : w8.cell? ⟨w2.heap.size, 2, none⟩ = some (.int .i64 0) := hG8.cell 2
  have z3 : w8.cell? ⟨w2.heap.size, 3, none⟩ = some (.int .i64 0) := hG8.cell 3
  have z4 : w8.cell? ⟨w2.heap.size, 4, none⟩ = some (.int .i64 5) := hG8.cell 4
  have z5 : w8.cell? ⟨w2.heap.size, 5, none⟩ = some (.bool true) := hG8.cell 5
  have z6 : w8.cell? ⟨w2.heap.size, 6, none⟩ = some (.int .i64 0) := hG8.cell 6
  have y0 : w8.cell? ⟨w6.heap.size, 0, none⟩ = some (.int .u8 4) := hH8.cell 0
  have y1 : w8.cell? ⟨w6.heap.size, 1, none⟩ = some (.int .i64 7) := hH8.cell 1
  have y2 : w8.cell? ⟨w6.heap.size, 2, none⟩ = some (.int .i64 0) := hH8.cell 2
  have y3 : w8.cell? ⟨w6.heap.size, 3, none⟩ = some (.int .i64 6) := hH8.cell 3
  have y4 : w8.cell? ⟨w6.heap.size, 4, none⟩ = some (.int .i64 5) := hH8.cell 4
  have y5 : w8.cell? ⟨w6.heap.size, 5, none⟩ = some (.bool true) := hH8.cell 5
  have y6 : w8.cell? ⟨w6.heap.size, 6, none⟩ = some (.int .i64 6) := hH8.cell 6
  have hl2 := hG8.lt
  have hl6 := hH8.lt
  clear hS7 h7 hB7 hG7 hH7 b8 k8 h8 hB8 hG8 hH8
  simp only [got, zeroW]
  go_wp2_with (fail)
  go_ret
  exact ⟨rfl, hB9.out⟩
end Go.Proofs.Ytabcodjalacdjaa.MchanCode
