
/- law 26: alive. -/
import Derived.Test.YtabcodjalacdjadLocksOps
import Derived.Test.YtabcodjalacdjadSame08
namespace Go.Proofs.Ytabcodjalacdjad.LocksCode
open Go Go.RowKit Go.Shelf Go.Maps Go.Proofs.Ytabcodjalacdjad.Obj Go.Proofs.Ytabcodjalacdjad.Iter Go.Proofs.YtabcodjalacdjadW.PrintWords Go.Proofs.YtabcodjalacdjadW.PrintLast Go.Proofs.YtabcodjalacdjadW.PrintMore
set_option linter.unusedVariables false
set_option linter.unusedSimpArgs false
set_option maxRecDepth 100000
def cs4 : List Cs := [⟨false, 3, 0, 0, by decide⟩, ⟨true, 1, 0, 0, by decide⟩, ⟨false, 3, 0, 0, by decide⟩, ⟨true, -1, 0, 0, by decide⟩]
theorem four_at (w : World) : Calls Try.prog 11 #[] w fun e W' => ∃ A, e = .returned (.agg #[.slice A 4 4, .bool false]) ∧ CSl W'.heap.size W' A cs4 ∧ Below w.heap.size w W' := by
  go_enter Try.func11, Try.ntmps11
  go_wp2_with (fail)
  have hX := (Blk.new w 24 [.slice (some ⟨w.heap.size + 1, 0, none⟩) 4 4, .bool false]).alloc (.cells #[.bool false, .int .i64 3, .int .i64 0, .int .i64 0, .bool true, .int .i64 1, .int .i64 0, .int .i64 0, .bool false, .int .i64 3, .int .i64 0, .int .i64 0, .bool true, .int .i64 (-1), .int .i64 0, .int .i64 0] 32)
  have hY := Blk.new (w.alloc (.cells #[.slice (some ⟨w.heap.size + 1, 0, none⟩) 4 4, .bool false] 24)) 32 [.bool false, .int .i64 3, .int .i64 0, .int .i64 0, .bool true, .int .i64 1, .int .i64 0, .int .i64 0, .bool false, .int .i64 3, .int .i64 0, .int .i64 0, .bool true, .int .i64 (-1), .int .i64 0, .int .i64 0]
  rw [World.size_alloc] at hY
  refine bodyPost_ret (results_cell_row rfl _ _ w.heap.size 24 _ (0, 0) _ rfl hX Try.underlying24 rfl (by kernel_rfl)) rfl ?_
  refine ⟨some ⟨w.heap.size + 1, 0, none⟩, rfl, fun i hi => ?_, ((Below.refl _ w).alloc (Nat.le_refl _) _).alloc (by simp) _⟩
  refine ⟨w.heap.size + 1, 0, rfl, by simp, ?_⟩
  match i, hi with
  | 0, _ => exact ⟨hY.cell 0, hY.cell 1, hY.cell 2, hY.cell 3⟩
  | 1, _ => exact ⟨hY.cell 4, hY.cell 5, hY.cell 6, hY.cell 7⟩
  | 2, _ => exact ⟨hY.cell 8, hY.cell 9, hY.cell 10, hY.cell 11⟩
  | 3, _ => exact ⟨hY.cell 12, hY.cell 13, hY.cell 14, hY.cell 15⟩
theorem ord4 {L : List Int} (h : IsOrd cs4 L) : L = [1, 3] := by
  have hm : ∀ k, k ∈ L ↔ k ∈ ([1, 3] : List Int) := fun k => by
    rw [h.mem k, show chL (kcs cs4 cs4.length) = [3, 1, 3] from rfl]
    simp only [List.mem_cons, List.not_mem_nil, or_false]
    omega
  have hp : L.Perm [1, 3] := (List.perm_ext_iff_of_nodup (h.rise.imp fun hab e => by subst e; exact absurd hab (Int.lt_irrefl _)) (by decide)).2 hm
  exact hp.eq_of_pairwise (le := (· < ·)) (fun a b _ _ h1 h2 => absurd (Int.lt_trans h1 h2) (Int.lt_irrefl _)) h.rise (by decide)
theorem cov4 : coverL 3 (kcs cs4 cs4.length) = [0, 2] := rfl
theorem rdy4 : readyL 2 8 (kcs cs4 cs4.length) = 7 := by decide
theorem nil4 : ofN (coverL (-1) (kcs cs4 cs4.length)) = 8 := by decide
theorem least1_at {w : World} {sb : Nat} {A : Option Addr} {cap : Nat} {d : Bool} {cs : List Cs} (h : CSl w.heap.size w A cs) (hs : Blk w sb 24 [.slice A cs.length cap, .bool d]) (hl : cs.length ≤ 1000) (hcap : cs.length ≤ cap) :
    Calls Try.prog 12 #[.slice (some ⟨sb, 0, none⟩) 1 1] w fun e W' => ∃ L, IsOrd cs L ∧ e = .returned (.tuple #[.int .i64 (L.headD 0), .bool (!L.isEmpty)]) ∧ Below w.heap.size w W' :=
  least_gen rfl (IsOrd cs) ((order1_at h hs hl hcap).mono fun e W' h => by
    obtain ⟨v, L, h1, h2, h3, h4, h5⟩ := h
    exact ⟨v, L, h1, h2, ⟨h3, h4⟩, h5⟩)
theorem least0_at (w : World) : Calls Try.prog 12 #[.slice none 0 0] w fun e W' => ∃ L : List Int, L = [] ∧ e = .returned (.tuple #[.int .i64 (L.headD 0), .bool (!L.isEmpty)]) ∧ Below w.heap.size w W' :=
  least_gen rfl (· = []) ((order0_at w).mono fun e W' h => by
    obtain ⟨v, h1, h2, h3⟩ := h
    exact ⟨v, [], h1, h2, rfl, h3⟩)
theorem nums2 (w : World) (a b : Int) : Nums (w.alloc (.cells #[.int .i64 a, .int .i64 b] 3)) .i64 (some ⟨w.heap.size, 0, none⟩) [a, b] := by
  have hB := Blk.new w 3 [.int .i64 a, .int .i64 b]
  refine ⟨fun i hi => ?_⟩
  refine ⟨_, rfl, ?_⟩
  rw [addr_add0]
  match i, hi with
  | 0, _ => exact hB.cell 0
  | 1, _ => exact hB.cell 1
set_option maxHeartbeats 4000000 in
theorem alive_at (w : World) : Calls Try.prog 6 #[] w fun e w' => e = .returned (.bool true) ∧ Below w.heap.size w w' := by
  have hF := four_at w
  go_enter Try.func6, Try.ntmps6
  go_wp2_with (fail)
  refine hF.mono ?_
  rintro e w1 ⟨A, rfl, hC, hb1⟩
  have hL1 := fun W hb sb bS => least1_at (w := W) (sb := sb) (d := false) (cap := 4) ((hC.below hb).up hb.size) bS (by decide) (by decide)
  have h0 := Blk.new w1 24 [.slice A 4 4, .bool false]
  have h1 := Blk.new (w1.alloc (.cells #[.slice A 4 4, .bool false] 24)) 24 [.slice A 4 4, .bool false]
  rw [World.size_alloc] at h1
  have k0 : Below w1.heap.size w1 (w1.alloc (.cells #[.slice A 4 4, .bool false] 24)) := (Below.refl _ w1).alloc (Nat.le_refl _) _
  have k1 := k0.alloc (o := .cells #[.slice A 4 4, .bool false] 24) k0.size
  have hx0 := h0.alloc (.cells #[.slice A 4 4, .bool false] 24)
  have hL2 := hL1 _ k1 _ h1
  clear hF hL1 h0
  go_wp2_with (fail)
  refine hL2.mono ?_
  rintro e w2 ⟨L, hL, rfl, hb2⟩
  rw [ord4 hL]
  clear hL2
  go_wp2_with (fail)
  have hx2 := hx0.same (hb2.block _ (by simp; omega))
  have k2 := k1.trans (hb2.mono k1.size)
  have hC2 := hid (fun W (hb : Below w1.heap.size w1 W) => (hC.below hb).up hb.size)
  refine (least0_at w2).mono ?_
  rintro e w3 ⟨L0, rfl, rfl, hb3⟩
  have hx3 := hx2.same (hb3.block _ hx2.lt)
  have k3 := k2.trans (hb3.mono k2.size)
  have c3 : w3.cell? ⟨w1.heap.size, 0, none⟩ = some (.slice A 4 4) := hx3.cell 0
  have d3 : w3.cell? ⟨w1.heap.size, 1, none⟩ = some (.bool false) := hx3.cell 1
  have hOf := lof_at (d := false) (cap := 4) (hC2.out w3 k3) (by decide) (by decide)
  clear hx0 hx2 k0 k1 k2 hC h1 hb2 hb3
  go_wp2_with (fail)
  refine hOf.mono ?_
  rintro e w4 ⟨v, L1, rfl, hrow, hord, hb4⟩
  obtain ⟨A1, n1, rfl⟩ := own_form hrow
  have e1 := ord4 hord
  subst e1
  have a4 : Below w4.heap.size w4 (w4.alloc (.cells #[.int .i64 1, .int .i64 3] 3)) := (Below.refl _ w4).alloc (Nat.le_refl _) _
  have hS1 := Same08.same_eq A1 (some ⟨w4.heap.size, 0, none⟩) n1 2 [1, 3] _ ((own_nums hrow).below a4) (nums2 w4 1 3) (by decide)
  have hx4 := (hx3.same (hb4.block _ hx3.lt)).same (a4.block _ (by exact Nat.lt_of_lt_of_le hx3.lt hb4.size))
  have k4 := (k3.trans (hb4.mono k3.size)).trans (a4.mono (Nat.le_trans k3.size hb4.size))
  clear hOf hx3 k3 c3 d3 hrow hord
  go_wp2_with (fail)
  refine hS1.mono ?_
  rintro e w5 ⟨rfl, m5, rfl⟩
  have hx5 : Blk ((w4.alloc (.cells #[.int .i64 1, .int .i64 3] 3)).drewN m5) w1.heap.size 24 [.slice A 4 4, .bool false] := hx4
  have k5 : Below w1.heap.size w1 ((w4.alloc (.cells #[.int .i64 1, .int .i64 3] 3)).drewN m5) := ⟨k4.os, k4.tape, k4.output, k4.size, k4.block⟩
  clear hx4 k4 hS1 a4 hb4
  generalize (w4.alloc (.cells #[.int .i64 1, .int .i64 3] 3)).drewN m5 = w5 at *
  have c5 : w5.cell? ⟨w1.heap.size, 0, none⟩ = some (.slice A 4 4) := hx5.cell 0
  have d5 : w5.cell? ⟨w1.heap.size, 1, none⟩ = some (.bool false) := hx5.cell 1
  have hCv := cover_at (d := false) (cap := 4) 3 (hC2.out w5 k5) (by decide) (by decide)
  rw [cov4] at hCv
  go_wp2_with (fail)
  refine hCv.mono ?_
  rintro e w6 ⟨v, rfl, hrow, hb6⟩
  obtain ⟨A2, n2, rfl⟩ := own_form hrow
  have a6 : Below w6.heap.size w6 (w6.alloc (.cells #[.int .i64 0, .int .i64 2] 3)) := (Below.refl _ w6).alloc (Nat.le_refl _) _
  have hS2 := Same08.same_eq A2 (some ⟨w6.heap.size, 0, none⟩) n2 2 [0, 2] _ ((own_nums hrow).below a6) (nums2 w6 0 2) (by decide)
  have hx6 := (hx5.same (hb6.block _ hx5.lt)).same (a6.block _ (by exact Nat.lt_of_lt_of_le hx5.lt hb6.size))
  have k6 := (k5.trans (hb6.mono k5.size)).trans (a6.mono (Nat.le_trans k5.size hb6.size))
  clear hCv hx5 k5 c5 d5 hrow
  go_wp2_with (fail)
  refine hS2.mono ?_
  rintro e w7 ⟨rfl, m7, rfl⟩
  have hx7 : Blk ((w6.alloc (.cells #[.int .i64 0, .int .i64 2] 3)).drewN m7) w1.heap.size 24 [.slice A 4 4, .bool false] := hx6
  have k7 : Below w1.heap.size w1 ((w6.alloc (.cells #[.int .i64 0, .int .i64 2] 3)).drewN m7) := ⟨k6.os, k6.tape, k6.output, k6.size, k6.block⟩
  clear hx6 k6 hS2 a6 hb6
  generalize (w6.alloc (.cells #[.int .i64 0, .int .i64 2] 3)).drewN m7 = w7 at *
  have c7 : w7.cell? ⟨w1.heap.size, 0, none⟩ = some (.slice A 4 4) := hx7.cell 0
  have d7 : w7.cell? ⟨w1.heap.size, 1, none⟩ = some (.bool false) := hx7.cell 1
  have hRd := ready_at (d := false) (cap := 4) 2 8 (by decide) (by decide) (hC2.out w7 k7) (by decide) (by decide)
  rw [rdy4] at hRd
  go_wp2_with (fail)
  refine hRd.mono ?_
  rintro e w8 ⟨rfl, hb8⟩
  have hx8 := hx7.same (hb8.block _ hx7.lt)
  have k8 := k7.trans (hb8.mono k7.size)
  clear hRd hx7 k7 c7 d7 hb8
  have c8 : w8.cell? ⟨w1.heap.size, 0, none⟩ = some (.slice A 4 4) := hx8.cell 0
  have d8 : w8.cell? ⟨w1.heap.size, 1, none⟩ = some (.bool false) := hx8.cell 1
  have hNl := lnil_at (d := false) (cap := 4) (hC2.out w8 k8) (by decide) (by decide)
  rw [nil4] at hNl
  go_wp2_with (fail)
  refine hNl.mono ?_
  rintro e w9 ⟨rfl, hb9⟩
  have k9 := k8.trans (hb9.mono k8.size)
  clear hNl hx8 k8 c8 d8 hb9
  go_wp2_with (fail)
  go_ret
  exact ⟨rfl, hb1.trans (k9.mono hb1.size)⟩
end Go.Proofs.Ytabcodjalacdjad.LocksCode
