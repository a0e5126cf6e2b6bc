
/- mchan: Serve, where one has to wait. -/
import Derived.Test.YtabcodjalacdjaaMchanServe
namespace Go.Proofs.Ytabcodjalacdjaa.MchanCode
open Go Go.RowKit Go.Maps Go.Proofs.Ytabcodjalacdjaa.Obj Go.Proofs.Ytabcodjalacdjaa.RingCode Go.Proofs.YtabcodjalacdjaaW.PrintWords Go.Proofs.YtabcodjalacdjaaW.PrintLast Go.Proofs.YtabcodjalacdjaaW.PrintMore
set_option linter.unusedVariables false
set_option linter.unusedSimpArgs false
set_option maxRecDepth 100000
section
variable {lo : Nat} {w w' : World} {c most : Nat} {Bf : List Int} {R0 R1 : List Wt}
set_option maxHeartbeats 8000000 in
theorem serve_type (send : Bool) (val : Int) (h : ChAt lo w c most Bf R0 R1) (hlo : lo ≤ w.heap.size) (hk : whatV send most Bf R0 R1 = 6) :
    Calls Try.prog 17 #[.pointer (some ⟨c, 0, none⟩), .bool send, .int .i64 val] w fun e w' => e = .returned (.tuple #[got 0 zeroW 0 false 0, .int .i64 8]) ∧ ChAt lo w' c most Bf R0 R1 ∧ Below lo w w' ∧ KeepG w w' := by
  have hB0 : Below w.heap.size w (w.alloc (.cells zg.toArray 50)) := (Below.refl _ w).alloc (Nat.le_refl _) _
  have hX := Blk.new w 50 zg
  obtain ⟨w0, hw0⟩ : ∃ w0, w0 = w.alloc (.cells zg.toArray 50) := ⟨_, rfl⟩
  have hw0' : w.alloc (.cells #[.int .u8 0, .int .i64 0, .int .i64 0, .int .i64 0, .int .i64 0, .bool false, .int .i64 0] 50) = w0 := hw0.symm
  have hs0 : w0.heap.size = w.heap.size + 1 := by rw [hw0]; simp
  rw [← hw0] at hB0 hX
  have h1 := h.below hB0
  have hmm := @run_makeMap Try.prog
  obtain ⟨w1, w2, w3, w4, r1, r2, r3, r4, b4, hM⟩ := acts_run c w0
  simp only [fv] at r1 r2 r3 r4
  have h4 := h1.below b4
  have hX4 := hX.same (b4.block _ hX.lt)
  have hb4 := (hB0.trans (b4.mono hB0.size)).mono hlo
  have kk4 : KeepG w w4 := KeepG.below (hB0.trans (b4.mono hB0.size))
  have hW := what_at h4 send
  rw [hk] at hW
  clear hw0 hB0 hX b4 h1 h hk
  have hs0H := hid hs0
  clear hs0
  go_enter Try.func17, Try.ntmps17
  go_wp2_with (fail)
  refine hW.mono ?_
  rintro e w5 ⟨rfl, m, rfl⟩
  have h5 := h4.drewN m
  have hX5 : Blk (w4.drewN m) w.heap.size 50 zg := hX4
  have hb5 := bl_drewN (n := m) hb4
  have kk5 : KeepG w (w4.drewN m) := kk4.trans (KeepG.below (bl_drewN (Below.refl _ w4)))
  have hM5 : (w4.drewN m).ownsMap Try.prog 5 (actR c) w0.heap.size 4 D4 := hM
  have hlo5 : lo ≤ (w4.drewN m).heap.size := Nat.le_trans hlo hb5.size
  clear hW h4 hX4 hb4 kk4 r1 r2 r3 r4
  generalize w4.drewN m = w5 at *
  have hL := look6 hM5
  have ha : Below w5.heap.size w5 (w5.alloc (.cells #[.nilFunc] 81)) := (Below.refl _ w5).alloc (Nat.le_refl _) _
  have h6 := h5.below ha
  have hX6 := hX5.same (ha.block _ hX5.lt)
  have hb6 := hb5.trans (ha.mono hlo5)
  have kk6H := hid (kk5.trans (KeepG.below ha))
  have hf := got_fin hX6 rfl 0 zeroW 0 false 0
  have hfH := hid hf
  have hz := hX6.frozen
  have z0 : (w5.alloc (.cells #[.nilFunc] 81)).cell? ⟨w.heap.size, 0, none⟩ = some (.int .u8 0) := hX6.cell 0
  have z1 : (w5.alloc (.cells #[.nilFunc] 81)).cell? ⟨w.heap.size, 1, none⟩ = some (.int .i64 0) := hX6.cell 1
  have z2 : (w5.alloc (.cells #[.nilFunc] 81)).cell? ⟨w.heap.size, 2, none⟩ = some (.int .i64 0) := hX6.cell 2
  have z3 : (w5.alloc (.cells #[.nilFunc] 81)).cell? ⟨w.heap.size, 3, none⟩ = some (.int .i64 0) := hX6.cell 3
  have z4 : (w5.alloc (.cells #[.nilFunc] 81)).cell? ⟨w.heap.size, 4, none⟩ = some (.int .i64 0) := hX6.cell 4
  have z5 : (w5.alloc (.cells #[.nilFunc] 81)).cell? ⟨w.heap.size, 5, none⟩ = some (.bool false) := hX6.cell 5
  have z6 : (w5.alloc (.cells #[.nilFunc] 81)).cell? ⟨w.heap.size, 6, none⟩ = some (.int .i64 0) := hX6.cell 6
  have hXH := hid hX6
  have h2H := hid h6
  have hb1H := hid hb6
  have hltH := hid hX5.lt
  clear kk5 ha h5 hX5 hb5 hM5 hM h6 hf hX6 hb6
  go_wp2_with (fail)

  obtain ⟨f1, f2⟩ := hfH.out _ rfl
  refine bodyPost_ret (got_ret2 f1 rfl _ rfl) rfl ?_
  exact ⟨rfl, h2H.out.onlyG f2 hXH.out, f2.below hb1H.out (by have := hb1H.out.size; omega) (fun k _ hk => by rw [hk]; exact hlo), kk6H.out.last f2 (Nat.le_refl _)⟩
end
end Go.Proofs.Ytabcodjalacdjaa.MchanCode
