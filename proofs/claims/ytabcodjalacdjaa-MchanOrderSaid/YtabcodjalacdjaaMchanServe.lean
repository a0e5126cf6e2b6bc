
/- mchan: Serve. -/
import Derived.Test.YtabcodjalacdjaaMchanActs
import Derived.Laws.EntriesVeiled
namespace Go.Proofs.Ytabcodjalacdjaa.MchanCode
open Go Go.RowKit Go.Maps Go.Proofs.Ytabcodjalacdjaa.Obj Go.Proofs.Ytabcodjalacdjaa.RingCode Go.Proofs.YtabcodjalacdjaaW.PrintWords Go.Proofs.YtabcodjalacdjaaW.PrintLast Go.Proofs.YtabcodjalacdjaaW.PrintMore
set_option linter.unusedVariables false
set_option linter.unusedSimpArgs false
set_option maxRecDepth 100000
section
variable {lo : Nat} {w w' : World} {c most : Nat} {Bf : List Int} {R0 R1 : List Wt}
theorem got_ret2 {W : World} {p : Nat} {k : Int} {x : Wt} {v : Int} {ok : Bool} {u : Int} (hX : Blk W p 50 (gcells k x v ok u)) {fn : Func} {sl s2 : Tmp} (hf : fn.results = #[.cell sl 50, .tmp s2]) (tmps : Array Value) (ht : tmps.getD sl undef = .pointer (some ⟨p, 0, none⟩)) :
    (results fn tmps).run Try.prog W = .ok (.tuple #[got k x v ok u, tmps.getD s2 undef]) W := by
  have hl : (loadVar 50 ⟨p, 0, none⟩).run Try.prog W = .ok (got k x v ok u) W := run_loadVar_row W p 50 50 _ (0, 0) _ hX Try.underlying50 rfl (by kernel_rfl)
  rw [results_cell_tmp hf, ht]
  simp [asAddr, Result.andThen, hl]
set_option maxHeartbeats 8000000 in
/-- Serve, where something is done. -/
theorem serve_gen (send : Bool) (val : Int) (h : ChAt lo w c most Bf R0 R1) (hlo : lo ≤ w.heap.size) (k : Int) (f : Nat) (hk : whatV send most Bf R0 R1 = k) {Bf' : List Int} {R0' R1' : List Wt} {k' : Int} {x : Wt} {v : Int} {ok : Bool} {u : Int}
    (hkf : (k = 2 ∧ f = 29) ∨ (k = 3 ∧ f = 30) ∨ (k = 4 ∧ f = 31))
    (hD : ∀ W, ChAt lo W c most Bf R0 R1 → lo ≤ W.heap.size → Calls Try.prog f #[.pointer (some ⟨c, 0, none⟩), .bool send, .int .i64 val] W fun e w' => e = .returned (got k' x v ok u) ∧ ChAt lo w' c most Bf' R0' R1' ∧ Below lo W w' ∧ KeepG W w') :
    Calls Try.prog 17 #[.pointer (some ⟨c, 0, none⟩), .bool send, .int .i64 val] w fun e w' => e = .returned (.tuple #[got k' x v ok u, .int .i64 0]) ∧ ChAt lo w' c most Bf' R0' R1' ∧ Below lo w w' ∧ KeepG w w' := by
  have hB0 : Below w.heap.size w (w.alloc (.cells zg.toArray 50)) := (Below.refl _ w).alloc (Nat.le_refl _) _
  have hX := Blk.new w 50 zg
  obtain ⟨w0, hw0⟩ : ∃ w0, w0 = w.alloc (.cells zg.toArray 50) := ⟨_, rfl⟩
  have hw0' : w.alloc (.cells #[.int .u8 0, .int .i64 0, .int .i64 0, .int .i64 0, .int .i64 0, .bool false, .int .i64 0] 50) = w0 := hw0.symm
  have hs0 : w0.heap.size = w.heap.size + 1 := by rw [hw0]; simp
  rw [← hw0] at hB0 hX
  have h1 := h.below hB0
  have hmm := @run_makeMap Try.prog
  obtain ⟨w1, w2, w3, w4, r1, r2, r3, r4, b4, hM⟩ := acts_run c w0
  simp only [fv] at r1 r2 r3 r4
  have h4 := h1.below b4
  have hX4 := hX.same (b4.block _ hX.lt)
  have hb4 := (hB0.trans (b4.mono hB0.size)).mono hlo
  have kk4 : KeepG w w4 := KeepG.below (hB0.trans (b4.mono hB0.size))
  have hW := what_at h4 send
  rw [hk] at hW
  have hkfH := hid hkf
  clear hw0 hB0 hX b4 h1 h hk hkf
  have hs0H := hid hs0
  clear hs0
  go_enter Try.func17, Try.ntmps17
  go_wp2_with (fail)
  refine hW.mono ?_
  rintro e w5 ⟨rfl, m, rfl⟩
  have h5 := h4.drewN m
  have hX5 : Blk (w4.drewN m) w.heap.size 50 zg := hX4
  have hb5 := bl_drewN (n := m) hb4
  have kk5 : KeepG w (w4.drewN m) := kk4.trans (KeepG.below (bl_drewN (Below.refl _ w4)))
  have hM5 : (w4.drewN m).ownsMap Try.prog 5 (actR c) w0.heap.size 4 D4 := hM
  have hlo5 : lo ≤ (w4.drewN m).heap.size := Nat.le_trans hlo hb5.size
  clear hW h4 hX4 hb4 kk4 r1 r2 r3 r4
  generalize w4.drewN m = w5 at *
  rcases hkfH.out with ⟨rfl, rfl⟩ | ⟨rfl, rfl⟩ | ⟨rfl, rfl⟩
  · have hL := look2 hM5
    simp only [fv] at hL
    have ha : Below w5.heap.size w5 (w5.alloc (.cells #[.func (.func 29) #[.pointer (some ⟨c, 0, none⟩)] #[]] 81)) := (Below.refl _ w5).alloc (Nat.le_refl _) _
    have h6 := h5.below ha
    have hX6 := hX5.same (ha.block _ hX5.lt)
    have hb6 := hb5.trans (ha.mono hlo5)
    have kk6 := kk5.trans (KeepG.below ha)
    have hY := Blk.new w5 81 [.func (.func 29) #[.pointer (some ⟨c, 0, none⟩)] #[]]
    obtain ⟨w6, hw6⟩ : ∃ w6, w6 = w5.alloc (.cells #[.func (.func 29) #[.pointer (some ⟨c, 0, none⟩)] #[]] 81) := ⟨_, rfl⟩
    have hY6 : Blk w6 w5.heap.size 81 [.func (.func 29) #[.pointer (some ⟨c, 0, none⟩)] #[]] := by rw [hw6]; exact hY
    rw [← hw6] at h6 hX6 hb6 kk6
    have kk6H := hid kk6
    have hw6' : w5.alloc (.cells #[.func (.func 29) #[.pointer (some ⟨c, 0, none⟩)] #[]] 81) = w6 := hw6.symm
    have y0 : w6.cell? ⟨w5.heap.size, 0, none⟩ = some (.func (.func 29) #[.pointer (some ⟨c, 0, none⟩)] #[]) := hY6.cell 0
    have hC := hD w6 h6 (Nat.le_trans hlo hb6.size)
    clear kk5 kk6 ha h5 hX5 hb5 hM5 hM hw6 hY h6 hY6
    go_wp2_with (fail)
    refine hC.mono ?_
    rintro e w7 ⟨rfl, h7, hb7, hK7⟩
    have hX7 := hK7 _ _ hX6
    have hb8 := hb6.trans hb7
    have hf := got_fin hX7 rfl k' x v ok u
    have hfH := hid hf
    have hz := hX7.frozen
    have z0 : w7.cell? ⟨w.heap.size, 0, none⟩ = some (.int .u8 0) := hX7.cell 0
    have z1 : w7.cell? ⟨w.heap.size, 1, none⟩ = some (.int .i64 0) := hX7.cell 1
    have z2 : w7.cell? ⟨w.heap.size, 2, none⟩ = some (.int .i64 0) := hX7.cell 2
    have z3 : w7.cell? ⟨w.heap.size, 3, none⟩ = some (.int .i64 0) := hX7.cell 3
    have z4 : w7.cell? ⟨w.heap.size, 4, none⟩ = some (.int .i64 0) := hX7.cell 4
    have z5 : w7.cell? ⟨w.heap.size, 5, none⟩ = some (.bool false) := hX7.cell 5
    have z6 : w7.cell? ⟨w.heap.size, 6, none⟩ = some (.int .i64 0) := hX7.cell 6
    have hXH := hid hX7
    have kk7H := hid (kk6H.out.trans hK7)
    have h2H := hid h7
    have hb1H := hid hb8
    clear hC hX6 hb6 hb7 hK7 hf hX7 h7 hb8 hD hL
    simp only [got]
    go_wp2_with (fail)
    obtain ⟨f1, f2⟩ := hfH.out _ rfl
    refine bodyPost_ret (got_ret2 f1 rfl _ rfl) rfl ?_
    exact ⟨rfl, h2H.out.onlyG f2 hXH.out, f2.below hb1H.out (by have := hb1H.out.size; omega) (fun k _ hk => by rw [hk]; exact hlo), kk7H.out.last f2 (Nat.le_refl _)⟩
  · have hL := look3 hM5
    simp only [fv] at hL
    have ha : Below w5.heap.size w5 (w5.alloc (.cells #[.func (.func 30) #[.pointer (some ⟨c, 0, none⟩)] #[]] 81)) := (Below.refl _ w5).alloc (Nat.le_refl _) _
    have h6 := h5.below ha
    have hX6 := hX5.same (ha.block _ hX5.lt)
    have hb6 := hb5.trans (ha.mono hlo5)
    have kk6 := kk5.trans (KeepG.below ha)
    have hY := Blk.new w5 81 [.func (.func 30) #[.pointer (some ⟨c, 0, none⟩)] #[]]
    obtain ⟨w6, hw6⟩ : ∃ w6, w6 = w5.alloc (.cells #[.func (.func 30) #[.pointer (some ⟨c, 0, none⟩)] #[]] 81) := ⟨_, rfl⟩
    have hY6 : Blk w6 w5.heap.size 81 [.func (.func 30) #[.pointer (some ⟨c, 0, none⟩)] #[]] := by rw [hw6]; exact hY
    rw [← hw6] at h6 hX6 hb6 kk6
    have kk6H := hid kk6
    have hw6' : w5.alloc (.cells #[.func (.func 30) #[.pointer (some ⟨c, 0, none⟩)] #[]] 81) = w6 := hw6.symm
    have y0 : w6.cell? ⟨w5.heap.size, 0, none⟩ = some (.func (.func 30) #[.pointer (some ⟨c, 0, none⟩)] #[]) := hY6.cell 0
    have hC := hD w6 h6 (Nat.le_trans hlo hb6.size)
    clear kk5 kk6 ha h5 hX5 hb5 hM5 hM hw6 hY h6 hY6
    go_wp2_with (fail)
    refine hC.mono ?_
    rintro e w7 ⟨rfl, h7, hb7, hK7⟩
    have hX7 := hK7 _ _ hX6
    have hb8 := hb6.trans hb7
    have hf := got_fin hX7 rfl k' x v ok u
    have hfH := hid hf
    have hz := hX7.frozen
    have z0 : w7.cell? ⟨w.heap.size, 0, none⟩ = some (.int .u8 0) := hX7.cell 0
    have z1 : w7.cell? ⟨w.heap.size, 1, none⟩ = some (.int .i64 0) := hX7.cell 1
    have z2 : w7.cell? ⟨w.heap.size, 2, none⟩ = some (.int .i64 0) := hX7.cell 2
    have z3 : w7.cell? ⟨w.heap.size, 3, none⟩ = some (.int .i64 0) := hX7.cell 3
    have z4 : w7.cell? ⟨w.heap.size, 4, none⟩ = some (.int .i64 0) := hX7.cell 4
    have z5 : w7.cell? ⟨w.heap.size, 5, none⟩ = some (.bool false) := hX7.cell 5
    have z6 : w7.cell? ⟨w.heap.size, 6, none⟩ = some (.int .i64 0) := hX7.cell 6
    have hXH := hid hX7
    have kk7H := hid (kk6H.out.trans hK7)
    have h2H := hid h7
    have hb1H := hid hb8
    clear hC hX6 hb6 hb7 hK7 hf hX7 h7 hb8 hD hL
    simp only [got]
    go_wp2_with (fail)
    obtain ⟨f1, f2⟩ := hfH.out _ rfl
    refine bodyPost_ret (got_ret2 f1 rfl _ rfl) rfl ?_
    exact ⟨rfl, h2H.out.onlyG f2 hXH.out, f2.below hb1H.out (by have := hb1H.out.size; omega) (fun k _ hk => by rw [hk]; exact hlo), kk7H.out.last f2 (Nat.le_refl _)⟩
  · have hL := look4 hM5
    simp only [fv] at hL
    have ha : Below w5.heap.size w5 (w5.alloc (.cells #[.func (.func 31) #[.pointer (some ⟨c, 0, none⟩)] #[]] 81)) := (Below.refl _ w5).alloc (Nat.le_refl _) _
    have h6 := h5.below ha
    have hX6 := hX5.same (ha.block _ hX5.lt)
    have hb6 := hb5.trans (ha.mono hlo5)
    have kk6 := kk5.trans (KeepG.below ha)
    have hY := Blk.new w5 81 [.func (.func 31) #[.pointer (some ⟨c, 0, none⟩)] #[]]
    obtain ⟨w6, hw6⟩ : ∃ w6, w6 = w5.alloc (.cells #[.func (.func 31) #[.pointer (some ⟨c, 0, none⟩)] #[]] 81) := ⟨_, rfl⟩
    have hY6 : Blk w6 w5.heap.size 81 [.func (.func 31) #[.pointer (some ⟨c, 0, none⟩)] #[]] := by rw [hw6]; exact hY
    rw [← hw6] at h6 hX6 hb6 kk6
    have kk6H := hid kk6
    have hw6' : w5.alloc (.cells #[.func (.func 31) #[.pointer (some ⟨c, 0, none⟩)] #[]] 81) = w6 := hw6.symm
    have y0 : w6.cell? ⟨w5.heap.size, 0, none⟩ = some (.func (.func 31) #[.pointer (some ⟨c, 0, none⟩)] #[]) := hY6.cell 0
    have hC := hD w6 h6 (Nat.le_trans hlo hb6.size)
    clear kk5 kk6 ha h5 hX5 hb5 hM5 hM hw6 hY h6 hY6
    go_wp2_with (fail)
    refine hC.mono ?_
    rintro e w7 ⟨rfl, h7, hb7, hK7⟩
    have hX7 := hK7 _ _ hX6
    have hb8 := hb6.trans hb7
    have hf := got_fin hX7 rfl k' x v ok u
    have hfH := hid hf
    have hz := hX7.frozen
    have z0 : w7.cell? ⟨w.heap.size, 0, none⟩ = some (.int .u8 0) := hX7.cell 0
    have z1 : w7.cell? ⟨w.heap.size, 1, none⟩ = some (.int .i64 0) := hX7.cell 1
    have z2 : w7.cell? ⟨w.heap.size, 2, none⟩ = some (.int .i64 0) := hX7.cell 2
    have z3 : w7.cell? ⟨w.heap.size, 3, none⟩ = some (.int .i64 0) := hX7.cell 3
    have z4 : w7.cell? ⟨w.heap.size, 4, none⟩ = some (.int .i64 0) := hX7.cell 4
    have z5 : w7.cell? ⟨w.heap.size, 5, none⟩ = some (.bool false) := hX7.cell 5
    have z6 : w7.cell? ⟨w.heap.size, 6, none⟩ = some (.int .i64 0) := hX7.cell 6
    have hXH := hid hX7
    have kk7H := hid (kk6H.out.trans hK7)
    have h2H := hid h7
    have hb1H := hid hb8
    clear hC hX6 hb6 hb7 hK7 hf hX7 h7 hb8 hD hL
    simp only [got]
    go_wp2_with (fail)
    obtain ⟨f1, f2⟩ := hfH.out _ rfl
    refine bodyPost_ret (got_ret2 f1 rfl _ rfl) rfl ?_
    exact ⟨rfl, h2H.out.onlyG f2 hXH.out, f2.below hb1H.out (by have := hb1H.out.size; omega) (fun k _ hk => by rw [hk]; exact hlo), kk7H.out.last f2 (Nat.le_refl _)⟩
end
end Go.Proofs.Ytabcodjalacdjaa.MchanCode
