
/- mchan: meet, buffer, refill. -/
import Derived.Test.YtabcodjalacdjaaMchanGot
namespace Go.Proofs.Ytabcodjalacdjaa.MchanCode
open Go Go.RowKit Go.Proofs.Ytabcodjalacdjaa.Obj Go.Proofs.Ytabcodjalacdjaa.Iter Go.Proofs.Ytabcodjalacdjaa.RingCode Go.Proofs.YtabcodjalacdjaaW.PrintWords Go.Proofs.YtabcodjalacdjaaW.PrintLast Go.Proofs.YtabcodjalacdjaaW.PrintMore
attribute [local go_sem] Oper.semAt_some
set_option linter.unusedVariables false
set_option linter.unusedSimpArgs false
set_option maxRecDepth 100000
section
variable {lo : Nat} {w w' : World} {c most : Nat} {Bf : List Int} {R0 R1 : List Wt}
/-- What is done to the ring. -/
theorem ChAt.ring (h : ChAt lo w c most Bf R0 R1) (hlo : lo ≤ w.heap.size) : ∃ r, w.cell? ⟨c, 0, none⟩ = some (.pointer (some ⟨r, 0, none⟩)) ∧ RingAt w r most Bf ∧
    (∀ (Bf' : List Int) (w' : World), RingAt w' r most Bf' → Only (fun k => k = r) w w' → ChAt lo w' c most Bf' R0 R1 ∧ Below lo w w' ∧ ∀ p t vs, t ≠ 88 → Blk w p t vs → Blk w' p t vs) := by
  obtain ⟨r, v0, v1, hO, hr, hR, hr0, hr1, hne⟩ := h.obj
  refine ⟨r, hO.cell 0, hR, fun Bf' w' hR1 o1 => ?_⟩
  have hcr : ¬ c = r := fun e => by
    obtain ⟨_, _, q1, _⟩ := hR
    rw [← e] at q1
    have := q1.symm.trans hO
    simp at this
  have hrw : ∀ {v : Value} {L : List Wt}, WRow lo w v L → WRow lo w' v L := fun hw => hw.same fun g hg => o1.block g (hw.block hg).2 fun hs => by
    obtain ⟨_, _, q1, _⟩ := hR
    obtain ⟨cur, hcur⟩ := hw.typed hg
    rw [hs] at hcur
    have := q1.symm.trans hcur
    simp at this
  refine ⟨⟨⟨r, v0, v1, hO.only o1 hcr, hr, hR1, hrw hr0, hrw hr1, hne⟩, h.lo, h.few0, h.few1⟩, o1.below (Below.refl _ _) hlo (fun k _ hk => by rw [hk]; exact hr), fun p t vs ht hp => hp.only o1 fun e => ?_⟩
  obtain ⟨_, _, q1, _⟩ := hR
  have e2 : p = r := e
  rw [← e2] at q1
  have := q1.symm.trans hp
  simp at this
  exact ht this.2.symm
set_option maxHeartbeats 4000000 in
/-- A value is taken out of the buffer. -/
theorem buffer0_at {v : Int} {b : List Int} (h : ChAt lo w c most (v :: b) R0 R1) (hlo : lo ≤ w.heap.size) (u : Int) : Calls Try.prog 30 #[.pointer (some ⟨c, 0, none⟩), .bool false, .int .i64 u] w fun e w' => e = .returned (got 3 zeroW v true 0) ∧ ChAt lo w' c most b R0 R1 ∧ Below lo w w' ∧ KeepG w w' := by
  have hB0 : Below w.heap.size w (w.alloc (.cells zg.toArray 50)) := (Below.refl _ w).alloc (Nat.le_refl _) _
  have hX := Blk.new w 50 zg
  obtain ⟨w0, hw0⟩ : ∃ w0, w0 = w.alloc (.cells zg.toArray 50) := ⟨_, rfl⟩
  have hw0' : w.alloc (.cells #[.int .u8 0, .int .i64 0, .int .i64 0, .int .i64 0, .int .i64 0, .bool false, .int .i64 0] 50) = w0 := hw0.symm
  rw [← hw0] at hB0 hX
  have h1 := h.below hB0
  have hlo0 := Nat.le_trans hlo hB0.size
  have hbl := hB0.mono hlo
  clear hw0
  obtain ⟨r, g0, hR, hop⟩ := h1.ring hlo0
  have hT := RingCode.take_at hR
  clear h1
  go_enter Try.func30, Try.ntmps30
  go_wp2_with (fail)
  refine hT.mono ?_
  rintro e w1 ⟨rfl, hR1, o1⟩
  obtain ⟨h2, hb1, hk⟩ := hop _ w1 hR1 o1
  have hX1 := hk _ _ _ (by decide) hX
  have hb2 := hbl.trans hb1
  have hKG := hid ((KeepG.below hB0).trans (fun q vs hq => hk _ _ _ (by decide) hq))
  clear hT hR hop hR1 o1 hk hb1 hX g0 hbl hB0
  have hf := got_fin hX1 rfl 3 zeroW v true 0
  have hfH := hid hf
  have hz := hX1.frozen
  have z0 : w1.cell? ⟨w.heap.size, 0, none⟩ = some (.int .u8 0) := hX1.cell 0
  have z1 : w1.cell? ⟨w.heap.size, 1, none⟩ = some (.int .i64 0) := hX1.cell 1
  have z2 : w1.cell? ⟨w.heap.size, 2, none⟩ = some (.int .i64 0) := hX1.cell 2
  have z3 : w1.cell? ⟨w.heap.size, 3, none⟩ = some (.int .i64 0) := hX1.cell 3
  have z4 : w1.cell? ⟨w.heap.size, 4, none⟩ = some (.int .i64 0) := hX1.cell 4
  have z5 : w1.cell? ⟨w.heap.size, 5, none⟩ = some (.bool false) := hX1.cell 5
  have z6 : w1.cell? ⟨w.heap.size, 6, none⟩ = some (.int .i64 0) := hX1.cell 6
  have hXH := hid hX1
  have h2H := hid h2
  have hb1H := hid hb2
  clear hf hX1 h2 hb2
  go_wp2_with (fail)
  obtain ⟨f1, f2⟩ := hfH.out _ rfl
  refine bodyPost_ret (got_ret f1 rfl _ rfl) rfl ?_
  exact ⟨rfl, h2H.out.onlyG f2 hXH.out, f2.below hb1H.out (by have := hb1H.out.size; omega) (fun k _ hk => by rw [hk]; exact hlo), hKG.out.last f2 (Nat.le_refl _)⟩
set_option maxHeartbeats 4000000 in
theorem meet1_at {x : Wt} {l : List Wt} (h : ChAt lo w c most Bf (x :: l) R1) (hlo : lo ≤ w.heap.size) (u : Int) : Calls Try.prog 29 #[.pointer (some ⟨c, 0, none⟩), .bool true, .int .i64 u] w fun e w' => e = .returned (got 2 x u true 0) ∧ ChAt lo w' c most Bf l R1 ∧ Below lo w w' ∧ KeepG w w' := by
  have hB0 : Below w.heap.size w (w.alloc (.cells zg.toArray 50)) := (Below.refl _ w).alloc (Nat.le_refl _) _
  have hX := Blk.new w 50 zg
  obtain ⟨w0, hw0⟩ : ∃ w0, w0 = w.alloc (.cells zg.toArray 50) := ⟨_, rfl⟩
  have hw0' : w.alloc (.cells #[.int .u8 0, .int .i64 0, .int .i64 0, .int .i64 0, .int .i64 0, .bool false, .int .i64 0] 50) = w0 := hw0.symm
  rw [← hw0] at hB0 hX
  have h1 := h.below hB0
  have hlo0 := Nat.le_trans hlo hB0.size
  have hbl := hB0.mono hlo
  clear hw0
  have hT := take0_at h1 hlo0
  have hpc : ¬ w.heap.size = c := Nat.ne_of_gt h.lt
  obtain ⟨us, hch⟩ := h1.chan
  clear h1
  go_enter Try.func29, Try.ntmps29
  go_wp2_with (fail)
  refine hT.mono ?_
  rintro e w1 ⟨rfl, h2, hb1, o1⟩
  have hX1 := hX.only o1 hpc
  have hK1 := (KeepG.below hB0).trans (KeepG.chan o1 hch (by decide))
  have hb2 := hbl.trans hb1
  have ha : Below w1.heap.size w1 (w1.alloc (.cells x.cells.toArray 48)) := (Below.refl _ w1).alloc (Nat.le_refl _) _
  have hY := Blk.new w1 48 x.cells
  have h3 := h2.below ha
  have hKG := hid (hK1.trans (KeepG.below ha))
  have hX2 := hX1.same (ha.block _ hX1.lt)
  have hb3 := hb2.trans (ha.mono (Nat.le_trans hlo hb2.size))
  obtain ⟨w2, hw2⟩ : ∃ w2, w2 = w1.alloc (.cells x.cells.toArray 48) := ⟨_, rfl⟩
  have hw2' : w1.alloc (.cells #[.int .i64 x.task, .int .i64 x.case, .int .i64 x.val] 48) = w2 := hw2.symm
  rw [← hw2] at hY h3 hX2 hb3 hKG
  have y0 : w2.cell? ⟨w1.heap.size, 0, none⟩ = some (.int .i64 x.task) := hY.cell 0
  have y1 : w2.cell? ⟨w1.heap.size, 1, none⟩ = some (.int .i64 x.case) := hY.cell 1
  have y2 : w2.cell? ⟨w1.heap.size, 2, none⟩ = some (.int .i64 x.val) := hY.cell 2
  have hn : w1.heap.size ≠ w.heap.size := Nat.ne_of_gt hX1.lt
  simp only [Wt.v]
  clear hT hX h2 hb1 o1 hX1 hb2 ha hY hw2 hpc hbl hB0 hK1 hch
  have hf := got_fin hX2 rfl 2 x u true 0
  have hfH := hid hf
  have hz := hX2.frozen
  have z0 : w2.cell? ⟨w.heap.size, 0, none⟩ = some (.int .u8 0) := hX2.cell 0
  have z1 : w2.cell? ⟨w.heap.size, 1, none⟩ = some (.int .i64 0) := hX2.cell 1
  have z2 : w2.cell? ⟨w.heap.size, 2, none⟩ = some (.int .i64 0) := hX2.cell 2
  have z3 : w2.cell? ⟨w.heap.size, 3, none⟩ = some (.int .i64 0) := hX2.cell 3
  have z4 : w2.cell? ⟨w.heap.size, 4, none⟩ = some (.int .i64 0) := hX2.cell 4
  have z5 : w2.cell? ⟨w.heap.size, 5, none⟩ = some (.bool false) := hX2.cell 5
  have z6 : w2.cell? ⟨w.heap.size, 6, none⟩ = some (.int .i64 0) := hX2.cell 6
  have hXH := hid hX2
  have h2H := hid h3
  have hb1H := hid hb3
  clear hf hX2 h3 hb3
  go_wp2_with (fail)
  obtain ⟨f1, f2⟩ := hfH.out _ rfl
  refine bodyPost_ret (got_ret f1 rfl _ rfl) rfl ?_
  exact ⟨rfl, h2H.out.onlyG f2 hXH.out, f2.below hb1H.out (by have := hb1H.out.size; omega) (fun k _ hk => by rw [hk]; exact hlo), hKG.out.last f2 (Nat.le_refl _)⟩
set_option maxHeartbeats 4000000 in
theorem meet0_at {x : Wt} {l : List Wt} (h : ChAt lo w c most Bf R0 (x :: l)) (hlo : lo ≤ w.heap.size) (u : Int) : Calls Try.prog 29 #[.pointer (some ⟨c, 0, none⟩), .bool false, .int .i64 u] w fun e w' => e = .returned (got 2 x x.val true 0) ∧ ChAt lo w' c most Bf R0 l ∧ Below lo w w' ∧ KeepG w w' := by
  have hB0 : Below w.heap.size w (w.alloc (.cells zg.toArray 50)) := (Below.refl _ w).alloc (Nat.le_refl _) _
  have hX := Blk.new w 50 zg
  obtain ⟨w0, hw0⟩ : ∃ w0, w0 = w.alloc (.cells zg.toArray 50) := ⟨_, rfl⟩
  have hw0' : w.alloc (.cells #[.int .u8 0, .int .i64 0, .int .i64 0, .int .i64 0, .int .i64 0, .bool false, .int .i64 0] 50) = w0 := hw0.symm
  rw [← hw0] at hB0 hX
  have h1 := h.below hB0
  have hlo0 := Nat.le_trans hlo hB0.size
  have hbl := hB0.mono hlo
  clear hw0
  have hT := take1_at h1 hlo0
  have hpc : ¬ w.heap.size = c := Nat.ne_of_gt h.lt
  obtain ⟨us, hch⟩ := h1.chan
  clear h1
  go_enter Try.func29, Try.ntmps29
  go_wp2_with (fail)
  refine hT.mono ?_
  rintro e w1 ⟨rfl, h2, hb1, o1⟩
  have hX1 := hX.only o1 hpc
  have hK1 := (KeepG.below hB0).trans (KeepG.chan o1 hch (by decide))
  have hb2 := hbl.trans hb1
  have ha : Below w1.heap.size w1 (w1.alloc (.cells x.cells.toArray 48)) := (Below.refl _ w1).alloc (Nat.le_refl _) _
  have hY := Blk.new w1 48 x.cells
  have h3 := h2.below ha
  have hKG := hid (hK1.trans (KeepG.below ha))
  have hX2 := hX1.same (ha.block _ hX1.lt)
  have hb3 := hb2.trans (ha.mono (Nat.le_trans hlo hb2.size))
  obtain ⟨w2, hw2⟩ : ∃ w2, w2 = w1.alloc (.cells x.cells.toArray 48) := ⟨_, rfl⟩
  have hw2' : w1.alloc (.cells #[.int .i64 x.task, .int .i64 x.case, .int .i64 x.val] 48) = w2 := hw2.symm
  rw [← hw2] at hY h3 hX2 hb3 hKG
  have y0 : w2.cell? ⟨w1.heap.size, 0, none⟩ = some (.int .i64 x.task) := hY.cell 0
  have y1 : w2.cell? ⟨w1.heap.size, 1, none⟩ = some (.int .i64 x.case) := hY.cell 1
  have y2 : w2.cell? ⟨w1.heap.size, 2, none⟩ = some (.int .i64 x.val) := hY.cell 2
  have hn : w1.heap.size ≠ w.heap.size := Nat.ne_of_gt hX1.lt
  simp only [Wt.v]
  clear hT hX h2 hb1 o1 hX1 hb2 ha hY hw2 hpc hbl hB0 hK1 hch
  have hf := got_fin hX2 rfl 2 x x.val true 0
  have hfH := hid hf
  have hz := hX2.frozen
  have z0 : w2.cell? ⟨w.heap.size, 0, none⟩ = some (.int .u8 0) := hX2.cell 0
  have z1 : w2.cell? ⟨w.heap.size, 1, none⟩ = some (.int .i64 0) := hX2.cell 1
  have z2 : w2.cell? ⟨w.heap.size, 2, none⟩ = some (.int .i64 0) := hX2.cell 2
  have z3 : w2.cell? ⟨w.heap.size, 3, none⟩ = some (.int .i64 0) := hX2.cell 3
  have z4 : w2.cell? ⟨w.heap.size, 4, none⟩ = some (.int .i64 0) := hX2.cell 4
  have z5 : w2.cell? ⟨w.heap.size, 5, none⟩ = some (.bool false) := hX2.cell 5
  have z6 : w2.cell? ⟨w.heap.size, 6, none⟩ = some (.int .i64 0) := hX2.cell 6
  have hXH := hid hX2
  have h2H := hid h3
  have hb1H := hid hb3
  clear hf hX2 h3 hb3
  go_wp2_with (fail)
  obtain ⟨f1, f2⟩ := hfH.out _ rfl
  refine bodyPost_ret (got_ret f1 rfl _ rfl) rfl ?_
  exact ⟨rfl, h2H.out.onlyG f2 hXH.out, f2.below hb1H.out (by have := hb1H.out.size; omega) (fun k _ hk => by rw [hk]; exact hlo), hKG.out.last f2 (Nat.le_refl _)⟩
set_option maxHeartbeats 4000000 in
/-- A value is taken, and one that waits puts its own. -/
theorem refill_at {v : Int} {b : List Int} {x : Wt} {l : List Wt} (h : ChAt lo w c most (v :: b) R0 (x :: l)) (hlo : lo ≤ w.heap.size) (u : Int) : Calls Try.prog 31 #[.pointer (some ⟨c, 0, none⟩), .bool false, .int .i64 u] w fun e w' => e = .returned (got 4 x v true x.val) ∧ ChAt lo w' c most (b ++ [x.val]) R0 l ∧ Below lo w w' ∧ KeepG w w' := by
  have hB0 : Below w.heap.size w (w.alloc (.cells zg.toArray 50)) := (Below.refl _ w).alloc (Nat.le_refl _) _
  have hX := Blk.new w 50 zg
  obtain ⟨w0, hw0⟩ : ∃ w0, w0 = w.alloc (.cells zg.toArray 50) := ⟨_, rfl⟩
  have hw0' : w.alloc (.cells #[.int .u8 0, .int .i64 0, .int .i64 0, .int .i64 0, .int .i64 0, .bool false, .int .i64 0] 50) = w0 := hw0.symm
  rw [← hw0] at hB0 hX
  have h1 := h.below hB0
  have hlo0 := Nat.le_trans hlo hB0.size
  have hbl := hB0.mono hlo
  clear hw0
  obtain ⟨r, g0, hR, hop⟩ := h1.ring hlo0
  have hfit := hR.fit
  have hT := RingCode.take_at hR
  have hpc : ¬ w.heap.size = c := Nat.ne_of_gt h.lt
  clear h1
  go_enter Try.func31, Try.ntmps31
  go_wp2_with (fail)
  refine hT.mono ?_
  rintro e w1 ⟨rfl, hR1, o1⟩
  obtain ⟨h2, hb1, hk⟩ := hop _ w1 hR1 o1
  have hX1 := hk _ _ _ (by decide) hX
  have hb2 := hbl.trans hb1
  have hK1 := (KeepG.below hB0).trans (show KeepG _ _ from fun q vs hq => hk _ _ _ (by decide) hq)
  obtain ⟨us, hch⟩ := h2.chan
  have hlo1 := Nat.le_trans hlo hb2.size
  have hT2 := take1_at h2 hlo1
  clear hT hR hop hR1 o1 hk hb1 hX g0 hbl hB0 h2
  go_wp2_with (fail)
  refine hT2.mono ?_
  rintro e w2 ⟨rfl, h3, hb3, o3⟩
  have hK2 := hK1.trans (KeepG.chan o3 hch (by decide))
  have hX2 := hX1.only o3 hpc
  have hb4 := hb2.trans hb3
  have ha : Below w2.heap.size w2 (w2.alloc (.cells x.cells.toArray 48)) := (Below.refl _ w2).alloc (Nat.le_refl _) _
  have hY := Blk.new w2 48 x.cells
  have h4 := h3.below ha
  have hK3 := hK2.trans (KeepG.below ha)
  have hX3 := hX2.same (ha.block _ hX2.lt)
  have hlo2 := Nat.le_trans hlo hb4.size
  have hb5 := hb4.trans (ha.mono hlo2)
  obtain ⟨w3, hw3⟩ : ∃ w3, w3 = w2.alloc (.cells x.cells.toArray 48) := ⟨_, rfl⟩
  have hw3' : w2.alloc (.cells #[.int .i64 x.task, .int .i64 x.case, .int .i64 x.val] 48) = w3 := hw3.symm
  rw [← hw3] at hY h4 hX3 hb5 hK3
  clear hK1 hK2 hch
  have y0 : w3.cell? ⟨w2.heap.size, 0, none⟩ = some (.int .i64 x.task) := hY.cell 0
  have y1 : w3.cell? ⟨w2.heap.size, 1, none⟩ = some (.int .i64 x.case) := hY.cell 1
  have y2 : w3.cell? ⟨w2.heap.size, 2, none⟩ = some (.int .i64 x.val) := hY.cell 2
  have hlo3 := Nat.le_trans hlo hb5.size
  obtain ⟨r', g0, hR, hop⟩ := h4.ring hlo3
  have hl : b.length < most := by simp at hfit; omega
  have hP := RingCode.put_at (w := w3.drew) (hR.same rfl) hl x.val
  simp only [Wt.v]
  clear hT2 h3 hb3 o3 hX1 hX2 hb2 hb4 ha hw3 h4 hpc hfit
  go_wp2_with (fail)
  go_region_with (first | ((go_at_call 38); (refine hP.mono ?_); (rintro e w5 ⟨rfl, hR5, o5⟩)))
  all_goals
    obtain ⟨h6, hb6, hk6⟩ := hop _ w5 hR5 ((Only.drew _ w3).trans o5)
    have hX5 := hk6 _ _ _ (by decide) hX3
    have hY5 := hk6 _ _ _ (by decide) hY
    have y0 : w5.cell? ⟨w2.heap.size, 0, none⟩ = some (.int .i64 x.task) := hY5.cell 0
    have y1 : w5.cell? ⟨w2.heap.size, 1, none⟩ = some (.int .i64 x.case) := hY5.cell 1
    have y2 : w5.cell? ⟨w2.heap.size, 2, none⟩ = some (.int .i64 x.val) := hY5.cell 2
    have hb7 := hb5.trans hb6
    have hf := got_fin hX5 rfl 4 x v true x.val
    have hfH := hid hf
    have hz := hX5.frozen
    have z0 : w5.cell? ⟨w.heap.size, 0, none⟩ = some (.int .u8 0) := hX5.cell 0
    have z1 : w5.cell? ⟨w.heap.size, 1, none⟩ = some (.int .i64 0) := hX5.cell 1
    have z2 : w5.cell? ⟨w.heap.size, 2, none⟩ = some (.int .i64 0) := hX5.cell 2
    have z3 : w5.cell? ⟨w.heap.size, 3, none⟩ = some (.int .i64 0) := hX5.cell 3
    have z4 : w5.cell? ⟨w.heap.size, 4, none⟩ = some (.int .i64 0) := hX5.cell 4
    have z5 : w5.cell? ⟨w.heap.size, 5, none⟩ = some (.bool false) := hX5.cell 5
    have z6 : w5.cell? ⟨w.heap.size, 6, none⟩ = some (.int .i64 0) := hX5.cell 6
    have hKG := hid (hK3.trans (show KeepG _ _ from fun q vs hq => hk6 _ _ _ (by decide) hq))
    have hXH := hid hX5
    have h2H := hid h6
    have hb1H := hid hb7
    clear hK3 hP hR hop hR5 o5 hX3 hY hb5 hb6 hk6 hY5 hf hX5 h6 hb7 g0
    go_wp2_with (fail)
    obtain ⟨f1, f2⟩ := hfH.out _ rfl
    refine bodyPost_ret (got_ret f1 rfl _ rfl) rfl ?_
    exact ⟨rfl, h2H.out.onlyG f2 hXH.out, f2.below hb1H.out (by have := hb1H.out.size; omega) (fun k _ hk => by rw [hk]; exact hlo), hKG.out.last f2 (Nat.le_refl _)⟩
end
end Go.Proofs.Ytabcodjalacdjaa.MchanCode
