
/- mchan: Take. -/
import Derived.Test.YtabcodjalacdjaaMchanRow
namespace Go.Proofs.Ytabcodjalacdjaa.MchanCode
open Go Go.RowKit Go.Proofs.Ytabcodjalacdjaa.Obj Go.Proofs.Ytabcodjalacdjaa.Iter Go.Proofs.Ytabcodjalacdjaa.RingCode Go.Proofs.YtabcodjalacdjaaW.PrintWords Go.Proofs.YtabcodjalacdjaaW.PrintLast Go.Proofs.YtabcodjalacdjaaW.PrintMore
attribute [local go_sem] Oper.semAt_some
set_option linter.unusedVariables false
set_option linter.unusedSimpArgs false
set_option maxRecDepth 100000
section
variable {lo : Nat} {w w' : World} {c most : Nat} {Bf : List Int} {R0 R1 : List Wt}
set_option maxHeartbeats 4000000 in
theorem take0_at {x : Wt} {l : List Wt} (h : ChAt lo w c most Bf (x :: l) R1) (hlo : lo ≤ w.heap.size) : Calls Try.prog 37 #[.pointer (some ⟨c, 0, none⟩), .bool false] w fun e w' => e = .returned (.tuple #[x.v, .int .i64 0]) ∧ ChAt lo w' c most Bf l R1 ∧ Below lo w w' ∧ Only (fun k => k = c) w w' := by
  have hB0 : Below w.heap.size w (w.alloc (.cells #[.int .i64 0, .int .i64 0, .int .i64 0] 48)) := (Below.refl _ w).alloc (Nat.le_refl _) _
  have hX := Blk.new w 48 [.int .i64 0, .int .i64 0, .int .i64 0]
  have h1 := h.below hB0
  obtain ⟨A0, cp0, hSe⟩ := h1.sees false
  have hF := first_at hSe
  rw [show (if false = true then R1 else (x :: l)) = x :: l from rfl] at hF
  obtain ⟨r, v0, v1, hO, hr, hR, hr0, hr1, hne⟩ := h.obj
  obtain ⟨Ak, cpk, rfl, hcpk⟩ := hr0.form
  obtain ⟨Ao, cpo, rfl, hcpo⟩ := hr1.form
  obtain ⟨g, o, rfl, hg, hgl, _, _, _, _⟩ := hr0.at (i := 0) (by simp)
  go_enter Try.func37, Try.ntmps37
  go_wp2_with (fail)
  refine hF.mono ?_
  rintro e w1 ⟨rfl, hb1⟩
  rw [show (x :: l).headD zeroW = x from rfl, show (!(x :: l).isEmpty) = true from rfl]
  have hb2 : Below w.heap.size w w1 := hB0.trans (hb1.mono hB0.size)
  have hX1 := hX.same (hb1.block _ hX.lt)
  have hY := Blk.new w1 48 x.cells
  have hX2 := hX1.alloc (.cells x.cells.toArray 48)
  have hb3 := hb2.alloc (o := .cells x.cells.toArray 48) hb2.size
  obtain ⟨w3, hw3⟩ : ∃ w3, w3 = w1.alloc (.cells x.cells.toArray 48) := ⟨_, rfl⟩
  have hw3' : w1.alloc (.cells #[.int .i64 x.task, .int .i64 x.case, .int .i64 x.val] 48) = w3 := hw3.symm
  have hs1 : w1.heap.size < w3.heap.size := by rw [hw3]; simp
  rw [← hw3] at hY hX2 hb3
  have hpw1 : w.heap.size < w1.heap.size := hX1.lt
  have qOf : ∀ n, Calls Try.prog 28 #[.bool false] (w3.drewN n) fun e w' => e = .returned (.int .i64 0) ∧ ∃ m, w' = w3.drewN m := fun n => (of_at false _).mono fun e w' ⟨a, b⟩ => ⟨a, n, b⟩
  have fin : ∀ (m : Nat) (v' : Value) (W4 : World), W4 = ((((w3.drewN m).setCell ⟨c, 2, none⟩ v').setCell ⟨w.heap.size, 0, none⟩ (.int .i64 x.task)).setCell ⟨w.heap.size, 1, none⟩ (.int .i64 x.case)).setCell ⟨w.heap.size, 2, none⟩ (.int .i64 x.val) →
      WRow lo w v' l → (∀ u, v'.ownBlock = some u → u = g) → ChAt lo W4 c most Bf l R1 ∧ (Below lo w W4 ∧ Only (fun k => k = c) w W4) ∧ W4.cell? ⟨w.heap.size, 0, none⟩ = some (.int .i64 x.task) ∧ W4.cell? ⟨w.heap.size, 1, none⟩ = some (.int .i64 x.case) ∧ W4.cell? ⟨w.heap.size, 2, none⟩ = some (.int .i64 x.val) := by
    intro m v' W4 e hrow hsub
    have hcp : c ≠ w.heap.size := Nat.ne_of_lt hO.lt
    have o4 : Only (fun k => k = c ∨ k = w.heap.size) w3 W4 := by
      rw [e]
      exact ((((Only.drewN _ w3 m).trans (Only.setCell _ ⟨c, 2, none⟩ _ (.inl rfl))).trans (Only.setCell _ ⟨w.heap.size, 0, none⟩ _ (.inr rfl))).trans (Only.setCell _ ⟨w.heap.size, 1, none⟩ _ (.inr rfl))).trans (Only.setCell _ ⟨w.heap.size, 2, none⟩ _ (.inr rfl))
    have k1 : Blk W4 c 72 [.pointer (some ⟨r, 0, none⟩), .bool false, v', (.slice Ao R1.length cpo)] := by
      rw [e]
      exact ((((show Blk (w3.drewN m) c _ _ from hO.same (hb3.block _ hO.lt)).set 2 v').set_other ⟨w.heap.size, 0, none⟩ _ hcp).set_other ⟨w.heap.size, 1, none⟩ _ hcp).set_other ⟨w.heap.size, 2, none⟩ _ hcp
    have x1 : Blk W4 w.heap.size 48 x.cells := by
      rw [e]
      exact ((((show Blk (w3.drewN m) w.heap.size _ _ from hX2).set_other ⟨c, 2, none⟩ v' (Ne.symm hcp)).set 0 (.int .i64 x.task)).set 1 (.int .i64 x.case)).set 2 (.int .i64 x.val)
    have hrc : ¬ (r = c ∨ r = w.heap.size) := by
      rintro (e1 | e1)
      · obtain ⟨_, _, q1, _⟩ := hR
        rw [e1] at q1
        have := q1.symm.trans hO
        simp at this
      · have := hR.lt; omega
    have hR4 := (hR.same (hb3.block _ hR.lt)).only o4 hrc
    have hrw : ∀ {v2 : Value} {L2 : List Wt}, WRow lo w v2 L2 → WRow lo W4 v2 L2 := fun hrow2 => (hrow2.below hb3).same fun u hu => o4.block u (by have := (hrow2.block hu).2; have := hb3.size; omega) (by
      rintro (e1 | e1)
      · obtain ⟨cur, hcur⟩ := hrow2.typed hu
        rw [e1] at hcur
        have := hO.symm.trans hcur
        simp at this
      · have := (hrow2.block hu).2; omega)
    have hrk4 := hrw hrow
    have hro4 := hrw hr1
    have hsub' : ∀ u, v'.ownBlock = some u → (Value.slice (some ⟨g, o, none⟩) (x :: l).length cpk).ownBlock = some u := fun u hu => by rw [hsub u hu]; rfl
    refine ⟨⟨?_, h.lo, by have := h.few0; simp at this; omega, h.few1⟩, ⟨?_, ((Only.none_of_below hb3).mono (T := fun k => k = c) (fun k _ hf => hf.elim)).trans' o4 (fun k hk hT => by rcases hT with h | h; exact h; omega)⟩, x1.cell 0, x1.cell 1, x1.cell 2⟩
    · exact ⟨r, v', _, k1, hr, hR4, hrk4, hro4, fun g hg hg2 => hne g (hsub' g hg) hg2⟩
    · exact o4.below (hb3.mono hlo) (by have := hb3.size; omega) (fun k _ hk => by
        rcases hk with rfl | rfl
        · exact h.lo
        · exact hlo)
  have finH := hid fin
  have hO3 := hO.same (hb3.block _ hO.lt)
  have g2 : w3.cell? ⟨c, 2, none⟩ = some (.slice (some ⟨g, o, none⟩) (x :: l).length cpk) := hO3.cell 2
  have gz := hO3.frozen
  have z0 : w3.cell? ⟨w.heap.size, 0, none⟩ = some (.int .i64 0) := hX2.cell 0
  have z1 : w3.cell? ⟨w.heap.size, 1, none⟩ = some (.int .i64 0) := hX2.cell 1
  have z2 : w3.cell? ⟨w.heap.size, 2, none⟩ = some (.int .i64 0) := hX2.cell 2
  have zz := hX2.frozen
  have y0 : w3.cell? ⟨w1.heap.size, 0, none⟩ = some (.int .i64 x.task) := hY.cell 0
  have y1 : w3.cell? ⟨w1.heap.size, 1, none⟩ = some (.int .i64 x.case) := hY.cell 1
  have y2 : w3.cell? ⟨w1.heap.size, 2, none⟩ = some (.int .i64 x.val) := hY.cell 2
  have hn1 : c ≠ w.heap.size := Nat.ne_of_lt hO.lt
  have hn2 : c ≠ w1.heap.size := by have := hO.lt; omega
  have hn3 : w1.heap.size ≠ w.heap.size := by omega
  have hl1 : (0 : Int) < ((x :: l).length : Int) := by simp
  have hcp1 : ((x :: l).length : Int) ≤ (cpk : Int) := by omega
  have hrkH := hid hr0
  have hcpH := hid hcpk
  clear hF hSe h1 hX hB0 hb1 hX1 hw3 hO3 hO hR hr0 hr1 hne fin hX2 hY hb2 hb3 hcpk hcpo h
  simp only [Wt.v]
  go_wp2_with (fail)
  go_quiet (exact qOf _)
  by_cases hc : cpk = 1
  · subst hc
    obtain ⟨rfl, hI4⟩ := hrkH.out.tail0
    clear hcp1
    go_wp2_with (fail)
    obtain ⟨k1, ⟨k2, k3⟩, u0, u1, u2⟩ := finH.out nq (.slice (some ⟨g, o, none⟩) 0 0) _ rfl hI4 (fun u hu => by simpa [Value.ownBlock] using hu.symm)
    refine bodyPost_ret (v := .tuple #[.agg #[.int .i64 x.task, .int .i64 x.case, .int .i64 x.val], .int .i64 0]) (by rw [results_cell_tmp rfl]; go_simp) rfl ?_
    exact ⟨rfl, k1, k2, k3⟩
  · have hI4 := hrkH.out.tail1 hc
    go_wp2_with (fail)
    obtain ⟨k1, ⟨k2, k3⟩, u0, u1, u2⟩ := finH.out nq (.slice (some ⟨g, o + 3, none⟩) l.length (cpk - 1)) _ rfl hI4 (fun u hu => by simpa [Value.ownBlock] using hu.symm)
    refine bodyPost_ret (v := .tuple #[.agg #[.int .i64 x.task, .int .i64 x.case, .int .i64 x.val], .int .i64 0]) (by rw [results_cell_tmp rfl]; go_simp) rfl ?_
    exact ⟨rfl, k1, k2, k3⟩
set_option maxHeartbeats 4000000 in
theorem take1_at {x : Wt} {l : List Wt} (h : ChAt lo w c most Bf R0 (x :: l)) (hlo : lo ≤ w.heap.size) : Calls Try.prog 37 #[.pointer (some ⟨c, 0, none⟩), .bool true] w fun e w' => e = .returned (.tuple #[x.v, .int .i64 0]) ∧ ChAt lo w' c most Bf R0 l ∧ Below lo w w' ∧ Only (fun k => k = c) w w' := by
  have hB0 : Below w.heap.size w (w.alloc (.cells #[.int .i64 0, .int .i64 0, .int .i64 0] 48)) := (Below.refl _ w).alloc (Nat.le_refl _) _
  have hX := Blk.new w 48 [.int .i64 0, .int .i64 0, .int .i64 0]
  have h1 := h.below hB0
  obtain ⟨A0, cp0, hSe⟩ := h1.sees true
  have hF := first_at hSe
  rw [show (if true = true then (x :: l) else R0) = x :: l from rfl] at hF
  obtain ⟨r, v0, v1, hO, hr, hR, hr0, hr1, hne⟩ := h.obj
  obtain ⟨Ak, cpk, rfl, hcpk⟩ := hr1.form
  obtain ⟨Ao, cpo, rfl, hcpo⟩ := hr0.form
  obtain ⟨g, o, rfl, hg, hgl, _, _, _, _⟩ := hr1.at (i := 0) (by simp)
  go_enter Try.func37, Try.ntmps37
  go_wp2_with (fail)
  refine hF.mono ?_
  rintro e w1 ⟨rfl, hb1⟩
  rw [show (x :: l).headD zeroW = x from rfl, show (!(x :: l).isEmpty) = true from rfl]
  have hb2 : Below w.heap.size w w1 := hB0.trans (hb1.mono hB0.size)
  have hX1 := hX.same (hb1.block _ hX.lt)
  have hY := Blk.new w1 48 x.cells
  have hX2 := hX1.alloc (.cells x.cells.toArray 48)
  have hb3 := hb2.alloc (o := .cells x.cells.toArray 48) hb2.size
  obtain ⟨w3, hw3⟩ : ∃ w3, w3 = w1.alloc (.cells x.cells.toArray 48) := ⟨_, rfl⟩
  have hw3' : w1.alloc (.cells #[.int .i64 x.task, .int .i64 x.case, .int .i64 x.val] 48) = w3 := hw3.symm
  have hs1 : w1.heap.size < w3.heap.size := by rw [hw3]; simp
  rw [← hw3] at hY hX2 hb3
  have hpw1 : w.heap.size < w1.heap.size := hX1.lt
  have qOf : ∀ n, Calls Try.prog 28 #[.bool true] (w3.drewN n) fun e w' => e = .returned (.int .i64 1) ∧ ∃ m, w' = w3.drewN m := fun n => (of_at true _).mono fun e w' ⟨a, b⟩ => ⟨a, n, b⟩
  have fin : ∀ (m : Nat) (v' : Value) (W4 : World), W4 = ((((w3.drewN m).setCell ⟨c, 3, none⟩ v').setCell ⟨w.heap.size, 0, none⟩ (.int .i64 x.task)).setCell ⟨w.heap.size, 1, none⟩ (.int .i64 x.case)).setCell ⟨w.heap.size, 2, none⟩ (.int .i64 x.val) →
      WRow lo w v' l → (∀ u, v'.ownBlock = some u → u = g) → ChAt lo W4 c most Bf R0 l ∧ (Below lo w W4 ∧ Only (fun k => k = c) w W4) ∧ W4.cell? ⟨w.heap.size, 0, none⟩ = some (.int .i64 x.task) ∧ W4.cell? ⟨w.heap.size, 1, none⟩ = some (.int .i64 x.case) ∧ W4.cell? ⟨w.heap.size, 2, none⟩ = some (.int .i64 x.val) := by
    intro m v' W4 e hrow hsub
    have hcp : c ≠ w.heap.size := Nat.ne_of_lt hO.lt
    have o4 : Only (fun k => k = c ∨ k = w.heap.size) w3 W4 := by
      rw [e]
      exact ((((Only.drewN _ w3 m).trans (Only.setCell _ ⟨c, 3, none⟩ _ (.inl rfl))).trans (Only.setCell _ ⟨w.heap.size, 0, none⟩ _ (.inr rfl))).trans (Only.setCell _ ⟨w.heap.size, 1, none⟩ _ (.inr rfl))).trans (Only.setCell _ ⟨w.heap.size, 2, none⟩ _ (.inr rfl))
    have k1 : Blk W4 c 72 [.pointer (some ⟨r, 0, none⟩), .bool false, (.slice Ao R0.length cpo), v'] := by
      rw [e]
      exact ((((show Blk (w3.drewN m) c _ _ from hO.same (hb3.block _ hO.lt)).set 3 v').set_other ⟨w.heap.size, 0, none⟩ _ hcp).set_other ⟨w.heap.size, 1, none⟩ _ hcp).set_other ⟨w.heap.size, 2, none⟩ _ hcp
    have x1 : Blk W4 w.heap.size 48 x.cells := by
      rw [e]
      exact ((((show Blk (w3.drewN m) w.heap.size _ _ from hX2).set_other ⟨c, 3, none⟩ v' (Ne.symm hcp)).set 0 (.int .i64 x.task)).set 1 (.int .i64 x.case)).set 2 (.int .i64 x.val)
    have hrc : ¬ (r = c ∨ r = w.heap.size) := by
      rintro (e1 | e1)
      · obtain ⟨_, _, q1, _⟩ := hR
        rw [e1] at q1
        have := q1.symm.trans hO
        simp at this
      · have := hR.lt; omega
    have hR4 := (hR.same (hb3.block _ hR.lt)).only o4 hrc
    have hrw : ∀ {v2 : Value} {L2 : List Wt}, WRow lo w v2 L2 → WRow lo W4 v2 L2 := fun hrow2 => (hrow2.below hb3).same fun u hu => o4.block u (by have := (hrow2.block hu).2; have := hb3.size; omega) (by
      rintro (e1 | e1)
      · obtain ⟨cur, hcur⟩ := hrow2.typed hu
        rw [e1] at hcur
        have := hO.symm.trans hcur
        simp at this
      · have := (hrow2.block hu).2; omega)
    have hrk4 := hrw hrow
    have hro4 := hrw hr0
    have hsub' : ∀ u, v'.ownBlock = some u → (Value.slice (some ⟨g, o, none⟩) (x :: l).length cpk).ownBlock = some u := fun u hu => by rw [hsub u hu]; rfl
    refine ⟨⟨?_, h.lo, h.few0, by have := h.few1; simp at this; omega⟩, ⟨?_, ((Only.none_of_below hb3).mono (T := fun k => k = c) (fun k _ hf => hf.elim)).trans' o4 (fun k hk hT => by rcases hT with h | h; exact h; omega)⟩, x1.cell 0, x1.cell 1, x1.cell 2⟩
    · exact ⟨r, _, v', k1, hr, hR4, hro4, hrk4, fun g hg hg2 => hne g hg (hsub' g hg2)⟩
    · exact o4.below (hb3.mono hlo) (by have := hb3.size; omega) (fun k _ hk => by
        rcases hk with rfl | rfl
        · exact h.lo
        · exact hlo)
  have finH := hid fin
  have hO3 := hO.same (hb3.block _ hO.lt)
  have g3 : w3.cell? ⟨c, 3, none⟩ = some (.slice (some ⟨g, o, none⟩) (x :: l).length cpk) := hO3.cell 3
  have gz := hO3.frozen
  have z0 : w3.cell? ⟨w.heap.size, 0, none⟩ = some (.int .i64 0) := hX2.cell 0
  have z1 : w3.cell? ⟨w.heap.size, 1, none⟩ = some (.int .i64 0) := hX2.cell 1
  have z2 : w3.cell? ⟨w.heap.size, 2, none⟩ = some (.int .i64 0) := hX2.cell 2
  have zz := hX2.frozen
  have y0 : w3.cell? ⟨w1.heap.size, 0, none⟩ = some (.int .i64 x.task) := hY.cell 0
  have y1 : w3.cell? ⟨w1.heap.size, 1, none⟩ = some (.int .i64 x.case) := hY.cell 1
  have y2 : w3.cell? ⟨w1.heap.size, 2, none⟩ = some (.int .i64 x.val) := hY.cell 2
  have hn1 : c ≠ w.heap.size := Nat.ne_of_lt hO.lt
  have hn2 : c ≠ w1.heap.size := by have := hO.lt; omega
  have hn3 : w1.heap.size ≠ w.heap.size := by omega
  have hl1 : (0 : Int) < ((x :: l).length : Int) := by simp
  have hcp1 : ((x :: l).length : Int) ≤ (cpk : Int) := by omega
  have hrkH := hid hr1
  have hcpH := hid hcpk
  clear hF hSe h1 hX hB0 hb1 hX1 hw3 hO3 hO hR hr0 hr1 hne fin hX2 hY hb2 hb3 hcpk hcpo h
  simp only [Wt.v]
  go_wp2_with (fail)
  go_quiet (exact qOf _)
  by_cases hc : cpk = 1
  · subst hc
    obtain ⟨rfl, hI4⟩ := hrkH.out.tail0
    clear hcp1
    go_wp2_with (fail)
    obtain ⟨k1, ⟨k2, k3⟩, u0, u1, u2⟩ := finH.out nq (.slice (some ⟨g, o, none⟩) 0 0) _ rfl hI4 (fun u hu => by simpa [Value.ownBlock] using hu.symm)
    refine bodyPost_ret (v := .tuple #[.agg #[.int .i64 x.task, .int .i64 x.case, .int .i64 x.val], .int .i64 0]) (by rw [results_cell_tmp rfl]; go_simp) rfl ?_
    exact ⟨rfl, k1, k2, k3⟩
  · have hI4 := hrkH.out.tail1 hc
    go_wp2_with (fail)
    obtain ⟨k1, ⟨k2, k3⟩, u0, u1, u2⟩ := finH.out nq (.slice (some ⟨g, o + 3, none⟩) l.length (cpk - 1)) _ rfl hI4 (fun u hu => by simpa [Value.ownBlock] using hu.symm)
    refine bodyPost_ret (v := .tuple #[.agg #[.int .i64 x.task, .int .i64 x.case, .int .i64 x.val], .int .i64 0]) (by rw [results_cell_tmp rfl]; go_simp) rfl ?_
    exact ⟨rfl, k1, k2, k3⟩
end
end Go.Proofs.Ytabcodjalacdjaa.MchanCode
