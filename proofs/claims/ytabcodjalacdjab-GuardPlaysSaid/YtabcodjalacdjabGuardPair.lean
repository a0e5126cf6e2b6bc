
/- Guards and the document's, side by side. -/
import Derived.Test.YtabcodjalacdjabGuardSame
namespace Go.Proofs.Ytabcodjalacdjab.GuardPlays
open Go Go.RowKit Go.Proofs.Ytabcodjalacdjab.Obj Go.Proofs.Ytabcodjalacdjab.Row Go.Proofs.YtabcodjalacdjabW.PrintWords Go.Proofs.YtabcodjalacdjabW.PrintMore
open Go.Proofs.Ytabcodjalacdjab.TicketCode (Sm TAt)
open Go.Proofs.Ytabcodjalacdjab.GuardCode
open Go.Proofs.Ytabcodjalacdjab.RefGuard
open Go.Proofs.Ytabcodjalacdjab.RefCells (RC)
set_option linter.unusedVariables false
set_option maxRecDepth 100000
/-- The document's guards, on the same locks. -/
structure RMany (w : World) (y m lo : Nat) (rs : List Nat) (ss : List Gs) (L : List Nat) (N : Nat) : Prop where
  t : RL w y m lo L N
  len : rs.length = ss.length
  g : ∀ i p, rs[i]? = some p → RG w p y (ss.getD i default)
  nd : rs.Nodup
def RMS (rs : List Nat) (m : Nat) : Nat → Prop := fun k => k ∈ rs ∨ k = m
section
variable {w w' : World} {x c lb y m lo : Nat} {L L' : List Nat} {N N' : Nat} {ps rs : List Nat} {ss : List Gs} {s' : Gs}
theorem nodup_ne {ps : List Nat} (nd : ps.Nodup) {i j p q : Nat} (hp : ps[i]? = some p) (hq : ps[j]? = some q) (e : i ≠ j) : q ≠ p := by
  rintro rfl
  obtain ⟨h1, h2⟩ := List.getElem?_eq_some_iff.mp hp
  obtain ⟨h3, h4⟩ := List.getElem?_eq_some_iff.mp hq
  have hpw := List.pairwise_iff_getElem.mp nd
  rcases Nat.lt_or_ge i j with h5 | h5
  · exact hpw i j h1 h3 h5 (h2.trans h4.symm)
  · exact hpw j i h3 h1 (by omega) (h4.trans h2.symm)
theorem getD_set_self {ss : List Gs} {i : Nat} (hi : i < ss.length) (s' : Gs) : (ss.set i s').getD i default = s' := by
  rw [List.getD_eq_getElem?_getD, List.getElem?_set_self hi]; rfl
theorem getD_set_ne {ss : List Gs} {i j : Nat} (e : i ≠ j) (s' : Gs) : (ss.set i s').getD j default = ss.getD j default := by
  rw [List.getD_eq_getElem?_getD, List.getElem?_set_ne e, ← List.getD_eq_getElem?_getD]
theorem RMany.lt (h : RMany w y m lo rs ss L N) {i p : Nat} (hp : rs[i]? = some p) : i < ss.length := by
  rw [← h.len]; exact (List.getElem?_eq_some_iff.mp hp).1
theorem RMany.both (h : RMany w y m lo rs ss L N) {i p : Nat} (hp : rs[i]? = some p) : RB w p y m lo (ss.getD i default) L N := ⟨h.g i p hp, h.t⟩
theorem RMany.below (h : RMany w y m lo rs ss L N) (hb : Below w.heap.size w w') : RMany w' y m lo rs ss L N := ⟨h.t.below hb, h.len, fun i p hp => (h.g i p hp).below hb, h.nd⟩
theorem RMany.set (h : RMany w y m lo rs ss L N) {i p : Nat} (hp : rs[i]? = some p) (hB : RB w' p y m lo s' L' N') (o : Only (RS p m) w w') : RMany w' y m lo rs (ss.set i s') L' N' := by
  refine ⟨hB.t, by rw [List.length_set]; exact h.len, fun j q hq => ?_, h.nd⟩
  by_cases e : i = j
  · subst e
    rw [hp] at hq
    cases hq
    rw [getD_set_self (h.lt hp)]
    exact hB.g
  · rw [getD_set_ne e]
    obtain ⟨n1, n2⟩ := (h.both hq).ne
    refine (h.g j q hq).only o ?_ ?_
    · rintro (h1 | h1)
      · exact nodup_ne h.nd hp hq e h1
      · exact n2 h1
    · intro k hk vs
      rcases hk with rfl | rfl
      · obtain ⟨A0, c0, hO, _⟩ := (h.both hp).g.obj
        exact not_int hO (by decide) vs
      · exact m_int h.t vs
theorem rms_of {p i : Nat} (hp : rs[i]? = some p) (o : Only (RS p m) w w') : Only (RMS rs m) w w' := o.mono fun k _ hk => by
  rcases hk with rfl | h
  · exact .inl (List.mem_of_getElem? hp)
  · exact .inr h
/-- What a program's write may hit. -/
theorem ms_typ (M : Many w x c lb ps ss L N) {k : Nat} (hk : MS ps c lb k) : ∃ us t, w.heap[k]? = some (.cells us t (0, 0)) ∧ (t = 76 ∨ t = 86 ∨ (t = 48 ∧ k = lb)) := by
  rcases hk with h | rfl | rfl
  · obtain ⟨i, hi, rfl⟩ := List.mem_iff_getElem.mp h
    obtain ⟨A0, c0, hO, _⟩ := (M.g i ps[i] (List.getElem?_eq_getElem hi)).obj
    exact ⟨_, _, hO, .inl rfl⟩
  · exact ⟨_, _, M.t.cells.obj, .inr (.inl rfl)⟩
  · exact ⟨_, _, M.t.cells.row, .inr (.inr ⟨rfl, rfl⟩)⟩
theorem ms_off (M : Many w x c lb ps ss L N) {p : Nat} {t : TypeId} {vs : List Value} (hB : Blk w p t vs) (h1 : t ≠ 76) (h2 : t ≠ 86) (h3 : t ≠ 48) : ¬ MS ps c lb p := by
  intro hk
  obtain ⟨us, u, e, hu⟩ := ms_typ M hk
  have := hB.symm.trans e
  simp at this
  rcases hu with hu | hu | ⟨hu, _⟩
  · exact h1 (this.2.trans hu)
  · exact h2 (this.2.trans hu)
  · exact h3 (this.2.trans hu)
theorem rms_typ (R : RMany w y m lo rs ss L N) {k : Nat} (hk : RMS rs m k) : ∃ us t, w.heap[k]? = some (.cells us t (0, 0)) ∧ (t = 58 ∨ t = 50) := by
  rcases hk with h | rfl
  · obtain ⟨i, hi, rfl⟩ := List.mem_iff_getElem.mp h
    obtain ⟨A0, c0, hO, _⟩ := (R.g i rs[i] (List.getElem?_eq_getElem hi)).obj
    exact ⟨_, _, hO, .inl rfl⟩
  · obtain ⟨b, c, hO, _⟩ := R.t.cells.obj
    exact ⟨_, _, hO, .inr rfl⟩
theorem rms_off (R : RMany w y m lo rs ss L N) {p : Nat} {t : TypeId} {vs : List Value} (hB : Blk w p t vs) (h1 : t ≠ 58) (h2 : t ≠ 50) : ¬ RMS rs m p := by
  intro hk
  obtain ⟨us, u, e, hu⟩ := rms_typ R hk
  have := hB.symm.trans e
  simp at this
  rcases hu with hu | hu
  · exact h1 (this.2.trans hu)
  · exact h2 (this.2.trans hu)
/-- The document's guards behind a step of the program's. -/
theorem RMany.prog {S : Nat → Prop} {ss' : List Gs} (R : RMany w y m lo rs ss' L' N') (M : Many w x c lb ps ss L N) (hlb : lb < lo) (o : Only (MS ps c lb) w w') : RMany w' y m lo rs ss' L' N' := by
  have hni : ∀ k, MS ps c lb k → ∀ vs, w.heap[k]? ≠ some (.cells vs 3 (0, 0)) := fun k hk vs e => by
    obtain ⟨us, u, e2, hu⟩ := ms_typ M hk
    rw [e2] at e
    simp at e
    obtain ⟨_, rfl⟩ := e
    rcases hu with hu | hu | ⟨hu, _⟩ <;> exact absurd hu (by decide)
  obtain ⟨b, cp, hO, hR⟩ := R.t.cells.obj
  refine ⟨⟨R.t.cells.only o (ms_off M hO (by decide) (by decide) (by decide)) (fun k hk hlo vs e => ?_), R.t.obj.only o (ms_off M R.t.obj (by decide) (by decide) (by decide)), R.t.len⟩, R.len, fun i p hp => ?_, R.nd⟩
  · obtain ⟨us, u, e2, hu⟩ := ms_typ M hk
    rw [e2] at e
    simp at e
    obtain ⟨_, rfl⟩ := e
    rcases hu with hu | hu | ⟨_, hu⟩
    · exact absurd hu (by decide)
    · exact absurd hu (by decide)
    · omega
  · obtain ⟨A0, c0, hG, _⟩ := (R.g i p hp).obj
    exact (R.g i p hp).only o (ms_off M hG (by decide) (by decide) (by decide)) hni
/-- The program's behind a step of the document's. -/
theorem many_ref {ss' : List Gs} (M : Many w x c lb ps ss L N) (R : RMany w y m lo rs ss' L' N') (o : Only (RMS rs m) w w') : Many w' x c lb ps ss L N := by
  have hni : ∀ k, RMS rs m k → ∀ vs, w.heap[k]? ≠ some (.cells vs 3 (0, 0)) := fun k hk vs e => by
    obtain ⟨us, u, e2, hu⟩ := rms_typ R hk
    rw [e2] at e
    simp at e
    obtain ⟨_, rfl⟩ := e
    rcases hu with hu | hu <;> exact absurd hu (by decide)
  refine ⟨M.t.only o (rms_off R M.t.cells.obj (by decide) (by decide)) (rms_off R M.t.cells.row (by decide) (by decide)) (rms_off R M.t.obj (by decide) (by decide)), M.len, fun i p hp => ?_, M.nd, M.sm, M.rise⟩
  obtain ⟨A0, c0, hG, _⟩ := (M.g i p hp).obj
  exact (M.g i p hp).only o (rms_off R hG (by decide) (by decide)) hni
/-- Both. -/
structure Pair (w : World) (x c lb y m lo : Nat) (ps rs : List Nat) (ss : List Gs) (L : List Nat) (N : Nat) : Prop where
  p : Many w x c lb ps ss L N
  r : RMany w y m lo rs ss L N
  ok : ∀ i, i < ss.length → Oks (ss.getD i default)
  lb : lb < lo
theorem Pair.below (h : Pair w x c lb y m lo ps rs ss L N) (hb : Below w.heap.size w w') : Pair w' x c lb y m lo ps rs ss L N := ⟨h.p.below hb, h.r.below hb, h.ok, h.lb⟩
theorem oks_step {s : Gs} (h : Oks s) (L : List Nat) : Oks (stepA s L).s := by
  have h1 := h.le
  have h2 := h.drawn
  have h3 := h.mine
  unfold stepA
  split
  · exact h
  · split
    · exact ⟨h.rise, h1, fun _ => by show s.n < s.row.length; omega, fun e => by simp at e⟩
    · split
      · exact ⟨h.rise, by show s.n + 1 ≤ s.row.length; omega, fun e => by simp at e, fun _ => rfl⟩
      · exact h
theorem oks_give {s : Gs} (h : Oks s) (L : List Nat) : Oks (giveA s L).s := by
  have h1 := h.le
  unfold giveA
  split
  · exact h
  · split
    · exact h
    · rename_i h2 h3
      have hd : s.drawn = false := by cases hd : s.drawn with | true => exact absurd hd h3 | false => rfl
      refine ⟨h.rise.take _, by show s.n - 1 ≤ (s.row.take (s.n - 1)).length; rw [List.length_take]; omega, fun e => ?_, fun _ => h.mine hd⟩
      have e' : s.drawn = true := e
      rw [hd] at e'; cases e'
theorem oks_want {s : Gs} (h : Oks s) (l : List Int) : Oks (wantS s l) := by
  unfold wantS
  split
  · exact h
  · split
    · rename_i h1 h2
      have hn : s.n = 0 := Classical.byContradiction fun k => h1 (.inl k)
      have hd : s.drawn = false := by cases hd : s.drawn with | true => exact absurd (.inr hd) h1 | false => rfl
      refine ⟨h2, by show s.n ≤ l.length; omega, fun e => ?_, fun _ => h.mine hd⟩
      have e' : s.drawn = true := e
      rw [hd] at e'; cases e'
    · exact h
theorem ok_set (h : ∀ i, i < ss.length → Oks (ss.getD i default)) {i : Nat} (hs : Oks s') : ∀ j, j < (ss.set i s').length → Oks ((ss.set i s').getD j default) := by
  intro j hj
  rw [List.length_set] at hj
  by_cases e : i = j
  · subst e; rw [getD_set_self hj]; exact hs
  · rw [getD_set_ne e]; exact h j hj
variable {i p q : Nat}
/-- Step, of the i-th guard of both. -/
theorem pair_pstep (h : Pair w x c lb y m lo ps rs ss L N) (hp : ps[i]? = some p) (hN : N < 100000000) : Calls Try.prog 13 #[.pointer (some ⟨p, 0, none⟩)] w fun e w' => e = .returned (.tuple #[.bool (stepA (ss.getD i default) L).b, .int .i64 (stepA (ss.getD i default) L).e]) ∧ Many w' x c lb ps (ss.set i (stepA (ss.getD i default) L).s) (stepA (ss.getD i default) L).L (N + (stepA (ss.getD i default) L).k) ∧ RMany w' y m lo rs ss L N ∧ Only (MS ps c lb) w w' :=
  (many_step h.p hp hN).mono fun e w' ⟨a, b, o⟩ => ⟨a, b, h.r.prog (S := fun _ => True) h.p h.lb o, o⟩
theorem pair_rstep (hok : ∀ i, i < ss.length → Oks (ss.getD i default)) (hlb : lb < lo) (hs : Sm L N) (hP : Many w x c lb ps (ss.set i (stepA (ss.getD i default) L).s) (stepA (ss.getD i default) L).L (N + (stepA (ss.getD i default) L).k)) (hR : RMany w y m lo rs ss L N) (hq : rs[i]? = some q) : Calls Try.prog 16 #[.pointer (some ⟨q, 0, none⟩)] w fun e w' => e = .returned (.tuple #[.bool (stepA (ss.getD i default) L).b, .int .i64 (stepA (ss.getD i default) L).e]) ∧ Pair w' x c lb y m lo ps rs (ss.set i (stepA (ss.getD i default) L).s) (stepA (ss.getD i default) L).L (N + (stepA (ss.getD i default) L).k) ∧ Only (RMS rs m) w w' := by
  have hi := hR.lt hq
  refine (rstep_is (hR.both hq) hs (hok i hi).rise).mono ?_
  rintro e w' ⟨rfl, b, o⟩
  exact ⟨rfl, ⟨many_ref hP hR (rms_of hq o), hR.set hq b o, ok_set hok (oks_step (hok i hi) L), hlb⟩, rms_of hq o⟩
theorem pair_pgive (h : Pair w x c lb y m lo ps rs ss L N) (hp : ps[i]? = some p) (hN : N < 100000000) : Calls Try.prog 12 #[.pointer (some ⟨p, 0, none⟩)] w fun e w' => e = .returned (.tuple #[.int .i64 ((giveA (ss.getD i default) L).left : Int), .int .i64 (giveA (ss.getD i default) L).e]) ∧ Many w' x c lb ps (ss.set i (giveA (ss.getD i default) L).s) (giveA (ss.getD i default) L).L (N + (giveA (ss.getD i default) L).k) ∧ RMany w' y m lo rs ss L N ∧ Only (MS ps c lb) w w' :=
  (many_give h.p hp hN).mono fun e w' ⟨a, b, o⟩ => ⟨a, b, h.r.prog (S := fun _ => True) h.p h.lb o, o⟩
theorem pair_rgive (hok : ∀ i, i < ss.length → Oks (ss.getD i default)) (hlb : lb < lo) (hs : Sm L N) (hP : Many w x c lb ps (ss.set i (giveA (ss.getD i default) L).s) (giveA (ss.getD i default) L).L (N + (giveA (ss.getD i default) L).k)) (hR : RMany w y m lo rs ss L N) (hq : rs[i]? = some q) : Calls Try.prog 18 #[.pointer (some ⟨q, 0, none⟩)] w fun e w' => e = .returned (.tuple #[.int .i64 ((giveA (ss.getD i default) L).left : Int), .int .i64 (giveA (ss.getD i default) L).e]) ∧ Pair w' x c lb y m lo ps rs (ss.set i (giveA (ss.getD i default) L).s) (giveA (ss.getD i default) L).L (N + (giveA (ss.getD i default) L).k) ∧ Only (RMS rs m) w w' := by
  have hi := hR.lt hq
  refine (rgive_is (hR.both hq) hs (hok i hi).rise).mono ?_
  rintro e w' ⟨rfl, b, o⟩
  exact ⟨rfl, ⟨many_ref hP hR (rms_of hq o), hR.set hq b o, ok_set hok (oks_give (hok i hi) L), hlb⟩, rms_of hq o⟩
theorem wantS_rise {s : Gs} {l : List Int} (h : Rise s.row) : Rise (wantS s l).row := by
  unfold wantS
  split
  · exact h
  · split
    · assumption
    · exact h
theorem pair_pwant {A : Option Addr} {cap : Nat} {l : List Int} (h : Pair w x c lb y m lo ps rs ss L N) (hp : ps[i]? = some p) (hS : SlW w A cap l) : Calls Try.prog 9 #[.pointer (some ⟨p, 0, none⟩), .slice A l.length cap] w fun e w' => e = .returned (.int .i64 (wantE (ss.getD i default) l)) ∧ Many w' x c lb ps (ss.set i (wantS (ss.getD i default) l)) L N ∧ RMany w' y m lo rs ss L N ∧ Only (MS ps c lb) w w' := by
  have hi := h.p.lt hp
  refine (want_is (h.p.both hp) hS (h.ok i hi).mine).mono ?_
  rintro e w' ⟨rfl, b, o⟩
  exact ⟨rfl, h.p.set hp b o h.p.sm (wantS_rise (h.p.rise i hi)), h.r.prog (S := fun _ => True) h.p h.lb (ms_of hp o), ms_of hp o⟩
theorem pair_rwant {A : Option Addr} {cap : Nat} {l : List Int} (hok : ∀ i, i < ss.length → Oks (ss.getD i default)) (hlb : lb < lo) (hP : Many w x c lb ps (ss.set i (wantS (ss.getD i default) l)) L N) (hR : RMany w y m lo rs ss L N) (hq : rs[i]? = some q) (hRd : ReadsInt w .i64 A l.length l) (hw : Nums w .i64 A l) (hl : l.length ≤ 1000000) : Calls Try.prog 17 #[.pointer (some ⟨q, 0, none⟩), .slice A l.length cap] w fun e w' => e = .returned (.int .i64 (wantE (ss.getD i default) l)) ∧ Pair w' x c lb y m lo ps rs (ss.set i (wantS (ss.getD i default) l)) L N ∧ Only (RMS rs m) w w' := by
  have hi := hR.lt hq
  refine (rwant_is (hR.both hq) hRd hw hl).mono ?_
  rintro e w' ⟨rfl, b, o⟩
  exact ⟨rfl, ⟨many_ref hP hR (rms_of hq o), hR.set hq b o, ok_set hok (oks_want (hok i hi) l), hlb⟩, rms_of hq o⟩
/-- The i-th guard goes on as its copy. -/
theorem pair_copy (h : Pair w x c lb y m lo ps rs ss L N) (hp : ps[i]? = some p) : Calls Try.prog 19 #[.pointer (some ⟨p, 0, none⟩)] w fun e w' => e = .returned (.pointer (some ⟨w.heap.size, 0, none⟩)) ∧ Pair w' x c lb y m lo (ps.set i w.heap.size) rs ss L N ∧ Below w.heap.size w w' := by
  have hi := h.p.lt hp
  have hpl : i < ps.length := by rw [h.p.len]; exact hi
  refine (copy_at (h.p.g i p hp) (by have := rise_len (h.p.rise i hi); omega)).mono ?_
  rintro e w' ⟨rfl, hG, hb⟩
  have hM := h.p.below hb
  refine ⟨rfl, ⟨⟨hM.t, by rw [List.length_set]; exact hM.len, fun j q hq => ?_, ?_, hM.sm, hM.rise⟩, h.r.below hb, h.ok, h.lb⟩, hb⟩
  · by_cases e : i = j
    · subst e
      rw [List.getElem?_set_self hpl] at hq
      cases hq
      exact hG
    · rw [List.getElem?_set_ne e] at hq
      exact hM.g j q hq
  · rw [List.nodup_iff_pairwise_ne] at *
    refine List.pairwise_iff_getElem.mpr fun a b ha hb' hab => ?_
    rw [List.length_set] at ha hb'
    have hnd := List.pairwise_iff_getElem.mp h.p.nd a b ha hb' hab
    have ha' : ps[a] < w.heap.size := (h.p.g a ps[a] (List.getElem?_eq_getElem ha)).lt
    have hb'' : ps[b] < w.heap.size := (h.p.g b ps[b] (List.getElem?_eq_getElem hb')).lt
    rw [List.getElem_set, List.getElem_set]
    split <;> split <;> omega
end
end Go.Proofs.Ytabcodjalacdjab.GuardPlays
