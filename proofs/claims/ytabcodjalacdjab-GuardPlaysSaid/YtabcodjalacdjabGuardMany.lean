
/- guard: Step and Give as functions; many guards on the same locks. -/
import Derived.Test.YtabcodjalacdjabGuardAlive
namespace Go.Proofs.Ytabcodjalacdjab.GuardCode
open Go Go.RowKit Go.Proofs.Ytabcodjalacdjab.Obj Go.Proofs.Ytabcodjalacdjab.Row Go.Proofs.Ytabcodjalacdjab.CellCode Go.Proofs.Ytabcodjalacdjab.TicketCode Go.Proofs.YtabcodjalacdjabW.PrintWords Go.Proofs.YtabcodjalacdjabW.PrintMore
set_option linter.unusedVariables false
set_option maxRecDepth 100000
instance : Inhabited Gs := ⟨⟨[], 0, 0, false⟩⟩
/-- What Step does: the guard, the numbers, how many accesses, whether it has all, the error. -/
structure Did where
  s : Gs
  L : List Nat
  k : Nat
  b : Bool
  e : Int
def stepA (s : Gs) (L : List Nat) : Did :=
  if s.n = s.row.length then ⟨s, L, 0, false, 3⟩
  else if s.drawn = false then ⟨{ s with mine := L.getD (4 + 2 * s.lock) 0 % 65536, drawn := true }, addL L (4 + 2 * s.lock), 1, false, 0⟩
  else if L.getD (5 + 2 * s.lock) 0 % 65536 = s.mine then ⟨{ s with n := s.n + 1, mine := 0, drawn := false }, L, 1, decide (s.n + 1 = s.row.length), 0⟩
  else ⟨s, L, 1, false, 0⟩
structure Gave where
  s : Gs
  L : List Nat
  k : Nat
  left : Nat
  e : Int
def giveA (s : Gs) (L : List Nat) : Gave :=
  if s.n = 0 then ⟨s, L, 0, 0, 3⟩
  else if s.drawn = true then ⟨s, L, 0, 0, 9⟩
  else ⟨{ s with row := s.row.take (s.n - 1), n := s.n - 1 }, addL L (5 + 2 * s.last), 1, s.n - 1, 0⟩
section
variable {w w' : World} {g x c lb : Nat} {s : Gs} {L : List Nat} {N : Nat} {A : Option Addr} {r r' D G : List Int}
theorem Both.below (h : Both w g x c lb s L N) (hb : Below w.heap.size w w') : Both w' g x c lb s L N := ⟨h.g.below hb, h.t.below hb⟩
theorem only_below {S : Nat → Prop} (hb : Below w.heap.size w w') : Only S w w' := (Only.none_of_below hb).mono (fun k _ hk => hk.elim)
theorem step_is (h : Both w g x c lb s L N) (hs : Sm L N) (hr : Rise s.row) : Calls Try.prog 13 #[.pointer (some ⟨g, 0, none⟩)] w fun e w' => e = .returned (.tuple #[.bool (stepA s L).b, .int .i64 (stepA s L).e]) ∧ Both w' g x c lb (stepA s L).s (stepA s L).L (N + (stepA s L).k) ∧ Only (GS g c lb) w w' := by
  by_cases h1 : s.n = s.row.length
  · rw [show stepA s L = ⟨s, L, 0, false, 3⟩ by unfold stepA; rw [if_pos h1]]
    exact (step_none (c := c) (lb := lb) (L := L) (N := N) h.g h1).mono fun e w' ⟨a, b⟩ => ⟨a, h.below b, only_below b⟩
  · have hn : s.n < s.row.length := by have := h.g.le; omega
    cases h2 : s.drawn with
    | false =>
      rw [show stepA s L = ⟨{ s with mine := L.getD (4 + 2 * s.lock) 0 % 65536, drawn := true }, addL L (4 + 2 * s.lock), 1, false, 0⟩ by unfold stepA; rw [if_neg h1, if_pos h2]]
      exact step_draw h hs hn h2 hr.all
    | true =>
      by_cases h3 : L.getD (5 + 2 * s.lock) 0 % 65536 = s.mine
      · rw [show stepA s L = ⟨{ s with n := s.n + 1, mine := 0, drawn := false }, L, 1, decide (s.n + 1 = s.row.length), 0⟩ by unfold stepA; rw [if_neg h1, if_neg (by rw [h2]; decide), if_pos h3]]
        exact step_yes h hs hn h2 hr.all (decide_eq_true h3)
      · rw [show stepA s L = ⟨s, L, 1, false, 0⟩ by unfold stepA; rw [if_neg h1, if_neg (by rw [h2]; decide), if_neg h3]]
        exact step_no h hs hn h2 hr.all (decide_eq_false h3)
theorem give_is (h : Both w g x c lb s L N) (hs : Sm L N) (hr : Rise s.row) : Calls Try.prog 12 #[.pointer (some ⟨g, 0, none⟩)] w fun e w' => e = .returned (.tuple #[.int .i64 ((giveA s L).left : Int), .int .i64 (giveA s L).e]) ∧ Both w' g x c lb (giveA s L).s (giveA s L).L (N + (giveA s L).k) ∧ Only (GS g c lb) w w' := by
  by_cases h1 : s.n = 0
  · rw [show giveA s L = ⟨s, L, 0, 0, 3⟩ by unfold giveA; rw [if_pos h1]]
    exact (give_none h.g h1).mono fun e w' ⟨a, b⟩ => ⟨a, h.below b, only_below b⟩
  · cases h2 : s.drawn with
    | true =>
      rw [show giveA s L = ⟨s, L, 0, 0, 9⟩ by unfold giveA; rw [if_neg h1, if_pos h2]]
      exact (give_have h.g h1 h2).mono fun e w' ⟨a, b⟩ => ⟨a, h.below b, only_below b⟩
    | false =>
      rw [show giveA s L = ⟨{ s with row := s.row.take (s.n - 1), n := s.n - 1 }, addL L (5 + 2 * s.last), 1, s.n - 1, 0⟩ by unfold giveA; rw [if_neg h1, if_neg (by rw [h2]; decide)]]
      exact give_yes h hs h1 h2 hr.all
theorem Rise.take (h : Rise r) (m : Nat) : Rise (r.take m) := by
  intro i hi
  rw [List.length_take] at hi
  have h1 : ∀ j, j < m → (r.take m).getD j 0 = r.getD j 0 := fun j hj => by
    rw [List.getD_eq_getElem?_getD, List.getD_eq_getElem?_getD, List.getElem?_take, if_pos hj]
  have h2 : lastOf (r.take m) i = lastOf r i := by
    unfold lastOf
    split
    · rfl
    · exact h1 _ (by omega)
  rw [h2, h1 i (by omega)]
  exact h i (by omega)
theorem stepA_rise (hr : Rise s.row) : Rise (stepA s L).s.row := by
  unfold stepA
  split
  · exact hr
  · split
    · exact hr
    · split <;> exact hr
theorem giveA_rise (hr : Rise s.row) : Rise (giveA s L).s.row := by
  unfold giveA
  split
  · exact hr
  · split
    · exact hr
    · exact hr.take _
theorem Gs.lock_lt (hr : Rise s.row) (hn : s.n < s.row.length) : s.lock < 6 := by
  have := hr.pos hn
  unfold Gs.lock
  omega
theorem Gs.last_lt (hr : Rise s.row) (hn : s.n ≤ s.row.length) (h0 : s.n ≠ 0) : s.last < 6 := by
  have := hr.pos (i := s.n - 1) (by omega)
  unfold Gs.last
  omega
theorem stepA_sm (hs : Sm L N) (hl : L.length = 20) (hr : Rise s.row) (hn : s.n ≤ s.row.length) (hN : N + 1 < 1000000000) : Sm (stepA s L).L (N + (stepA s L).k) ∧ (stepA s L).L.length = 20 := by
  unfold stepA
  split
  · exact ⟨hs, hl⟩
  · split
    · exact ⟨hs.add (by have := Gs.lock_lt hr (by omega); omega) hN, by rw [addL_len]; exact hl⟩
    · split <;> exact ⟨sm_up hs hN, hl⟩
theorem giveA_sm (hs : Sm L N) (hl : L.length = 20) (hr : Rise s.row) (hn : s.n ≤ s.row.length) (hN : N + 1 < 1000000000) : Sm (giveA s L).L (N + (giveA s L).k) ∧ (giveA s L).L.length = 20 := by
  unfold giveA
  split
  · exact ⟨hs, hl⟩
  · split
    · exact ⟨hs, hl⟩
    · exact ⟨hs.add (by have := Gs.last_lt hr hn (by omega); omega) hN, by rw [addL_len]; exact hl⟩
/-- Many guards on the same locks. -/
structure Many (w : World) (x c lb : Nat) (ps : List Nat) (ss : List Gs) (L : List Nat) (N : Nat) : Prop where
  t : TAt w x c lb L N
  len : ps.length = ss.length
  g : ∀ i p, ps[i]? = some p → GAt w p x (ss.getD i default)
  nd : ps.Nodup
  sm : Sm L N
  rise : ∀ i, i < ss.length → Rise (ss.getD i default).row
variable {ps : List Nat} {ss : List Gs}
theorem Many.both (h : Many w x c lb ps ss L N) {i : Nat} {p : Nat} (hp : ps[i]? = some p) : Both w p x c lb (ss.getD i default) L N := ⟨h.g i p hp, h.t⟩
theorem Many.lt (h : Many w x c lb ps ss L N) {i : Nat} {p : Nat} (hp : ps[i]? = some p) : i < ss.length := by
  rw [← h.len]; exact (List.getElem?_eq_some_iff.mp hp).1
theorem Many.set (h : Many w x c lb ps ss L N) {i : Nat} {p : Nat} (hp : ps[i]? = some p) {s' : Gs} {L' : List Nat} {N' : Nat} (hB : Both w' p x c lb s' L' N') (o : Only (GS p c lb) w w') (hs : Sm L' N') (hr : Rise s'.row) : Many w' x c lb ps (ss.set i s') L' N' := by
  refine ⟨hB.t, by rw [List.length_set]; exact h.len, fun j q hq => ?_, h.nd, hs, fun j hj => ?_⟩
  · by_cases e : i = j
    · subst e
      rw [hp] at hq
      cases hq
      have : (ss.set i s').getD i default = s' := by rw [List.getD_eq_getElem?_getD, List.getElem?_set_self (h.lt hp)]; rfl
      rw [this]
      exact hB.g
    · have e2 : (ss.set i s').getD j default = ss.getD j default := by rw [List.getD_eq_getElem?_getD, List.getElem?_set_ne e, ← List.getD_eq_getElem?_getD]
      rw [e2]
      have hne : q ≠ p := by
        rintro rfl
        obtain ⟨h1, h2⟩ := List.getElem?_eq_some_iff.mp hp
        obtain ⟨h3, h4⟩ := List.getElem?_eq_some_iff.mp hq
        have hpw := List.pairwise_iff_getElem.mp h.nd
        rcases Nat.lt_or_ge i j with h5 | h5
        · exact hpw i j h1 h3 h5 (h2.trans h4.symm)
        · exact hpw j i h3 h1 (by omega) (h4.trans h2.symm)
      obtain ⟨n1, n2, n3⟩ := (h.both hq).ne
      obtain ⟨A0, c0, hO, _⟩ := (h.both hp).g.obj
      refine (h.g j q hq).only o ?_ ?_
      · rintro (h1 | h1 | h1)
        · exact hne h1
        · exact n2 h1
        · exact n3 h1
      · intro k hk vs
        rcases hk with rfl | rfl | rfl
        · exact not_int hO (by decide) vs
        · exact not_int h.t.cells.obj (by decide) vs
        · exact not_int h.t.cells.row (by decide) vs
  · rw [List.length_set] at hj
    by_cases e : i = j
    · subst e
      rw [List.getD_eq_getElem?_getD, List.getElem?_set_self hj]; exact hr
    · rw [List.getD_eq_getElem?_getD, List.getElem?_set_ne e, ← List.getD_eq_getElem?_getD]; exact h.rise j hj
theorem Many.below (h : Many w x c lb ps ss L N) (hb : Below w.heap.size w w') : Many w' x c lb ps ss L N := ⟨h.t.below hb, h.len, fun i p hp => (h.g i p hp).below hb, h.nd, h.sm, h.rise⟩
/-- Only what the guards and their locks lie in is written. -/
def MS (ps : List Nat) (c lb : Nat) : Nat → Prop := fun k => k ∈ ps ∨ k = c ∨ k = lb
theorem ms_of {p i : Nat} (hp : ps[i]? = some p) (o : Only (GS p c lb) w w') : Only (MS ps c lb) w w' := o.mono fun k _ hk => by
  rcases hk with rfl | h
  · exact .inl (List.mem_of_getElem? hp)
  · exact .inr h
theorem many_step (h : Many w x c lb ps ss L N) {i p : Nat} (hp : ps[i]? = some p) (hN : N < 100000000) : Calls Try.prog 13 #[.pointer (some ⟨p, 0, none⟩)] w fun e w' => e = .returned (.tuple #[.bool (stepA (ss.getD i default) L).b, .int .i64 (stepA (ss.getD i default) L).e]) ∧ Many w' x c lb ps (ss.set i (stepA (ss.getD i default) L).s) (stepA (ss.getD i default) L).L (N + (stepA (ss.getD i default) L).k) ∧ Only (MS ps c lb) w w' := by
  have hi := h.lt hp
  have hr := h.rise i hi
  refine (step_is (h.both hp) h.sm hr).mono ?_
  rintro e w' ⟨rfl, h1, h2⟩
  exact ⟨rfl, h.set hp h1 h2 (stepA_sm h.sm h.t.len hr (h.g i p hp).le (by omega)).1 (stepA_rise hr), ms_of hp h2⟩
theorem many_give (h : Many w x c lb ps ss L N) {i p : Nat} (hp : ps[i]? = some p) (hN : N < 100000000) : Calls Try.prog 12 #[.pointer (some ⟨p, 0, none⟩)] w fun e w' => e = .returned (.tuple #[.int .i64 ((giveA (ss.getD i default) L).left : Int), .int .i64 (giveA (ss.getD i default) L).e]) ∧ Many w' x c lb ps (ss.set i (giveA (ss.getD i default) L).s) (giveA (ss.getD i default) L).L (N + (giveA (ss.getD i default) L).k) ∧ Only (MS ps c lb) w w' := by
  have hi := h.lt hp
  have hr := h.rise i hi
  refine (give_is (h.both hp) h.sm hr).mono ?_
  rintro e w' ⟨rfl, h1, h2⟩
  exact ⟨rfl, h.set hp h1 h2 (giveA_sm h.sm h.t.len hr (h.g i p hp).le (by omega)).1 (giveA_rise hr), ms_of hp h2⟩
end
end Go.Proofs.Ytabcodjalacdjab.GuardCode
