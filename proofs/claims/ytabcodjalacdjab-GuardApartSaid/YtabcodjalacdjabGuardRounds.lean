
/- The plain law of GuardApart: what is left to do, and that it ends. -/
import Derived.Test.YtabcodjalacdjabGuardPlain
namespace Go.Proofs.Ytabcodjalacdjab.GuardCode
open Go Go.Proofs.Ytabcodjalacdjab.CellCode
set_option linter.unusedVariables false
/-- How many visits one guard wants still. -/
def leftOf (r : List Int) (s : Gs) (d : Bool) : Nat :=
  if d = true then 0 else if s.n < s.row.length then 2 * (r.length - s.n) - (if s.drawn = true then 1 else 0) + r.length + 1 else s.n + 1
theorem leftOf_acq (r : List Int) (a : List Int) (n t : Nat) (b : Bool) (hn : n < a.length) : leftOf r ⟨a, n, t, b⟩ false = 2 * (r.length - n) - (if b = true then 1 else 0) + r.length + 1 := by
  unfold leftOf
  rw [if_neg (by decide : ¬ (false = true))]
  exact if_pos hn
theorem leftOf_giv (r : List Int) (a : List Int) (n t : Nat) (b : Bool) (hn : ¬ n < a.length) : leftOf r ⟨a, n, t, b⟩ false = n + 1 := by
  unfold leftOf
  rw [if_neg (by decide : ¬ (false = true))]
  exact if_neg hn
def Blocked (s : Gs) (L : List Nat) : Prop := s.drawn = true ∧ s.n < s.row.length ∧ L.getD (5 + 2 * s.lock) 0 % 65536 ≠ s.mine
/-- What a visit does. -/
structure Seen where
  s : Gs
  L : List Nat
  d : Bool
def visit (s : Gs) (L : List Nat) : Seen :=
  if s.n = s.row.length then ⟨(giveA s L).s, (giveA s L).L, decide ((giveA s L).left = 0)⟩ else ⟨(stepA s L).s, (stepA s L).L, false⟩
section
variable {m : Nat} {W : Nat → List Int} {st : Nat → Gs} {L : List Nat} {d : Nat → Bool} {Q : Nat → List Nat} {i : Nat}
theorem upd_self {α : Type} (f : Nat → α) (i : Nat) : upd f i (f i) = f := funext fun j => by
  unfold upd; split
  · subst_vars; rfl
  · rfl
theorem live_ne (h : Inv m W st L d Q) (hi : i < m) (hn : (st i).n < (st i).row.length) : d i = false := by
  cases e : d i with
  | false => rfl
  | true => have := ((h.g i hi).done e).2; rw [this] at hn; simp at hn
theorem acq (h : Inv m W st L d Q) (hi : i < m) (hn : (st i).n < (st i).row.length) : (st i).row = W i ∧ (st i).n < (W i).length := by
  rcases (h.g i hi).shape with h1 | ⟨h1, h2⟩
  · exact h1
  · rw [h1, List.length_take] at hn; omega
theorem visit_inv (h : Inv m W st L d Q) (hi : i < m) (hd : d i = false) (hs : ∀ y ∈ L, y < 65536) :
    ∃ Q', Inv m W (upd st i (visit (st i) L).s) (visit (st i) L).L (upd d i (visit (st i) L).d) Q' ∧
      ((leftOf (W i) (visit (st i) L).s (visit (st i) L).d + 1 ≤ leftOf (W i) (st i) (d i)) ∨ (Blocked (st i) L ∧ (visit (st i) L).s = st i ∧ (visit (st i) L).L = L ∧ (visit (st i) L).d = d i)) := by
  have hg := h.g i hi
  by_cases hn : (st i).n = (st i).row.length
  · have hdr : (st i).drawn = false := by
      rcases hg.shape with ⟨h1, h2⟩ | h1
      · rw [h1] at hn; omega
      · exact h1.2
    by_cases h0 : (st i).n = 0
    · have hv : visit (st i) L = ⟨st i, L, true⟩ := by
        unfold visit giveA
        rw [if_pos hn, if_pos h0]; rfl
      rw [hv]
      refine ⟨Q, ⟨h.len, fun j hj => ?_, ?_⟩, .inl ?_⟩
      · rw [upd_self]
        by_cases e : j = i
        · subst e
          rw [upd_same]
          exact ⟨hg.rise, hg.n, hg.shape, fun _ => ⟨h0, List.length_eq_zero_iff.mp (by omega)⟩, fun e => by cases e⟩
        · rw [upd_other _ _ e]; exact h.g j hj
      · rw [upd_self]; exact h.q
      · unfold leftOf
        rw [if_pos rfl, hd, if_neg (by decide), if_neg (by omega)]; omega
    · have hv : visit (st i) L = ⟨{ st i with row := (st i).row.take ((st i).n - 1), n := (st i).n - 1 }, addL L (5 + 2 * (st i).last), decide ((st i).n - 1 = 0)⟩ := by
        unfold visit giveA
        rw [if_pos hn, if_neg h0, if_neg (by rw [hdr]; decide)]
      rw [hv]
      refine ⟨_, inv_give h hi hn h0, .inl ?_⟩
      unfold leftOf
      rw [hd, if_neg (by decide : ¬ (false = true)), if_neg (show ¬ (st i).n < (st i).row.length by omega)]
      show (if decide ((st i).n - 1 = 0) = true then 0 else if (st i).n - 1 < ((st i).row.take ((st i).n - 1)).length then _ else (st i).n - 1 + 1) + 1 ≤ _
      rw [List.length_take]
      split
      · omega
      · rw [if_neg (by omega)]; omega
  · have hlt : (st i).n < (st i).row.length := by
      rcases hg.shape with ⟨h1, h2⟩ | h1
      · rw [h1]; exact h2
      · have := congrArg List.length h1.1
        rw [List.length_take] at this
        have := hg.n
        omega
    obtain ⟨hr1, hr2⟩ := acq h hi hlt
    have hrl : (st i).row.length = (W i).length := by rw [hr1]
    cases hdr : (st i).drawn with
    | false =>
      have hv : visit (st i) L = ⟨{ st i with mine := L.getD (4 + 2 * (st i).lock) 0 % 65536, drawn := true }, addL L (4 + 2 * (st i).lock), false⟩ := by
        unfold visit stepA
        rw [if_neg hn, if_neg hn, if_pos hdr]
      rw [hv]
      have hud : upd d i false = d := by rw [← hd]; exact upd_self d i
      rw [hud]
      refine ⟨_, inv_draw h hi hlt hdr hs, .inl ?_⟩
      have e1 : leftOf (W i) (st i) false = 2 * ((W i).length - (st i).n) - (if (st i).drawn = true then 1 else 0) + (W i).length + 1 := leftOf_acq _ _ _ _ _ hlt
      have e2 := leftOf_acq (W i) (st i).row (st i).n (L.getD (4 + 2 * (st i).lock) 0 % 65536) true hlt
      rw [hdr, if_neg (by decide : ¬ (false = true))] at e1
      rw [if_pos rfl] at e2
      rw [hd]
      show leftOf (W i) ⟨(st i).row, (st i).n, L.getD (4 + 2 * (st i).lock) 0 % 65536, true⟩ false + 1 ≤ _
      rw [e1, e2]
      omega
    | true =>
      by_cases hy : L.getD (5 + 2 * (st i).lock) 0 % 65536 = (st i).mine
      · have hv : visit (st i) L = ⟨{ st i with n := (st i).n + 1, mine := 0, drawn := false }, L, false⟩ := by
          unfold visit stepA
          rw [if_neg hn, if_neg hn, if_neg (by rw [hdr]; decide), if_pos hy]
        rw [hv]
        have hud : upd d i false = d := by rw [← hd]; exact upd_self d i
        rw [hud]
        refine ⟨_, inv_mine h hi hlt hdr hs hy, .inl ?_⟩
        have e1 : leftOf (W i) (st i) false = 2 * ((W i).length - (st i).n) - (if (st i).drawn = true then 1 else 0) + (W i).length + 1 := leftOf_acq _ _ _ _ _ hlt
        rw [hdr, if_pos rfl] at e1
        rw [hd]
        show leftOf (W i) ⟨(st i).row, (st i).n + 1, 0, false⟩ false + 1 ≤ _
        rw [e1]
        by_cases h3 : (st i).n + 1 < (st i).row.length
        · rw [leftOf_acq _ _ _ _ _ h3, if_neg (by decide : ¬ (false = true))]; omega
        · rw [leftOf_giv _ _ _ _ _ h3]; omega
      · have hv : visit (st i) L = ⟨st i, L, false⟩ := by
          unfold visit stepA
          rw [if_neg hn, if_neg hn, if_neg (by rw [hdr]; decide), if_neg hy]
        rw [hv]
        have hud : upd d i false = d := by rw [← hd]; exact upd_self d i
        rw [hud, upd_self]
        exact ⟨Q, h, .inr ⟨⟨hdr, hlt, hy⟩, rfl, rfl, hd.symm⟩⟩
/-- If one is not done, one of them can go on. -/
theorem some_blocked (h : Inv m W st L d Q) (hs : ∀ y ∈ L, y < 65536) (u : Nat) : ∀ i, i < m → Blocked (st i) L → 6 ≤ (st i).lock + u → ∃ j, j < m ∧ d j = false ∧ ¬ Blocked (st j) L := by
  induction u with
  | zero =>
    intro i hi hb h6
    obtain ⟨hr1, hr2⟩ := acq h hi hb.2.1
    have := (lock_is (h.g i hi).rise hr1 hr2).1
    omega
  | succ u ih =>
    intro i hi hb h6
    obtain ⟨hr1, hr2⟩ := acq h hi hb.2.1
    obtain ⟨hk, hkv⟩ := lock_is (h.g i hi).rise hr1 hr2
    obtain ⟨k, hkk⟩ : ∃ k, k = (st i).lock := ⟨_, rfl⟩
    rw [← hkk] at hk hkv h6
    have hq := h.q k hk
    obtain ⟨t, ht, _⟩ := hq.wait i hi ⟨hb.1, hb.2.1, hkk.symm⟩
    obtain ⟨a, q, hqa⟩ : ∃ a q, Q k = a :: q := by
      cases e : Q k with
      | nil => rw [e] at ht; simp at ht
      | cons a q => exact ⟨a, q, rfl⟩
    obtain ⟨ham, hah⟩ := hq.mem a (by rw [hqa]; exact List.mem_cons_self)
    by_cases hba : Blocked (st a) L
    · obtain ⟨ha1, ha2⟩ := acq h ham hba.2.1
      obtain ⟨hka, hkav⟩ := lock_is (h.g a ham).rise ha1 ha2
      rcases hah with hah | hah
      · rw [(h.g a ham).held] at hah
        obtain ⟨p, hp1, hp2, hp3⟩ := getD_take_mem hah
        have := (h.g a ham).rise.lt hp1 ha2
        exact ih a ham hba (by omega)
      · obtain ⟨t2, h1, h2⟩ := hq.wait a ham hah
        have ht0 : t2 = 0 := by
          have hnd := hq.nd
          rw [hqa, List.nodup_cons] at hnd
          rw [hqa] at h1
          cases t2 with
          | zero => rfl
          | succ t2 => exact absurd (List.mem_of_getElem? (by simpa using h1)) hnd.1
        have hL : L.getD (5 + 2 * k) 0 % 65536 = L.getD (5 + 2 * k) 0 := by
          refine Nat.mod_eq_of_lt (hs _ ?_)
          rw [List.getD_eq_getElem?_getD, List.getElem?_eq_getElem (by rw [h.len]; omega)]
          exact List.getElem_mem _
        refine absurd ?_ hba.2.2
        rw [hah.2.2, hL, h2, ht0]; rfl
    · refine ⟨a, ham, ?_, hba⟩
      rcases hah with hah | hah
      · cases e : d a with
        | false => rfl
        | true =>
          have := ((h.g a ham).done e).1
          rw [(h.g a ham).held, this] at hah
          simp at hah
      · exact live_ne h ham hah.2.1
theorem some_can (h : Inv m W st L d Q) (hs : ∀ y ∈ L, y < 65536) (hi : i < m) (hd : d i = false) : ∃ j, j < m ∧ d j = false ∧ ¬ Blocked (st j) L := by
  by_cases hb : Blocked (st i) L
  · exact some_blocked h hs 6 i hi hb (by omega)
  · exact ⟨i, hi, hd, hb⟩
/-- All that is left. -/
def tot (f : Nat → Nat) : Nat → Nat
  | 0 => 0
  | n + 1 => tot f n + f n
theorem tot_same {f f' : Nat → Nat} {n : Nat} (h : ∀ j, j < n → f' j = f j) : tot f' n = tot f n := by
  induction n with
  | zero => rfl
  | succ n ih => rw [tot, tot, ih (fun j hj => h j (by omega)), h n (by omega)]
theorem tot_less {f f' : Nat → Nat} {n i : Nat} (hi : i < n) (h : ∀ j, j ≠ i → f' j = f j) (hl : f' i + 1 ≤ f i) : tot f' n + 1 ≤ tot f n := by
  induction n with
  | zero => omega
  | succ n ih =>
    rw [tot, tot]
    by_cases e : i = n
    · subst e
      rw [tot_same (f := f) (f' := f') (fun j hj => h j (by omega))]; omega
    · have := ih (by omega)
      rw [h n (by omega)]; omega
theorem tot_le {f : Nat → Nat} {n b : Nat} (h : ∀ j, j < n → f j ≤ b) : tot f n ≤ n * b := by
  induction n with
  | zero => simp [tot]
  | succ n ih =>
    have h1 := ih (fun j hj => h j (by omega))
    have h2 := h n (by omega)
    rw [tot, Nat.succ_mul]; omega
theorem tot_zero {f : Nat → Nat} {n : Nat} (h : tot f n = 0) : ∀ j, j < n → f j = 0 := by
  induction n with
  | zero => intro j hj; omega
  | succ n ih =>
    intro j hj
    rw [tot] at h
    by_cases e : j = n
    · subst e; omega
    · exact ih (by omega) j (by omega)
theorem tot_pos {f : Nat → Nat} {n : Nat} (h : tot f n ≠ 0) : ∃ j, j < n ∧ f j ≠ 0 := by
  induction n with
  | zero => exact absurd rfl h
  | succ n ih =>
    rw [tot] at h
    by_cases e : f n = 0
    · obtain ⟨j, h1, h2⟩ := ih (by omega); exact ⟨j, by omega, h2⟩
    · exact ⟨n, by omega, e⟩
def lefts (W : Nat → List Int) (st : Nat → Gs) (d : Nat → Bool) : Nat → Nat := fun j => leftOf (W j) (st j) (d j)
theorem left_zero {r : List Int} {s : Gs} {b : Bool} : leftOf r s b = 0 ↔ b = true := by
  unfold leftOf
  constructor
  · intro h
    cases b with
    | true => rfl
    | false =>
      rw [if_neg (by decide)] at h
      split at h <;> omega
  · intro h; rw [if_pos h]
/-- Round by round: it ends. -/
def Rd (m : Nat) (W : Nat → List Int) (st : Nat → Gs) (L : List Nat) (d : Nat → Bool) (n r : Nat) : Prop :=
  tot (lefts W st d) m = 0 ∨ ∃ t, t < m ∧ d ((n + t) % m) = false ∧ ¬ Blocked (st ((n + t) % m)) L ∧ tot (lefts W st d) m * m + t + r ≤ 20 * m * m
theorem mod_reach {m n j : Nat} (hj : j < m) : ∃ t, t < m ∧ (n + t) % m = j := by
  refine ⟨(j + m - n % m) % m, Nat.mod_lt _ (by omega), ?_⟩
  have h1 : n % m < m := Nat.mod_lt _ (by omega)
  rw [Nat.add_mod, Nat.mod_mod, ← Nat.add_mod, ← Nat.mod_add_mod, show n % m + (j + m - n % m) = j + m by omega, Nat.add_mod_right, Nat.mod_eq_of_lt hj]
theorem rd_of (h : Inv m W st L d Q) (hs : ∀ y ∈ L, y < 65536) {n r : Nat} (hb : tot (lefts W st d) m * m + m + r ≤ 20 * m * m + 1) : Rd m W st L d n r := by
  by_cases h0 : tot (lefts W st d) m = 0
  · exact .inl h0
  · obtain ⟨j, hj, hjl⟩ := tot_pos h0
    have hdj : d j = false := by
      cases e : d j with
      | false => rfl
      | true => exact absurd (left_zero.mpr e) hjl
    obtain ⟨a, ha, hda, hba⟩ := some_can h hs hj hdj
    obtain ⟨t, ht, hta⟩ := mod_reach (n := n) ha
    exact .inr ⟨t, ht, by rw [hta]; exact hda, by rw [hta]; exact hba, by omega⟩
theorem rd_skip {n r : Nat} (hR : Rd m W st L d n r) (hm : 0 < m) (hd : d (n % m) = true ∨ Blocked (st (n % m)) L) : Rd m W st L d (n + 1) (r + 1) := by
  rcases hR with h0 | ⟨t, ht, h1, h2, h3⟩
  · exact .inl h0
  · cases t with
    | zero =>
      rw [Nat.add_zero] at h1 h2
      rcases hd with hd | hd
      · rw [hd] at h1; cases h1
      · exact absurd hd h2
    | succ t =>
      refine .inr ⟨t, by omega, ?_, ?_, by omega⟩
      · rw [show n + 1 + t = n + (t + 1) by omega]; exact h1
      · rw [show n + 1 + t = n + (t + 1) by omega]; exact h2
theorem lefts_upd {s' : Gs} {b : Bool} {j : Nat} (hj : j ≠ i) : lefts W (upd st i s') (upd d i b) j = lefts W st d j := by
  unfold lefts; rw [upd_other _ _ hj, upd_other _ _ hj]
theorem lefts_at {s' : Gs} {b : Bool} : lefts W (upd st i s') (upd d i b) i = leftOf (W i) s' b := by
  unfold lefts; rw [upd_same, upd_same]
/-- One visit. -/
theorem visit_round (h : Inv m W st L d Q) (hi : i < m) (hd : d i = false) (hs : ∀ y ∈ L, y < 65536) (hs' : ∀ y ∈ (visit (st i) L).L, y < 65536) :
    ∃ Q', Inv m W (upd st i (visit (st i) L).s) (visit (st i) L).L (upd d i (visit (st i) L).d) Q' ∧
      tot (lefts W (upd st i (visit (st i) L).s) (upd d i (visit (st i) L).d)) m ≤ tot (lefts W st d) m ∧
      ∀ n r, i = n % m → Rd m W st L d n r → Rd m W (upd st i (visit (st i) L).s) (visit (st i) L).L (upd d i (visit (st i) L).d) (n + 1) (r + 1) := by
  obtain ⟨Q', hI, hor⟩ := visit_inv h hi hd hs
  refine ⟨Q', hI, ?_⟩
  rcases hor with h1 | ⟨h1, h2, h3, h4⟩
  · have hl := tot_less (f := lefts W st d) (f' := lefts W (upd st i (visit (st i) L).s) (upd d i (visit (st i) L).d)) hi (fun j hj => lefts_upd hj) (by rw [lefts_at]; exact h1)
    refine ⟨by omega, fun n r hn hR => ?_⟩
    rcases hR with h0 | ⟨t, ht, _, _, h5⟩
    · omega
    · refine rd_of hI hs' ?_
      have h6 := Nat.mul_le_mul_right m hl
      rw [Nat.succ_mul] at h6
      omega
  · rw [h2, h3, h4, upd_self, upd_self]
    exact ⟨Nat.le_refl _, fun n r hn hR => rd_skip hR (by omega) (.inr (hn ▸ h1))⟩
/-- At the end all are done. -/
theorem rd_end {n : Nat} (hm : 0 < m) (hR : Rd m W st L d n (280 * m * m)) : ∀ j, j < m → d j = true := by
  intro j hj
  rcases hR with h0 | ⟨t, ht, _, _, h5⟩
  · exact left_zero.mp (tot_zero h0 j hj)
  · exfalso
    have h6 : 0 < m * m := Nat.mul_pos hm hm
    have h7 : 280 * m * m = 280 * (m * m) := Nat.mul_assoc _ _ _
    have h8 : 20 * m * m = 20 * (m * m) := Nat.mul_assoc _ _ _
    omega
theorem lefts_le (h : Inv m W st L d Q) : tot (lefts W st d) m ≤ m * 19 := by
  refine tot_le fun j hj => ?_
  have hg := h.g j hj
  have h6 : (W j).length ≤ 6 := by
    rcases Nat.lt_or_ge 6 (W j).length with h7 | h7
    · exfalso
      have hr := hg.rise
      have a0 := (hr.pos (i := 0) (by omega)).1
      have a1 := hr.lt (i := 0) (j := 1) (by omega) (by omega)
      have a2 := hr.lt (i := 1) (j := 2) (by omega) (by omega)
      have a3 := hr.lt (i := 2) (j := 3) (by omega) (by omega)
      have a4 := hr.lt (i := 3) (j := 4) (by omega) (by omega)
      have a5 := hr.lt (i := 4) (j := 5) (by omega) (by omega)
      have a6 := hr.lt (i := 5) (j := 6) (by omega) (by omega)
      have a7 := (hr.pos (i := 6) (by omega)).2
      omega
    · exact h7
  have hn := hg.n
  unfold lefts leftOf
  split
  · omega
  · split
    · omega
    · omega
theorem rd_begin (h : Inv m W st L d Q) (hs : ∀ y ∈ L, y < 65536) (hm : 0 < m) (n : Nat) : Rd m W st L d n 0 := by
  refine rd_of h hs ?_
  have h1 := Nat.mul_le_mul_right m (lefts_le h)
  have h2 : m * 19 * m = 19 * (m * m) := by rw [Nat.mul_comm m 19, Nat.mul_assoc]
  have h8 : 20 * m * m = 20 * (m * m) := Nat.mul_assoc _ _ _
  have h3 : m ≤ m * m := Nat.le_mul_of_pos_right m hm
  omega
/-- No lock stands with two. -/
theorem inv_apart (h : Inv m W st L d Q) {i j : Nat} (hi : i < m) (hj : j < m) {y : Int} (h1 : y ∈ (st i).held) (h2 : y ∈ (st j).held) : i = j := by
  have hr := h.g i hi
  rw [hr.held] at h1
  have hy := hr.rise.all y (List.mem_of_mem_take h1)
  obtain ⟨k, hk, rfl⟩ : ∃ k : Nat, k < 6 ∧ y = (k : Int) := ⟨y.toNat, by omega, by omega⟩
  rw [← hr.held] at h1
  have a := (h.q k hk).hold i hi h1
  have b := (h.q k hk).hold j hj h2
  rw [a] at b
  cases b; rfl
/-- At the beginning. -/
theorem inv_zero (hW : ∀ i, i < m → Rise (W i)) : Inv m W (fun i => ⟨W i, 0, 0, false⟩) (List.replicate 20 0) (fun _ => false) (fun _ => []) := by
  refine ⟨by simp, fun i hi => ⟨hW i hi, Nat.zero_le _, ?_, fun e => (by cases e), fun _ e => e⟩, fun k hk => ?_⟩
  · rcases Nat.eq_zero_or_pos (W i).length with h0 | h0
    · refine .inr ⟨?_, rfl⟩
      show W i = (W i).take 0
      rw [List.length_eq_zero_iff.mp h0]; rfl
    · exact .inl ⟨rfl, h0⟩
  · have h0 : ∀ i, (List.replicate 20 0 : List Nat).getD i 0 = 0 := by intro i; rw [List.getD_eq_getElem?_getD, List.getElem?_replicate]; split <;> rfl
    refine ⟨List.nodup_nil, by rw [h0, h0]; rfl, fun i hi => (by cases hi), fun i hi hh => ?_, fun i hi hw => ?_⟩
    · exact absurd hh (by simp [Gs.held])
    · have := hw.1; cases this
end
end Go.Proofs.Ytabcodjalacdjab.GuardCode
