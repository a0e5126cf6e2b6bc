
/- The plain law of GuardApart: queues, and progress. -/
import Derived.Test.YtabcodjalacdjabGuardMany
namespace Go.Proofs.Ytabcodjalacdjab.GuardCode
open Go Go.Proofs.Ytabcodjalacdjab.CellCode
set_option linter.unusedVariables false
/-- What a guard has. -/
def Gs.held (s : Gs) : List Int := s.row.take s.n
def Gs.waits (s : Gs) (k : Nat) : Prop := s.drawn = true ∧ s.n < s.row.length ∧ s.lock = k
/-- One guard: r is what it wants, d whether it is done. -/
structure GI (r : List Int) (s : Gs) (d : Bool) : Prop where
  rise : Rise r
  n : s.n ≤ r.length
  shape : (s.row = r ∧ s.n < r.length) ∨ (s.row = r.take s.n ∧ s.drawn = false)
  done : d = true → s.n = 0 ∧ s.row = []
  live : d = false → s.row = [] → r = []
theorem GI.held {r : List Int} {s : Gs} {d : Bool} (h : GI r s d) : s.held = r.take s.n := by
  unfold Gs.held
  rcases h.shape with ⟨h1, h2⟩ | ⟨h1, h2⟩
  · rw [h1]
  · rw [h1, List.take_take, Nat.min_self]
/-- One lock: who is in line, in which order. -/
structure QI (m : Nat) (st : Nat → Gs) (L : List Nat) (Q : List Nat) (k : Nat) : Prop where
  nd : Q.Nodup
  nxt : L.getD (4 + 2 * k) 0 = L.getD (5 + 2 * k) 0 + Q.length
  mem : ∀ i, i ∈ Q → i < m ∧ ((k : Int) ∈ (st i).held ∨ (st i).waits k)
  hold : ∀ i, i < m → (k : Int) ∈ (st i).held → Q[0]? = some i
  wait : ∀ i, i < m → (st i).waits k → ∃ j, Q[j]? = some i ∧ (st i).mine = L.getD (5 + 2 * k) 0 + j
structure Inv (m : Nat) (W : Nat → List Int) (st : Nat → Gs) (L : List Nat) (d : Nat → Bool) (Q : Nat → List Nat) : Prop where
  len : L.length = 20
  g : ∀ i, i < m → GI (W i) (st i) (d i)
  q : ∀ k, k < 6 → QI m st L (Q k) k
def upd {α : Type} (f : Nat → α) (i : Nat) (x : α) : Nat → α := fun j => if j = i then x else f j
theorem upd_same {α : Type} (f : Nat → α) (i : Nat) (x : α) : upd f i x i = x := if_pos rfl
theorem upd_other {α : Type} (f : Nat → α) {i j : Nat} (x : α) (h : j ≠ i) : upd f i x j = f j := if_neg h
section
variable {m : Nat} {W : Nat → List Int} {st : Nat → Gs} {L : List Nat} {d : Nat → Bool} {Q : Nat → List Nat} {i : Nat}
theorem lock_is {r : List Int} {s : Gs} (hr : Rise r) (h1 : s.row = r) (h2 : s.n < r.length) : s.lock < 6 ∧ r.getD s.n 0 = (s.lock : Int) := by
  have := hr.pos h2
  unfold Gs.lock
  rw [h1]
  omega
theorem getD_mem_take {r : List Int} {a b : Nat} (h : a < b) (hb : a < r.length) : r.getD a 0 ∈ r.take b := by
  refine List.mem_iff_getElem.mpr ⟨a, by rw [List.length_take]; omega, ?_⟩
  rw [List.getElem_take, List.getD_eq_getElem?_getD, List.getElem?_eq_getElem hb]; rfl
/-- A draw. -/
theorem inv_draw (h : Inv m W st L d Q) (hi : i < m) (hn : (st i).n < (st i).row.length) (hd : (st i).drawn = false) (hs : ∀ y ∈ L, y < 65536) :
    Inv m W (upd st i { st i with mine := L.getD (4 + 2 * (st i).lock) 0 % 65536, drawn := true }) (addL L (4 + 2 * (st i).lock)) d (upd Q (st i).lock (Q (st i).lock ++ [i])) := by
  have hg := h.g i hi
  have hrow : (st i).row = W i ∧ (st i).n < (W i).length := by
    rcases hg.shape with h1 | ⟨h1, h2⟩
    · exact h1
    · rw [h1, List.length_take] at hn; omega
  obtain ⟨hk, hkv⟩ := lock_is hg.rise hrow.1 hrow.2
  obtain ⟨k, hkk⟩ : ∃ k, k = (st i).lock := ⟨_, rfl⟩
  rw [← hkk] at hk hkv ⊢
  have hdi : d i = false := by
    cases e : d i with
    | false => rfl
    | true => have := (hg.done e).2; rw [this] at hn; simp at hn
  have hnk : (k : Int) ∉ (st i).held := by
    rw [hg.held, ← hkv]; exact hg.rise.not_take hrow.2
  have hL : L.getD (4 + 2 * k) 0 % 65536 = L.getD (4 + 2 * k) 0 := by
    refine Nat.mod_eq_of_lt (hs _ ?_)
    rw [List.getD_eq_getElem?_getD, List.getElem?_eq_getElem (by rw [h.len]; omega)]
    exact List.getElem_mem _
  rw [hL]
  refine ⟨by rw [addL_len]; exact h.len, fun j hj => ?_, fun k' hk' => ?_⟩
  · by_cases e : j = i
    · subst e
      rw [upd_same]
      exact ⟨hg.rise, hg.n, .inl hrow, fun e => (by rw [hdi] at e; cases e), hg.live⟩
    · rw [upd_other _ _ e]; exact h.g j hj
  · have hq := h.q k' hk'
    have h5 : (addL L (4 + 2 * k)).getD (5 + 2 * k') 0 = L.getD (5 + 2 * k') 0 := by rw [addL_getD _ _ _ (by rw [h.len]; omega), if_neg (by omega)]
    have hheld : ∀ j, (upd st i { st i with mine := L.getD (4 + 2 * k) 0, drawn := true } j).held = (st j).held := fun j => by
      by_cases e : j = i
      · subst e; rw [upd_same]; rfl
      · rw [upd_other _ _ e]
    by_cases e : k' = k
    · subst e
      rw [upd_same]
      have hni : i ∉ Q k' := fun hm => by
        rcases (hq.mem i hm).2 with h1 | h1
        · exact hnk h1
        · rw [h1.1] at hd; cases hd
      refine ⟨?_, ?_, fun j hj => ?_, fun j hj hh => ?_, fun j hj hw => ?_⟩
      · rw [List.nodup_append]
        exact ⟨hq.nd, by simp, fun a ha b hb => by rw [List.mem_singleton.mp hb]; rintro rfl; exact hni ha⟩
      · rw [h5, addL_getD _ _ _ (by rw [h.len]; omega), if_pos rfl, hq.nxt, List.length_append]; rfl
      · rw [hheld]
        rcases List.mem_append.mp hj with h1 | h1
        · obtain ⟨h2, h3⟩ := hq.mem j h1
          have : j ≠ i := fun e => hni (e ▸ h1)
          rw [upd_other _ _ this]
          exact ⟨h2, h3⟩
        · rw [List.mem_singleton.mp h1]
          refine ⟨hi, .inr ?_⟩
          rw [upd_same]
          exact ⟨rfl, hn, hkk.symm⟩
      · rw [hheld] at hh
        have := hq.hold j hj hh
        rw [List.getElem?_append_left (by
          rcases Nat.eq_zero_or_pos (Q k').length with h0 | h0
          · rw [List.length_eq_zero_iff.mp h0] at this; cases this
          · exact h0)]
        exact this
      · by_cases e : j = i
        · subst e
          refine ⟨(Q k').length, by rw [List.getElem?_append_right (Nat.le_refl _)]; simp, ?_⟩
          rw [upd_same, h5]; exact hq.nxt
        · rw [upd_other _ _ e] at hw ⊢
          obtain ⟨t, h1, h2⟩ := hq.wait j hj hw
          refine ⟨t, ?_, by rw [h5]; exact h2⟩
          rw [List.getElem?_append_left (List.getElem?_eq_some_iff.mp h1).1]; exact h1
    · rw [upd_other _ _ e]
      have hwt : ∀ j, (upd st i { st i with mine := L.getD (4 + 2 * k) 0, drawn := true } j).waits k' → (st j).waits k' ∧ j ≠ i := fun j hw => by
        by_cases e2 : j = i
        · subst e2
          rw [upd_same] at hw
          exact absurd (hw.2.2.symm.trans hkk.symm) e
        · rw [upd_other _ _ e2] at hw; exact ⟨hw, e2⟩
      refine ⟨hq.nd, ?_, fun j hj => ?_, fun j hj hh => ?_, fun j hj hw => ?_⟩
      · rw [h5, addL_getD _ _ _ (by rw [h.len]; omega), if_neg (by omega)]; exact hq.nxt
      · rw [hheld]
        obtain ⟨h2, h3⟩ := hq.mem j hj
        refine ⟨h2, ?_⟩
        rcases h3 with h3 | h3
        · exact .inl h3
        · have : j ≠ i := fun e => by rw [e, ] at h3; rw [h3.1] at hd; cases hd
          rw [upd_other _ _ this]; exact .inr h3
      · rw [hheld] at hh; exact hq.hold j hj hh
      · obtain ⟨h1, h2⟩ := hwt j hw
        rw [upd_other _ _ h2, h5]; exact hq.wait j hj h1
/-- A lock is had. -/
theorem inv_mine (h : Inv m W st L d Q) (hi : i < m) (hn : (st i).n < (st i).row.length) (hd : (st i).drawn = true) (hs : ∀ y ∈ L, y < 65536) (hy : L.getD (5 + 2 * (st i).lock) 0 % 65536 = (st i).mine) :
    Inv m W (upd st i { st i with n := (st i).n + 1, mine := 0, drawn := false }) L d Q := by
  have hg := h.g i hi
  have hrow : (st i).row = W i ∧ (st i).n < (W i).length := by
    rcases hg.shape with h1 | ⟨h1, h2⟩
    · exact h1
    · rw [h1, List.length_take] at hn; omega
  obtain ⟨hk, hkv⟩ := lock_is hg.rise hrow.1 hrow.2
  obtain ⟨k, hkk⟩ : ∃ k, k = (st i).lock := ⟨_, rfl⟩
  rw [← hkk] at hk hkv hy
  have hdi : d i = false := by
    cases e : d i with
    | false => rfl
    | true => have := (hg.done e).2; rw [this] at hn; simp at hn
  have hne : (st i).row ≠ [] := fun e => by rw [e] at hn; simp at hn
  have hL : L.getD (5 + 2 * k) 0 % 65536 = L.getD (5 + 2 * k) 0 := by
    refine Nat.mod_eq_of_lt (hs _ ?_)
    rw [List.getD_eq_getElem?_getD, List.getElem?_eq_getElem (by rw [h.len]; omega)]
    exact List.getElem_mem _
  rw [hL] at hy
  have hwi : (st i).waits k := ⟨hd, hn, hkk.symm⟩
  have hh' : (Gs.held { st i with n := (st i).n + 1, mine := 0, drawn := false }) = (st i).held ++ [(k : Int)] := by
    show (st i).row.take ((st i).n + 1) = (st i).row.take (st i).n ++ _
    rw [take_more hn, hrow.1, hkv]
  have hhead : (Q k)[0]? = some i := by
    obtain ⟨t, h1, h2⟩ := (h.q k hk).wait i hi hwi
    have : t = 0 := by omega
    rw [this] at h1; exact h1
  refine ⟨h.len, fun j hj => ?_, fun k' hk' => ?_⟩
  · by_cases e : j = i
    · subst e
      rw [upd_same]
      refine ⟨hg.rise, hrow.2, ?_, fun e => (by rw [hdi] at e; cases e), fun _ e => absurd e hne⟩
      rcases Nat.lt_or_ge ((st j).n + 1) (W j).length with h1 | h1
      · exact .inl ⟨hrow.1, h1⟩
      · refine .inr ⟨?_, rfl⟩
        show (st j).row = (W j).take ((st j).n + 1)
        rw [List.take_of_length_le h1]; exact hrow.1
    · rw [upd_other _ _ e]; exact h.g j hj
  · have hq := h.q k' hk'
    have hwt : ∀ j, (upd st i { st i with n := (st i).n + 1, mine := 0, drawn := false } j).waits k' → (st j).waits k' ∧ j ≠ i := fun j hw => by
      by_cases e2 : j = i
      · subst e2
        rw [upd_same] at hw
        have := hw.1
        cases this
      · rw [upd_other _ _ e2] at hw; exact ⟨hw, e2⟩
    refine ⟨hq.nd, hq.nxt, fun j hj => ?_, fun j hj hh => ?_, fun j hj hw => ?_⟩
    · obtain ⟨h2, h3⟩ := hq.mem j hj
      refine ⟨h2, ?_⟩
      by_cases e : j = i
      · subst e
        rw [upd_same, hh']
        rcases h3 with h3 | h3
        · exact .inl (List.mem_append_left _ h3)
        · have : k' = k := h3.2.2.symm.trans hkk.symm
          rw [this]; exact .inl (List.mem_append_right _ (by simp))
      · rw [upd_other _ _ e]; exact h3
    · by_cases e : j = i
      · subst e
        rw [upd_same, hh'] at hh
        rcases List.mem_append.mp hh with h1 | h1
        · exact hq.hold j hj h1
        · have : k' = k := by simp at h1; omega
          rw [this]; exact hhead
      · rw [upd_other _ _ e] at hh; exact hq.hold j hj hh
    · obtain ⟨h1, h2⟩ := hwt j hw
      rw [upd_other _ _ h2]; exact hq.wait j hj h1
/-- The last one is given back. -/
theorem inv_give (h : Inv m W st L d Q) (hi : i < m) (hn : (st i).n = (st i).row.length) (h0 : (st i).n ≠ 0) :
    Inv m W (upd st i { st i with row := (st i).row.take ((st i).n - 1), n := (st i).n - 1 }) (addL L (5 + 2 * (st i).last)) (upd d i (decide ((st i).n - 1 = 0))) (upd Q (st i).last (Q (st i).last).tail) := by
  have hg := h.g i hi
  have hrow : (st i).row = (W i).take (st i).n ∧ (st i).drawn = false := by
    rcases hg.shape with ⟨h1, h2⟩ | h1
    · rw [h1] at hn; omega
    · exact h1
  obtain ⟨a, ha⟩ : ∃ a, (st i).n = a + 1 := ⟨(st i).n - 1, by omega⟩
  have haw : a < (W i).length := by have := hg.n; omega
  have hp := hg.rise.pos haw
  have hgd : (st i).row.getD a 0 = (W i).getD a 0 := by
    rw [hrow.1, List.getD_eq_getElem?_getD, List.getD_eq_getElem?_getD, List.getElem?_take, if_pos (by omega)]
  obtain ⟨k, hkk⟩ : ∃ k, k = (st i).last := ⟨_, rfl⟩
  have hkv : (W i).getD a 0 = (k : Int) := by
    rw [hkk]; unfold Gs.last
    rw [ha, show a + 1 - 1 = a by omega, hgd]; omega
  have hk : k < 6 := by omega
  rw [← hkk, ha, show a + 1 - 1 = a by omega]
  have hheld : (st i).held = (W i).take a ++ [(k : Int)] := by rw [hg.held, ha, take_more haw, hkv]
  have hrow' : (st i).row.take a = (W i).take a := by rw [hrow.1, List.take_take]; congr 1; omega
  have hh' : (Gs.held { st i with row := (st i).row.take a, n := a }) = (W i).take a := by
    show ((st i).row.take a).take a = _
    rw [hrow', List.take_take, Nat.min_self]
  have hnk : (k : Int) ∉ (W i).take a := by rw [← hkv]; exact hg.rise.not_take haw
  have hhead : (Q k)[0]? = some i := (h.q k hk).hold i hi (by rw [hheld]; exact List.mem_append_right _ (by simp))
  obtain ⟨q, hq0⟩ : ∃ q, Q k = i :: q := by
    cases e : Q k with
    | nil => rw [e] at hhead; cases hhead
    | cons y q => rw [e] at hhead; simp at hhead; exact ⟨q, by rw [hhead]⟩
  refine ⟨by rw [addL_len]; exact h.len, fun j hj => ?_, fun k' hk' => ?_⟩
  · by_cases e : j = i
    · subst e
      rw [upd_same, upd_same]
      refine ⟨hg.rise, by show a ≤ _; omega, .inr ⟨hrow', hrow.2⟩, fun e => ?_, fun e1 e2 => ?_⟩
      · have : a = 0 := of_decide_eq_true e
        subst this
        exact ⟨rfl, rfl⟩
      · have h1 : a ≠ 0 := of_decide_eq_false e1
        have h2 : ((st j).row.take a).length = 0 := by rw [show (st j).row.take a = [] from e2]; rfl
        rw [hrow', List.length_take] at h2
        omega
    · rw [upd_other _ _ e, upd_other _ _ e]; exact h.g j hj
  · have hq := h.q k' hk'
    have h4 : (addL L (5 + 2 * k)).getD (4 + 2 * k') 0 = L.getD (4 + 2 * k') 0 := by rw [addL_getD _ _ _ (by rw [h.len]; omega), if_neg (by omega)]
    have hwt : ∀ j, (upd st i { st i with row := (st i).row.take a, n := a } j).waits k' → (st j).waits k' ∧ j ≠ i := fun j hw => by
      by_cases e2 : j = i
      · subst e2
        rw [upd_same] at hw
        have := hw.1
        have e3 : (st j).drawn = true := this
        rw [hrow.2] at e3; cases e3
      · rw [upd_other _ _ e2] at hw; exact ⟨hw, e2⟩
    have hnw : ¬ (st i).waits k' := fun hw => by rw [hw.1] at hrow; exact absurd hrow.2 (by decide)
    by_cases e : k' = k
    · subst e
      have h5 : (addL L (5 + 2 * k')).getD (5 + 2 * k') 0 = L.getD (5 + 2 * k') 0 + 1 := by rw [addL_getD _ _ _ (by rw [h.len]; omega), if_pos rfl]
      rw [upd_same, hq0]
      have hnd := hq.nd
      rw [hq0, List.nodup_cons] at hnd
      have hnx := hq.nxt
      rw [hq0, List.length_cons] at hnx
      refine ⟨hnd.2, ?_, fun j hj => ?_, fun j hj hh => ?_, fun j hj hw => ?_⟩
      · rw [h4, h5, List.tail_cons]; omega
      · have hj' : j ∈ q := hj
        obtain ⟨h2, h3⟩ := hq.mem j (by rw [hq0]; exact List.mem_cons_of_mem _ hj')
        have : j ≠ i := fun e => hnd.1 (e ▸ hj')
        rw [upd_other _ _ this]; exact ⟨h2, h3⟩
      · by_cases e : j = i
        · subst e
          rw [upd_same, hh'] at hh; exact absurd hh hnk
        · rw [upd_other _ _ e] at hh
          have h6 := hq.hold j hj hh
          rw [hq0] at h6
          simp at h6
          exact absurd h6.symm e
      · obtain ⟨h1, h2⟩ := hwt j hw
        rw [upd_other _ _ h2, h5]
        obtain ⟨t, h6, h7⟩ := hq.wait j hj h1
        rw [hq0] at h6
        cases t with
        | zero => simp at h6; exact absurd h6.symm h2
        | succ t => exact ⟨t, by simpa using h6, by omega⟩
    · have h5 : (addL L (5 + 2 * k)).getD (5 + 2 * k') 0 = L.getD (5 + 2 * k') 0 := by rw [addL_getD _ _ _ (by rw [h.len]; omega), if_neg (by omega)]
      rw [upd_other _ _ e]
      refine ⟨hq.nd, by rw [h4, h5]; exact hq.nxt, fun j hj => ?_, fun j hj hh => ?_, fun j hj hw => ?_⟩
      · obtain ⟨h2, h3⟩ := hq.mem j hj
        refine ⟨h2, ?_⟩
        by_cases e2 : j = i
        · subst e2
          rw [upd_same, hh']
          rcases h3 with h3 | h3
          · rw [hheld] at h3
            rcases List.mem_append.mp h3 with h6 | h6
            · exact .inl h6
            · simp at h6; omega
          · exact absurd h3 hnw
        · rw [upd_other _ _ e2]; exact h3
      · by_cases e2 : j = i
        · subst e2
          rw [upd_same, hh'] at hh
          exact hq.hold j hj (by rw [hheld]; exact List.mem_append_left _ hh)
        · rw [upd_other _ _ e2] at hh; exact hq.hold j hj hh
      · obtain ⟨h1, h2⟩ := hwt j hw
        rw [upd_other _ _ h2, h5]; exact hq.wait j hj h1
end
end Go.Proofs.Ytabcodjalacdjab.GuardCode
