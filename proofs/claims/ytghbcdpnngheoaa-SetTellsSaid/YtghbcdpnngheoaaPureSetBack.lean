/- The law SetBack returns true for every set, every row of numbers and every number: what is listed makes the set again, rising; a number is there just if it was put in last, and not taken out. -/
import Derived.Test.YtghbcdpnngheoaaPSetx4
import Derived.Test.YtghbcdpnngheoaaSetBits
namespace Go.Proofs.Ytghbcdpnngheoaa.Pure
open Go.RowKit Go.Proofs.Ytghbcdpnngheoaa.PSet Go.Proofs.YtghbcdpnngheoaaW.PrintWords Go.Proofs.YtghbcdpnngheoaaW.PrintLast Go.Proofs.YtghbcdpnngheoaaW.PrintMore Go.Proofs.Ytghbcdpnngheoaa.SetBits

theorem alive200 : tollbarlaw02_alive.f 200 = some true := by
  unfold tollbarlaw02_alive.f
  decide +kernel
theorem alive_k (k : Nat) (h : 200 ≤ k) : tollbarlaw02_alive.f k = some true := at_rounds tollbarlaw02_alive.mono h alive200

/-- The second loop: whether k is there is what the last word on it said. -/
theorem back_l1 (l : List Int) (x : Int) (hl : l.length ≤ 300) : ∀ (d i k n : Nat), i + d = l.length → n < 2 ^ 64 → 3 * d + 201 ≤ k →
    tollbarlaw02_SetBack.l1 k l x (hasI n x) (n : Int) (i : Int) = some true := by
  intro d
  induction d with
  | zero =>
    intro i k n hi hn hk
    obtain ⟨k, rfl⟩ : ∃ m, k = m + 1 := ⟨k - 1, by omega⟩
    simp only [tollbarlaw02_SetBack.l1]
    rw [if_neg (by omega), alive_k k (by omega)]; rfl
  | succ d ih =>
    intro i k n hi hn hk
    obtain ⟨k, rfl⟩ : ∃ m, k = m + 1 + 1 + 1 := ⟨k - 3, by omega⟩
    have hw : wrap64 ((i : Int) + 1) = ((i + 1 : Nat) : Int) := by rw [PSet.w64 (by omega) (by omega)]; omega
    have hW := Aside0.mk hw
    clear hw
    have hr : rd l (i : Int) = l.getD i 0 := by unfold rd; rw [Int.toNat_natCast]
    obtain ⟨y, hy⟩ : ∃ y, rd l (i : Int) = y := ⟨_, rfl⟩
    have htm : Int.tmod (i : Int) 2 = (i : Int) % 2 := Int.tmod_eq_emod_of_nonneg (by omega)
    have step : ∀ (m : Nat) (b : Bool), m < 2 ^ 64 → b = ((i : Int) % 2 == 0) → hasI m x = (if decide (y = x ∧ 0 ≤ x ∧ x < 64) then b else hasI n x) →
        tollbarlaw02_SetBack.j3 (k + 1 + 1) l x (hasI n x) (m : Int) (i : Int) = some true := by
      intro m b hm hb hh
      simp only [tollbarlaw02_SetBack.j3]
      rw [if_pos (by omega), if_pos (by omega), hy]
      have j4 : ∀ c : Bool, c = decide (y = x ∧ 0 ≤ x ∧ x < 64) → tollbarlaw02_SetBack.j4 (k + 1) l x (hasI n x) (m : Int) (i : Int) c = some true := by
        intro c hc
        simp only [tollbarlaw02_SetBack.j4]
        rw [has_I m x hm, Option.bind_some, Option.bind_some, hW.out, htm, ← hb]
        cases c with
        | true =>
          rw [← hc, if_pos rfl] at hh
          rw [if_pos rfl, hh, if_neg (by simp), ← hh]
          exact ih (i + 1) k m (by omega) hm (by omega)
        | false =>
          rw [← hc, if_neg (by simp)] at hh
          rw [if_neg (by simp), hh, if_neg (by simp), ← hh]
          exact ih (i + 1) k m (by omega) hm (by omega)
      by_cases e : y = x
      · rw [if_pos e]
        by_cases h0 : x ≥ 0
        · rw [if_pos h0]; exact j4 _ (by by_cases h1 : x < 64 <;> simp [e, h0, h1])
        · rw [if_neg h0]; exact j4 _ (by rw [decide_eq_false (by omega)])
      · rw [if_neg e]; exact j4 _ (by rw [decide_eq_false (by intro h; exact e h.1)])
    simp only [tollbarlaw02_SetBack.l1]
    rw [if_pos (by omega), htm, hy]
    by_cases h2 : (i : Int) % 2 = 0
    · rw [if_pos h2, if_pos (by omega), with_I n y hn, Option.bind_some]
      refine step _ true (or_lt hn (bitN_lt _)) (by rw [h2]; rfl) ?_
      rw [hasI_with]
      by_cases c : y = x ∧ 0 ≤ x ∧ x < 64
      · simp [c]
      · rw [decide_eq_false c]; simp
    · rw [if_neg h2, if_pos (by omega), less_I, Option.bind_some]
      refine step _ false (lessN_lt _ _) (by simp [h2]) ?_
      rw [hasI_less _ _ _ hn]
      by_cases c : y = x ∧ 0 ≤ x ∧ x < 64
      · simp [c]
      · rw [decide_eq_false c]; simp
/-- The first loop: what is listed is there, rising. -/
theorem back_l0 (n : Nat) (hn : n < 2 ^ 64) (l : List Int) (x : Int) (hl : l.length ≤ 300) (k0 : Nat) (hk0 : 3 * l.length + 201 ≤ k0) : ∀ (d i k : Nat), i + d = (upto (n : Int) 64).length → k0 + 1 + d ≤ k →
    tollbarlaw02_SetBack.l0 k (n : Int) l x (upto (n : Int) 64) (i : Int) = some true := by
  have h64 := upto_len (n : Int)
  intro d
  induction d with
  | zero =>
    intro i k hi hk
    obtain ⟨k, rfl⟩ : ∃ m, k = m + 1 := ⟨k - 1, by omega⟩
    simp only [tollbarlaw02_SetBack.l0]
    rw [if_neg (by omega), has_I n x hn, Option.bind_some]
    exact back_l1 l x hl l.length 0 k n (by omega) hn (by omega)
  | succ d ih =>
    intro i k hi hk
    obtain ⟨k, rfl⟩ : ∃ m, k = m + 1 := ⟨k - 1, by omega⟩
    have hil : i < (upto (n : Int) 64).length := by omega
    have hrd : ∀ j, j < (upto (n : Int) 64).length → ∃ h : j < (upto (n : Int) 64).length, rd (upto (n : Int) 64) (j : Int) = (upto (n : Int) 64)[j] := by
      intro j hj
      refine ⟨hj, ?_⟩
      unfold rd; rw [Int.toNat_natCast, List.getD_eq_getElem?_getD, List.getElem?_eq_getElem hj]; rfl
    obtain ⟨_, hri⟩ := hrd i hil
    have hmem := (mem_upto hn (upto (n : Int) 64)[i] 64).1 (List.getElem_mem hil)
    have hnext := Aside0.mk (show tollbarlaw02_SetBack.l0 k (n : Int) l x (upto (n : Int) 64) (wrap64 ((i : Int) + 1)) = some true by
      rw [PSet.w64 (by omega) (by omega), show (i : Int) + 1 = ((i + 1 : Nat) : Int) by omega]; exact ih (i + 1) k (by omega) (by omega))
    simp only [tollbarlaw02_SetBack.l0]
    rw [if_pos (by omega), if_pos (by omega), hri, has_I n _ hn, Option.bind_some, hmem.2.2, if_pos rfl]
    by_cases h0 : 0 < i
    · rw [if_pos (by omega), PSet.w64 (by omega) (by omega), show (i : Int) - 1 = ((i - 1 : Nat) : Int) by omega, if_pos (by omega), if_pos (by omega)]
      obtain ⟨hj, hrj⟩ := hrd (i - 1) (by omega)
      have hlt : (upto (n : Int) 64)[i - 1] < (upto (n : Int) 64)[i] := List.pairwise_iff_getElem.1 (upto_sorted (n : Int) 64) (i - 1) i hj hil (by omega)
      rw [hrj, if_neg (by omega)]
      exact hnext.out
    · rw [if_neg (by omega)]
      exact hnext.out
theorem SetBack : tollbarlaw02_SetBack.Pure := by
  intro a0 l x ha _ _ _ _
  obtain ⟨n, rfl, hn⟩ : ∃ n : Nat, a0 = (n : Int) ∧ n < 2 ^ 64 := by
    have := bounds_u64 ha; exact ⟨a0.toNat, by omega, by omega⟩
  refine ⟨2000 + 1, ?_⟩
  unfold tollbarlaw02_SetBack.f
  have hal : tollbarlaw02_alive.f (2000 + 1) = some true := alive_k _ (by omega)
  by_cases h : (l.length : Int) > 300
  · rw [if_pos h, hal]; rfl
  · have h64 := upto_len (n : Int)
    rw [if_neg h, list_f _ _ (by omega), Option.bind_some, of_f _ _ (by omega) (by omega), Option.bind_some, ofN_upto hn, if_pos rfl, len_f _ _ (by omega), Option.bind_some]
    simp only [tollbarlaw02_SetBack.j0]
    rw [if_neg (by simp)]
    exact back_l0 n hn l x (by omega) 1200 (by omega) (upto (n : Int) 64).length 0 2000 (by omega) (by omega)
end Go.Proofs.Ytghbcdpnngheoaa.Pure
