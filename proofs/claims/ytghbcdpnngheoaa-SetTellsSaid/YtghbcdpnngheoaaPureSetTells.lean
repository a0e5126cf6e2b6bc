/- The law SetTells returns true for every set, every second set, every number and every row of numbers: the package's functions compute what the document's compute. -/
import Derived.Test.YtghbcdpnngheoaaPSetx3
import Derived.Test.YtghbcdpnngheoaaPureSetBack
namespace Go.Proofs.Ytghbcdpnngheoaa.Pure
open Go.RowKit Go.Proofs.Ytghbcdpnngheoaa.PSet Go.Proofs.YtghbcdpnngheoaaW.PrintWords Go.Proofs.YtghbcdpnngheoaaW.PrintLast Go.Proofs.YtghbcdpnngheoaaW.PrintMore Go.Proofs.Ytghbcdpnngheoaa.SetBits

theorem two_pow_lt {j : Nat} (hj : j < 64) : 2 ^ j < 2 ^ 64 := Nat.pow_lt_pow_right (by decide) hj
theorem bitN_nat {j : Nat} (hj : j < 64) : bitN (j : Int) = 2 ^ j := by unfold bitN; rw [if_pos (by omega), Int.toNat_natCast]
theorem weight_l (j : Nat) (hj : j < 64) : ∀ (d i k : Nat), i + d = j → d + 1 ≤ k → tollbarref02_weight.l0 k (j : Int) ((2 ^ i : Nat) : Int) (i : Int) = some ((2 ^ j : Nat) : Int) := by
  intro d
  induction d with
  | zero =>
    intro i k hi hk
    obtain ⟨k, rfl⟩ : ∃ m, k = m + 1 := ⟨k - 1, by omega⟩
    obtain rfl : i = j := by omega
    simp only [tollbarref02_weight.l0]
    rw [if_neg (by omega)]
  | succ d ih =>
    intro i k hi hk
    obtain ⟨k, rfl⟩ : ∃ m, k = m + 1 := ⟨k - 1, by omega⟩
    have h := ih (i + 1) k (by omega) (by omega)
    have hlt : 2 ^ (i + 1) < 2 ^ 64 := two_pow_lt (by omega)
    have e : (2 : Int) * ((2 ^ i : Nat) : Int) = ((2 ^ (i + 1) : Nat) : Int) := by rw [Nat.pow_succ]; omega
    simp only [tollbarref02_weight.l0]
    rw [if_pos (by omega), e, u64_id _ (Int.natCast_nonneg _) (by exact_mod_cast hlt), PSet.w64 (by omega) (by omega), show (i : Int) + 1 = ((i + 1 : Nat) : Int) by omega]
    exact h
theorem weight_f (j k : Nat) (hj : j < 64) (hk : 65 ≤ k) : tollbarref02_weight.f k (j : Int) = some ((2 ^ j : Nat) : Int) := weight_l j hj j 0 k (by omega) (by omega)
theorem rhas_f (n : Nat) (x : Int) (k : Nat) (hn : n < 2 ^ 64) (hk : 65 ≤ k) : tollbarref02_Has.f k (n : Int) x = some (hasI n x) := by
  unfold tollbarref02_Has.f
  by_cases h0 : x ≥ 0
  · rw [if_pos h0]
    by_cases h1 : x < 64
    · obtain ⟨j, rfl⟩ := Int.eq_ofNat_of_zero_le h0
      rw [if_pos h1, weight_f j k (by omega) hk, Option.bind_some]
      have hp : 0 < 2 ^ j := Nat.two_pow_pos j
      rw [if_neg (by omega), ← Int.ofNat_tdiv]
      have hd : n / 2 ^ j < 2 ^ 64 := Nat.lt_of_le_of_lt (Nat.div_le_self _ _) hn
      rw [u64_id _ (Int.natCast_nonneg _) (by exact_mod_cast hd), Int.tmod_eq_emod_of_nonneg (Int.natCast_nonneg _)]
      unfold hasI
      rw [decide_eq_true (show 0 ≤ (j : Int) ∧ (j : Int) < 64 by omega), Bool.true_and, Int.toNat_natCast, Nat.testBit_eq_decide_div_mod_eq]
      congr 1
      by_cases h2 : n / 2 ^ j % 2 = 1
      · rw [decide_eq_true h2]; exact beq_iff_eq.2 (by omega)
      · rw [decide_eq_false h2]; exact beq_eq_false_iff_ne.2 (by omega)
    · rw [if_neg h1]; unfold hasI; rw [decide_eq_false (by omega)]; rfl
  · rw [if_neg h0]; unfold hasI; rw [decide_eq_false (by omega)]; rfl
theorem add_or {n j : Nat} (hn : n < 2 ^ 64) (hj : j < 64) (h : n.testBit j = false) : (n + 2 ^ j) % 2 ^ 64 = n ||| 2 ^ j := by
  have h0 : BitVec.ofNat 64 n &&& BitVec.ofNat 64 (2 ^ j) = 0#64 := by
    apply BitVec.eq_of_toNat_eq
    rw [BitVec.toNat_and, BitVec.toNat_ofNat, BitVec.toNat_ofNat, Nat.mod_eq_of_lt hn, Nat.mod_eq_of_lt (two_pow_lt hj)]
    apply Nat.eq_of_testBit_eq
    intro i
    rw [Nat.testBit_and, Nat.testBit_two_pow]
    by_cases e : j = i
    · subst e; simp [h]
    · simp [e]
  have h1 := congrArg BitVec.toNat (BitVec.add_eq_or_of_and_eq_zero _ _ h0)
  rw [BitVec.toNat_add, BitVec.toNat_or, BitVec.toNat_ofNat, BitVec.toNat_ofNat, Nat.mod_eq_of_lt hn, Nat.mod_eq_of_lt (two_pow_lt hj)] at h1
  exact h1
theorem hasI_nat (n j : Nat) (hj : j < 64) : hasI n (j : Int) = n.testBit j := by
  unfold hasI; rw [decide_eq_true (by omega), Bool.true_and, Int.toNat_natCast]
theorem rwith_f (n : Nat) (x : Int) (k : Nat) (hn : n < 2 ^ 64) (hk : 65 ≤ k) : tollbarref02_With.f k (n : Int) x = some ((n ||| bitN x : Nat) : Int) := by
  unfold tollbarref02_With.f
  by_cases h0 : x < 0
  · rw [if_pos h0]; have e : bitN x = 0 := by unfold bitN; rw [if_neg (by omega)]
    rw [e, Nat.or_zero]
  · rw [if_neg h0]
    by_cases h1 : x > 63
    · rw [if_pos h1]; have e : bitN x = 0 := by unfold bitN; rw [if_neg (by omega)]
      rw [e, Nat.or_zero]
    · obtain ⟨j, rfl⟩ := Int.eq_ofNat_of_zero_le (show 0 ≤ x by omega)
      have hj : j < 64 := by omega
      rw [if_neg h1, rhas_f n _ k hn hk, Option.bind_some, hasI_nat n j hj]
      cases hb : n.testBit j with
      | true =>
        rw [if_pos rfl]
        have e : n ||| bitN (j : Int) = n := by
          refine eq_of_hasI (or_lt hn (bitN_lt _)) hn fun i => ?_
          rw [hasI_with]
          by_cases c : (j : Int) = i ∧ 0 ≤ i ∧ i < 64
          · rw [← c.1, hasI_nat n j hj, hb]; rfl
          · rw [decide_eq_false c, Bool.or_false]
        rw [e]
      | false =>
        rw [if_neg (by simp), weight_f j k hj hk, Option.bind_some, bitN_nat hj, u64_wrap]
        have := add_or hn hj hb
        congr 1
        omega
theorem rless_f (n : Nat) (x : Int) (k : Nat) (hn : n < 2 ^ 64) (hk : 65 ≤ k) : tollbarref02_Less.f k (n : Int) x = some ((lessN n (bitN x) : Nat) : Int) := by
  unfold tollbarref02_Less.f
  rw [rhas_f n x k hn hk, Option.bind_some]
  cases hb : hasI n x with
  | true =>
    have hx : 0 ≤ x ∧ x < 64 := by
      unfold hasI at hb
      have := (Bool.and_eq_true_iff.1 hb).1
      exact of_decide_eq_true this
    obtain ⟨j, rfl⟩ := Int.eq_ofNat_of_zero_le hx.1
    have hj : j < 64 := by omega
    rw [if_pos rfl, weight_f j k hj hk, Option.bind_some, u64_wrap]
    have hl := lessN_lt n (bitN (j : Int))
    have h1 : (lessN n (bitN (j : Int))).testBit j = false := by
      rw [← hasI_nat _ j hj, hasI_less _ _ _ hn, decide_eq_true (show (j : Int) = j ∧ 0 ≤ (j : Int) ∧ (j : Int) < 64 from ⟨rfl, by omega, by omega⟩)]; simp
    have h2 := add_or hl hj h1
    have h3 : lessN n (bitN (j : Int)) ||| 2 ^ j = n := by
      rw [← bitN_nat hj]
      refine eq_of_hasI (or_lt hl (bitN_lt _)) hn fun i => ?_
      rw [hasI_with, hasI_less _ _ _ hn]
      by_cases c : (j : Int) = i ∧ 0 ≤ i ∧ i < 64
      · rw [decide_eq_true c, ← c.1, hb]; rfl
      · rw [decide_eq_false c]; simp
    rw [h3] at h2
    have hp := two_pow_lt hj
    congr 1
    omega
  | false =>
    rw [if_neg (by simp)]
    have e : lessN n (bitN x) = n := by
      refine eq_of_hasI (lessN_lt _ _) hn fun i => ?_
      rw [hasI_less _ _ _ hn]
      by_cases c : x = i ∧ 0 ≤ i ∧ i < 64
      · rw [decide_eq_true c, ← c.1, hb]; rfl
      · rw [decide_eq_false c]; simp
    rw [e]
theorem rlist_up (n : Nat) (hn : n < 2 ^ 64) : ∀ (d i k : Nat), i + d = 64 → d + 70 ≤ k → tollbarref02_List.l0 k (n : Int) (upto (n : Int) i) (i : Int) = some (upto (n : Int) 64) := by
  intro d
  induction d with
  | zero =>
    intro i k hi hk
    obtain ⟨k, rfl⟩ : ∃ m, k = m + 1 := ⟨k - 1, by omega⟩
    obtain rfl : i = 64 := by omega
    simp only [tollbarref02_List.l0]
    rw [if_neg (by omega)]
  | succ d ih =>
    intro i k hi hk
    obtain ⟨k, rfl⟩ : ∃ m, k = m + 1 := ⟨k - 1, by omega⟩
    have hu := upto_le (n : Int) i
    simp only [tollbarref02_List.l0]
    rw [if_pos (by omega), rhas_f n _ k hn (by omega), Option.bind_some, PSet.w64 (n := (i : Int) + 1) (by omega) (by omega), show (i : Int) + 1 = ((i + 1 : Nat) : Int) by omega]
    have := ih (i + 1) k (by omega) (by omega)
    cases hb : hasB (n : Int) i with
    | true => rw [← hasB_N n i hn, hb, if_pos rfl, if_pos (by omega)]; rw [upto_yes hb] at this; exact this
    | false => rw [← hasB_N n i hn, hb, if_neg (by simp)]; rw [upto_no hb] at this; exact this
theorem rlist_f (n : Nat) (k : Nat) (hn : n < 2 ^ 64) (hk : 134 ≤ k) : tollbarref02_List.f k (n : Int) = some (upto (n : Int) 64) := rlist_up n hn 64 0 k rfl (by omega)
theorem rof_l0 (l : List Int) (hl : l.length < 9223372036854775000) : ∀ (d i k acc : Nat), i + d = l.length → d + 70 ≤ k → acc < 2 ^ 64 → tollbarref02_Of.l0 k l (acc : Int) (i : Int) = some ((ofN acc (l.drop i) : Nat) : Int) := by
  intro d
  induction d with
  | zero =>
    intro i k acc hi hk _
    obtain ⟨k, rfl⟩ : ∃ m, k = m + 1 := ⟨k - 1, by omega⟩
    simp only [tollbarref02_Of.l0]
    rw [if_neg (by omega), List.drop_of_length_le (by omega)]; rfl
  | succ d ih =>
    intro i k acc hi hk ha
    obtain ⟨k, rfl⟩ : ∃ m, k = m + 1 := ⟨k - 1, by omega⟩
    simp only [tollbarref02_Of.l0]
    rw [if_pos (by omega), if_pos (by omega), rwith_f acc _ k ha (by omega), Option.bind_some, PSet.w64 (by omega) (by omega), show (i : Int) + 1 = ((i + 1 : Nat) : Int) by omega]
    rw [ih (i + 1) k _ (by omega) (by omega) (or_lt ha (bitN_lt _)), rd_drop (l := l) (i := i) (by omega), ofN]
theorem rof_f (l : List Int) (k : Nat) (hl : l.length < 9223372036854775000) (hk : l.length + 70 ≤ k) : tollbarref02_Of.f k l = some ((ofN 0 l : Nat) : Int) :=
  rof_l0 l hl l.length 0 k 0 (by omega) hk (by decide)
theorem hasI_lessN (n m : Nat) (k : Int) (hn : n < 2 ^ 64) : hasI (lessN n m) k = (hasI n k && !hasI m k) := by
  unfold hasI
  rw [testBit_lessN _ _ _ hn]
  by_cases h : 0 ≤ k ∧ k < 64
  · rw [decide_eq_true h]; simp
  · rw [decide_eq_false h]; simp
theorem in_f (n m : Nat) : set_In.f (n : Int) (m : Int) = some (decide (lessN n m = 0)) := by
  unfold set_In.f
  rw [andNot_N]
  congr 1
  by_cases h : lessN n m = 0
  · rw [decide_eq_true h, h]; rfl
  · rw [decide_eq_false h]; exact beq_eq_false_iff_ne.2 (by omega)
theorem rin_l0 (n m : Nat) (hn : n < 2 ^ 64) (hm : m < 2 ^ 64) : ∀ (d i k : Nat), i + d = 64 → d + 70 ≤ k → (∀ j : Nat, j < i → hasI n (j : Int) = true → hasI m (j : Int) = true) →
    tollbarref02_In.l0 k (n : Int) (m : Int) (i : Int) = some (decide (lessN n m = 0)) := by
  intro d
  induction d with
  | zero =>
    intro i k hi hk H
    obtain ⟨k, rfl⟩ : ∃ m, k = m + 1 := ⟨k - 1, by omega⟩
    obtain rfl : i = 64 := by omega
    simp only [tollbarref02_In.l0]
    rw [if_neg (by omega), decide_eq_true]
    refine eq_of_hasI (lessN_lt _ _) (by decide) fun x => ?_
    rw [hasI_lessN n m x hn]
    have h0 : hasI 0 x = false := by unfold hasI; simp
    rw [h0]
    by_cases hx : 0 ≤ x ∧ x < 64
    · obtain ⟨j, rfl⟩ := Int.eq_ofNat_of_zero_le hx.1
      cases hb : hasI n (j : Int) with
      | false => rfl
      | true => rw [H j (by omega) hb]; rfl
    · have : hasI n x = false := by unfold hasI; rw [decide_eq_false hx]; rfl
      rw [this]; rfl
  | succ d ih =>
    intro i k hi hk H
    obtain ⟨k, rfl⟩ : ∃ m, k = m + 1 := ⟨k - 1, by omega⟩
    simp only [tollbarref02_In.l0]
    rw [if_pos (by omega), rhas_f n _ k hn (by omega), Option.bind_some, PSet.w64 (n := (i : Int) + 1) (by omega) (by omega), show (i : Int) + 1 = ((i + 1 : Nat) : Int) by omega]
    have step := fun H' => ih (i + 1) k (by omega) (by omega) H'
    cases hb : hasI n (i : Int) with
    | true =>
      rw [if_pos rfl, rhas_f m _ k hm (by omega), Option.bind_some]
      cases hc : hasI m (i : Int) with
      | true =>
        rw [if_pos rfl]
        refine step fun j hj hh => ?_
        by_cases e : j = i
        · subst e; exact hc
        · exact H j (by omega) hh
      | false =>
        rw [if_neg (by simp), decide_eq_false]
        intro h0
        have := hasI_lessN n m (i : Int) hn
        rw [h0, hb, hc] at this
        have h0 : hasI 0 (i : Int) = false := by unfold hasI; simp
        rw [h0] at this
        exact Bool.noConfusion this
    | false =>
      rw [if_neg (by simp)]
      refine step fun j hj hh => ?_
      by_cases e : j = i
      · subst e; rw [hb] at hh; exact Bool.noConfusion hh
      · exact H j (by omega) hh
theorem rin_f (n m : Nat) (k : Nat) (hn : n < 2 ^ 64) (hm : m < 2 ^ 64) (hk : 134 ≤ k) : tollbarref02_In.f k (n : Int) (m : Int) = some (decide (lessN n m = 0)) :=
  rin_l0 n m hn hm 64 0 k rfl (by omega) (fun j hj => absurd hj (by omega))
theorem same_l0 (l : List Int) (hl : l.length < 9223372036854775000) : ∀ (d i k : Nat), i + d = l.length → d + 1 ≤ k → tollbarref01_SameInts.l0 k l l (i : Int) = some true := by
  intro d
  induction d with
  | zero =>
    intro i k hi hk
    obtain ⟨k, rfl⟩ : ∃ m, k = m + 1 := ⟨k - 1, by omega⟩
    simp only [tollbarref01_SameInts.l0]
    rw [if_neg (by omega)]
  | succ d ih =>
    intro i k hi hk
    obtain ⟨k, rfl⟩ : ∃ m, k = m + 1 := ⟨k - 1, by omega⟩
    simp only [tollbarref01_SameInts.l0]
    rw [if_pos (by omega), if_pos (by omega), if_pos (by omega), if_pos trivial, PSet.w64 (by omega) (by omega), show (i : Int) + 1 = ((i + 1 : Nat) : Int) by omega]
    exact ih (i + 1) k (by omega) (by omega)
theorem same_f (l : List Int) (k : Nat) (hl : l.length < 9223372036854775000) (hk : l.length + 1 ≤ k) : tollbarref01_SameInts.f k l l = some true := by
  unfold tollbarref01_SameInts.f; rw [if_pos rfl]; exact same_l0 l hl l.length 0 k (by omega) hk
def least (l : List Int) : Int × Bool := match l with | [] => (0, false) | x :: _ => (x, true)
theorem least_up (s : Int) : ∀ (d i k : Nat), i + d = 64 → d + 1 ≤ k → upto s i = [] → set_Least.l0 k s (i : Int) = some (least (upto s 64)) := by
  intro d
  induction d with
  | zero =>
    intro i k hi hk hu
    obtain ⟨k, rfl⟩ : ∃ m, k = m + 1 := ⟨k - 1, by omega⟩
    obtain rfl : i = 64 := by omega
    simp only [set_Least.l0]
    rw [if_neg (by omega), hu]; rfl
  | succ d ih =>
    intro i k hi hk hu
    obtain ⟨k, rfl⟩ : ∃ m, k = m + 1 := ⟨k - 1, by omega⟩
    simp only [set_Least.l0]
    rw [if_pos (by omega), has_f, Option.bind_some, PSet.w64 (n := (i : Int) + 1) (by omega) (by omega), show (i : Int) + 1 = ((i + 1 : Nat) : Int) by omega]
    cases hb : hasB s i with
    | true =>
      rw [if_pos rfl]
      have h1 := upto_yes hb
      rw [hu] at h1
      obtain ⟨t, ht⟩ := upto_prefix (s := s) (k := i + 1) (m := 64) (by omega)
      rw [h1] at ht
      rw [← ht]; rfl
    | false =>
      rw [if_neg (by simp)]
      exact ih (i + 1) k (by omega) (by omega) (by rw [upto_no hb, hu])
theorem least_f (s : Int) (k : Nat) (hk : 65 ≤ k) : set_Least.f k s = some (least (upto s 64)) := least_up s 64 0 k rfl (by omega) rfl
/-- Behind the least: all the other questions. -/
theorem tells_j2 (n m : Nat) (x : Int) (l : List Int) (y z : Int) (k : Nat) (hn : n < 2 ^ 64) (hm : m < 2 ^ 64) (hl : l.length ≤ 300) (hk : 500 ≤ k) :
    tollbarlaw02_SetTells.j2 (k + 1) (n : Int) (m : Int) x l y (upto (n : Int) 64) z false = some true := by
  have h64 := upto_len (n : Int)
  simp only [tollbarlaw02_SetTells.j2]
  rw [if_neg (by simp), has_I n x hn, Option.bind_some, rhas_f n x k hn (by omega), Option.bind_some, if_pos (by simp), with_I n x hn, Option.bind_some, rwith_f n x k hn (by omega), Option.bind_some, if_pos rfl,
    less_I, Option.bind_some, rless_f n x k hn (by omega), Option.bind_some, if_pos rfl, len_f _ k (by omega), Option.bind_some, if_pos rfl, list_f _ k (by omega), Option.bind_some, same_f _ k (by omega) (by omega), Option.bind_some, if_pos rfl,
    in_f, Option.bind_some, rin_f n m k hn hm (by omega), Option.bind_some, if_pos (by simp), of_f l k (by omega) (by omega), Option.bind_some, rof_f l k (by omega) (by omega), Option.bind_some, if_pos rfl, alive_k k (by omega), Option.bind_some]
theorem SetTells : tollbarlaw02_SetTells.Pure := by
  intro a0 a1 x l ha hb _ _ _ _
  obtain ⟨n, rfl, hn⟩ : ∃ n : Nat, a0 = (n : Int) ∧ n < 2 ^ 64 := by
    have := bounds_u64 ha; exact ⟨a0.toNat, by omega, by omega⟩
  obtain ⟨m, rfl, hm⟩ : ∃ n : Nat, a1 = (n : Int) ∧ n < 2 ^ 64 := by
    have := bounds_u64 hb; exact ⟨a1.toNat, by omega, by omega⟩
  refine ⟨2000 + 1 + 1 + 1 + 1 + 1, ?_⟩
  unfold tollbarlaw02_SetTells.f
  by_cases h : (l.length : Int) > 300
  · rw [if_pos h, alive_k _ (by omega)]; rfl
  · rw [if_neg h, least_f _ _ (by omega), Option.bind_some, rlist_f n _ hn (by omega), Option.bind_some]
    have hj := fun y z k hk => tells_j2 n m x l y z k hn hm (by omega) hk
    cases hu : upto (n : Int) 64 with
    | nil =>
      rw [hu] at hj
      have e1 : (least ([] : List Int)) = (0, false) := rfl
      rw [e1, if_neg (by simp), if_neg (by simp)]
      simp only [tollbarlaw02_SetTells.j0]
      rw [if_neg (by simp)]
      simp only [tollbarlaw02_SetTells.l0]
      rw [if_neg (by simp)]
      exact hj _ _ _ (by omega)
    | cons y r =>
      rw [hu] at hj
      have hlen : (((y :: r).length : Nat) : Int) = (r.length : Int) + 1 := by simp
      have e1 : least (y :: r) = (y, true) := rfl
      rw [e1, if_neg (by rw [hlen, decide_eq_true (by omega)]; simp), if_pos rfl]
      simp only [tollbarlaw02_SetTells.j0]
      rw [if_neg (by simp)]
      simp only [tollbarlaw02_SetTells.l0]
      rw [if_pos (by rw [hlen]; omega)]
      simp only [tollbarlaw02_SetTells.j2]
      rw [if_pos (by decide), if_pos (by omega), if_pos (by rw [hlen]; omega), if_pos (show y = rd (y :: r) 0 from rfl), PSet.w64 (by omega) (by omega)]
      simp only [tollbarlaw02_SetTells.l0]
      by_cases h2 : (0 : Int) + 1 < ((y :: r).length : Int)
      · rw [if_pos h2, decide_eq_false (by omega)]; exact hj _ _ _ (by omega)
      · rw [if_neg h2]; exact hj _ _ _ (by omega)
end Go.Proofs.Ytghbcdpnngheoaa.Pure
