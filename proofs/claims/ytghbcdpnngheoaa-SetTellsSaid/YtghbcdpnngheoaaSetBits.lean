/- What the functions of package set compute, told bit by bit. -/
import Derived.Test.YtghbcdpnngheoaaSetIter
import Derived.OpenShut
namespace Go.Proofs.Ytghbcdpnngheoaa.SetBits
set_option linter.unusedVariables false
set_option linter.unusedSimpArgs false
open Go.RowKit Go.Proofs.Ytghbcdpnngheoaa.PSet Go.Proofs.YtghbcdpnngheoaaW.PrintWords Go.Proofs.YtghbcdpnngheoaaW.PrintLast Go.Proofs.YtghbcdpnngheoaaW.PrintMore

theorem u64_wrap (n : Int) : IntKind.u64.wrap n = n % 18446744073709551616 := by simp [IntKind.wrap, IntKind.bits, IntKind.signed]
theorem u64_id : ∀ n : Int, 0 ≤ n → n < 2 ^ 64 → IntKind.u64.wrap n = n := by intro n h0 h1; rw [u64_wrap]; omega
/-- Number k's bit; none of one that can't be there. -/
def bitN (k : Int) : Nat := if 0 ≤ k ∧ k < 64 then 2 ^ k.toNat else 0
theorem bitN_lt (k : Int) : bitN k < 2 ^ 64 := by
  unfold bitN; split
  · rename_i h; exact Nat.pow_lt_pow_right (by decide) (by omega)
  · decide
theorem bitv_N (k : Int) : bitv k = (bitN k : Int) := by
  unfold bitN
  by_cases h : 0 ≤ k ∧ k < 64
  · rw [if_pos h, bitv_eq k h.1 h.2, Int.one_mul]
    have h1 : 2 ^ k.toNat < 2 ^ 64 := Nat.pow_lt_pow_right (by decide) (by omega)
    have e : ((2 : Int) ^ k.toNat) = ((2 ^ k.toNat : Nat) : Int) := by simp
    rw [e]; exact u64_id _ (Int.natCast_nonneg _) (by exact_mod_cast h1)
  · rw [if_neg h]
    unfold bitv set_bit.f
    by_cases h0 : k ≥ 0
    · rw [if_pos h0, if_neg (by omega)]; rfl
    · rw [if_neg h0]; rfl
/-- Is number k there? -/
def hasI (n : Nat) (k : Int) : Bool := decide (0 ≤ k ∧ k < 64) && n.testBit k.toNat
theorem testBit_bitN (k : Int) (i : Nat) : (bitN k).testBit i = decide (0 ≤ k ∧ k < 64 ∧ k.toNat = i) := by
  unfold bitN
  by_cases h : 0 ≤ k ∧ k < 64
  · rw [if_pos h, Nat.testBit_two_pow]
    simp [h.1, h.2]
  · rw [if_neg h, Nat.zero_testBit, decide_eq_false (fun h' => h ⟨h'.1, h'.2.1⟩)]
theorem and_N (n m : Nat) (hn : n < 2 ^ 64) (hm : m < 2 ^ 64) : bits .and .u64 (n : Int) (m : Int) = ((n &&& m : Nat) : Int) := (bits_nat .u64 64 (by decide) u64_id n m hn hm).1
theorem or_N (n m : Nat) (hn : n < 2 ^ 64) (hm : m < 2 ^ 64) : bits .or .u64 (n : Int) (m : Int) = ((n ||| m : Nat) : Int) := (bits_nat .u64 64 (by decide) u64_id n m hn hm).2
def lessN (n m : Nat) : Nat := (BitVec.ofNat 64 n &&& ~~~ BitVec.ofNat 64 m).toNat
theorem lessN_lt (n m : Nat) : lessN n m < 2 ^ 64 := BitVec.isLt _
theorem testBit_lessN (n m i : Nat) (hn : n < 2 ^ 64) : (lessN n m).testBit i = (n.testBit i && !m.testBit i) := by
  unfold lessN
  rw [BitVec.testBit_toNat]
  simp only [BitVec.getLsbD_and, BitVec.getLsbD_not, BitVec.getLsbD_ofNat]
  by_cases h : i < 64
  · simp [h]
  · have : n.testBit i = false := Nat.testBit_lt_two_pow (Nat.lt_of_lt_of_le hn (Nat.pow_le_pow_right (by decide) (by omega)))
    simp [h, this]
theorem andNot_N (n m : Nat) : bits .andNot .u64 (n : Int) (m : Int) = ((lessN n m : Nat) : Int) := by
  simp only [bits, BitVec.ofInt_natCast]
  have h := lessN_lt n m
  unfold lessN at *
  exact u64_id _ (by omega) (by exact_mod_cast h)
theorem hasB_N (n k : Nat) (hn : n < 2 ^ 64) : hasB (n : Int) k = hasI n (k : Int) := by
  unfold hasB hasI
  rw [bitv_N, and_N n _ hn (bitN_lt _)]
  by_cases h : k < 64
  · have e : bitN (k : Int) = 2 ^ k := by unfold bitN; rw [if_pos (by omega), Int.toNat_natCast]
    rw [e, Int.toNat_natCast, decide_eq_true (by omega), Bool.true_and]
    cases hb : n.testBit k with
    | true =>
      have : n &&& 2 ^ k ≠ 0 := by
        intro h0
        have := congrArg (fun m => Nat.testBit m k) h0
        simp [Nat.testBit_and, Nat.testBit_two_pow, hb] at this
      exact bne_iff_ne.2 (by omega)
    | false =>
      have : n &&& 2 ^ k = 0 := by
        apply Nat.eq_of_testBit_eq
        intro i
        rw [Nat.testBit_and, Nat.testBit_two_pow, Nat.zero_testBit]
        by_cases e : k = i
        · subst e; simp [hb]
        · simp [e]
      rw [this]; rfl
  · have e : bitN (k : Int) = 0 := by unfold bitN; rw [if_neg (by omega)]
    rw [e, Nat.and_zero, decide_eq_false (by omega), Bool.false_and]; rfl
theorem has_I (n : Nat) (k : Int) (hn : n < 2 ^ 64) : set_Has.f (n : Int) k = some (hasI n k) := by
  by_cases h : 0 ≤ k
  · obtain ⟨m, rfl⟩ := Int.eq_ofNat_of_zero_le h
    rw [has_f, hasB_N n m hn]
  · unfold set_Has.f
    rw [bit_f, Option.bind_some, bitv_N]
    have e : bitN k = 0 := by unfold bitN; rw [if_neg (by omega)]
    rw [e, and_N n 0 hn (by decide), Nat.and_zero]
    unfold hasI
    rw [decide_eq_false (by omega)]; rfl
theorem with_I (n : Nat) (k : Int) (hn : n < 2 ^ 64) : set_With.f (n : Int) k = some (((n ||| bitN k : Nat) : Int)) := by
  unfold set_With.f; rw [bit_f, Option.bind_some, bitv_N, or_N n _ hn (bitN_lt _)]
theorem less_I (n : Nat) (k : Int) : set_Less.f (n : Int) k = some ((lessN n (bitN k) : Nat) : Int) := by
  unfold set_Less.f; rw [bit_f, Option.bind_some, bitv_N, andNot_N]
theorem or_lt {n m : Nat} (hn : n < 2 ^ 64) (hm : m < 2 ^ 64) : n ||| m < 2 ^ 64 := Nat.or_lt_two_pow hn hm
theorem hasI_with (n : Nat) (x k : Int) : hasI (n ||| bitN x) k = (hasI n k || decide (x = k ∧ 0 ≤ k ∧ k < 64)) := by
  unfold hasI
  rw [Nat.testBit_or, testBit_bitN]
  by_cases h : 0 ≤ k ∧ k < 64
  · by_cases e : x = k
    · subst e; simp [h.1, h.2]
    · have : ¬ (0 ≤ x ∧ x < 64 ∧ x.toNat = k.toNat) := by omega
      simp [h.1, h.2, e, this]
  · simp [h]
theorem hasI_less (n : Nat) (x k : Int) (hn : n < 2 ^ 64) : hasI (lessN n (bitN x)) k = (hasI n k && !decide (x = k ∧ 0 ≤ k ∧ k < 64)) := by
  unfold hasI
  rw [testBit_lessN _ _ _ hn, testBit_bitN]
  by_cases h : 0 ≤ k ∧ k < 64
  · by_cases e : x = k
    · subst e; simp [h.1, h.2]
    · have : ¬ (0 ≤ x ∧ x < 64 ∧ x.toNat = k.toNat) := by omega
      simp [h.1, h.2, e, this]
  · simp [h]

/-- The set of numbers. -/
def ofN (acc : Nat) : List Int → Nat
  | [] => acc
  | x :: l => ofN (acc ||| bitN x) l
theorem ofN_lt : ∀ (l : List Int) (acc : Nat), acc < 2 ^ 64 → ofN acc l < 2 ^ 64
  | [], _, h => h
  | x :: l, acc, h => ofN_lt l _ (or_lt h (bitN_lt x))
theorem hasI_ofN (k : Int) : ∀ (l : List Int) (acc : Nat), hasI (ofN acc l) k = (hasI acc k || decide (k ∈ l ∧ 0 ≤ k ∧ k < 64)) := by
  intro l
  induction l with
  | nil => intro acc; simp [ofN]
  | cons x l ih =>
    intro acc
    rw [ofN, ih, hasI_with, Bool.or_assoc]
    congr 1
    by_cases h : 0 ≤ k ∧ k < 64
    · by_cases e : x = k
      · subst e; simp [h.1, h.2]
      · have e' : ¬ k = x := fun h => e h.symm
        simp [h.1, h.2, e, e']
    · simp [h]
theorem eq_of_hasI {n m : Nat} (hn : n < 2 ^ 64) (hm : m < 2 ^ 64) (h : ∀ k : Int, hasI n k = hasI m k) : n = m := by
  apply Nat.eq_of_testBit_eq
  intro i
  by_cases hi : i < 64
  · have := h (i : Int)
    unfold hasI at this
    rw [decide_eq_true (by omega), Bool.true_and, Bool.true_and, Int.toNat_natCast] at this
    exact this
  · have hp : 2 ^ 64 ≤ 2 ^ i := Nat.pow_le_pow_right (by decide) (by omega)
    rw [Nat.testBit_lt_two_pow (Nat.lt_of_lt_of_le hn hp), Nat.testBit_lt_two_pow (Nat.lt_of_lt_of_le hm hp)]

theorem rd_drop {l : List Int} {i : Nat} (h : i < l.length) : l.drop i = rd l (i : Int) :: l.drop (i + 1) := by
  rw [List.drop_eq_getElem_cons h]
  unfold rd
  rw [Int.toNat_natCast, List.getD_eq_getElem?_getD, List.getElem?_eq_getElem h]; rfl
theorem of_l0 (l : List Int) (hl : l.length < 9223372036854775000) : ∀ (d i k acc : Nat), i + d = l.length → d + 1 ≤ k → acc < 2 ^ 64 → set_Of.l0 k (acc : Int) l (l.length : Int) (i : Int) = some ((ofN acc (l.drop i) : Nat) : Int) := by
  intro d
  induction d with
  | zero =>
    intro i k acc hi hk _
    obtain ⟨k, rfl⟩ : ∃ m, k = m + 1 := ⟨k - 1, by omega⟩
    simp only [set_Of.l0]
    rw [if_neg (by omega), List.drop_of_length_le (by omega)]; rfl
  | succ d ih =>
    intro i k acc hi hk ha
    obtain ⟨k, rfl⟩ : ∃ m, k = m + 1 := ⟨k - 1, by omega⟩
    simp only [set_Of.l0]
    rw [if_pos (by omega), if_pos (by omega), if_pos (by omega), bit_f, Option.bind_some, bitv_N, or_N acc _ ha (bitN_lt _), PSet.w64 (by omega) (by omega), show (i : Int) + 1 = ((i + 1 : Nat) : Int) by omega]
    rw [ih (i + 1) k _ (by omega) (by omega) (or_lt ha (bitN_lt _)), rd_drop (l := l) (i := i) (by omega), ofN]
theorem of_f (l : List Int) (k : Nat) (hl : l.length < 9223372036854775000) (hk : l.length + 1 ≤ k) : set_Of.f k l = some ((ofN 0 l : Nat) : Int) :=
  of_l0 l hl l.length 0 k 0 (by omega) hk (by decide)

/-- What a set has. -/
theorem mem_upto {n : Nat} (hn : n < 2 ^ 64) (k : Int) (m : Nat) : k ∈ upto (n : Int) m ↔ (0 ≤ k ∧ k < m ∧ hasI n k = true) := by
  unfold upto
  rw [List.mem_map]
  constructor
  · rintro ⟨j, hj, rfl⟩
    rw [List.mem_filter, List.mem_range, hasB_N n j hn] at hj
    exact ⟨by omega, by omega, hj.2⟩
  · rintro ⟨h0, h1, h2⟩
    refine ⟨k.toNat, ?_, by omega⟩
    rw [List.mem_filter, List.mem_range, hasB_N n _ hn, show ((k.toNat : Nat) : Int) = k by omega]
    exact ⟨by omega, h2⟩
theorem upto_sorted (s : Int) (m : Nat) : (upto s m).Pairwise (· < ·) := by
  unfold upto
  rw [List.pairwise_map]
  refine List.Pairwise.imp (R := (· < ·)) (fun h => by omega) ?_
  exact List.Pairwise.filter _ List.pairwise_lt_range
theorem ofN_upto {n : Nat} (hn : n < 2 ^ 64) : ofN 0 (upto (n : Int) 64) = n := by
  refine eq_of_hasI (ofN_lt _ _ (by decide)) hn fun k => ?_
  rw [hasI_ofN]
  have h0 : hasI 0 k = false := by unfold hasI; simp
  rw [h0, Bool.false_or]
  by_cases h : k ∈ upto (n : Int) 64
  · have := (mem_upto hn k 64).1 h
    rw [this.2.2]; simp [h, this.1]; omega
  · rw [decide_eq_false (fun h' => h h'.1)]
    cases hb : hasI n k with
    | false => rfl
    | true =>
      exfalso
      apply h
      rw [mem_upto hn]
      unfold hasI at hb
      have := (Bool.and_eq_true_iff.1 hb).1
      simp at this
      exact ⟨this.1, by omega, by unfold hasI; exact hb⟩

/-! Enough rounds. -/
theorem len_up (s : Int) : ∀ (d i k : Nat), i + d = 64 → d + 1 ≤ k → set_Len.l0 k s ((upto s i).length : Int) (i : Int) = some ((upto s 64).length : Int) := by
  intro d
  induction d with
  | zero =>
    intro i k hi hk
    obtain ⟨k, rfl⟩ : ∃ m, k = m + 1 := ⟨k - 1, by omega⟩
    obtain rfl : i = 64 := by omega
    simp only [set_Len.l0]
    rw [if_neg (by omega)]
  | succ d ih =>
    intro i k hi hk
    obtain ⟨k, rfl⟩ : ∃ m, k = m + 1 := ⟨k - 1, by omega⟩
    have hu := upto_le s i
    simp only [set_Len.l0]
    rw [if_pos (by omega), has_f, Option.bind_some, PSet.w64 (n := (i : Int) + 1) (by omega) (by omega), PSet.w64 (n := ((upto s i).length : Int) + 1) (by omega) (by omega), show (i : Int) + 1 = ((i + 1 : Nat) : Int) by omega]
    have := ih (i + 1) k (by omega) (by omega)
    cases hb : hasB s i with
    | true => rw [if_pos rfl]; rw [upto_yes hb, List.length_append] at this; exact this
    | false => rw [if_neg (by simp)]; rw [upto_no hb] at this; exact this
theorem len_f (s : Int) (k : Nat) (hk : 65 ≤ k) : set_Len.f k s = some ((upto s 64).length : Int) := len_up s 64 0 k rfl (by omega)
theorem list_up (s : Int) : ∀ (d i k : Nat), i + d = 64 → d + 1 ≤ k → set_List.l0 k s (upto s i) (i : Int) = some (upto s 64) := by
  intro d
  induction d with
  | zero =>
    intro i k hi hk
    obtain ⟨k, rfl⟩ : ∃ m, k = m + 1 := ⟨k - 1, by omega⟩
    obtain rfl : i = 64 := by omega
    simp only [set_List.l0]
    rw [if_neg (by omega)]
  | succ d ih =>
    intro i k hi hk
    obtain ⟨k, rfl⟩ : ∃ m, k = m + 1 := ⟨k - 1, by omega⟩
    have hu := upto_le s i
    simp only [set_List.l0]
    rw [if_pos (by omega), has_f, Option.bind_some, PSet.w64 (n := (i : Int) + 1) (by omega) (by omega), show (i : Int) + 1 = ((i + 1 : Nat) : Int) by omega]
    have := ih (i + 1) k (by omega) (by omega)
    cases hb : hasB s i with
    | true => rw [if_pos rfl, if_pos (by omega)]; rw [upto_yes hb] at this; exact this
    | false => rw [if_neg (by simp)]; rw [upto_no hb] at this; exact this
theorem list_f (s : Int) (k : Nat) (hk : 65 ≤ k) : set_List.f k s = some (upto s 64) := list_up s 64 0 k rfl (by omega)
end Go.Proofs.Ytghbcdpnngheoaa.SetBits
