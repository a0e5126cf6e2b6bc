
/- package set's functions on numbers below 2^64. -/
import Derived.Test.YtabcodjalacdjadRow
import Derived.Test.YtabcodjalacdjadIter
import Derived.Laws.BitsLemmas
namespace Go.Proofs.Ytabcodjalacdjad.LocksCode
open Go Go.RowKit Go.Proofs.Ytabcodjalacdjad.Obj Go.Proofs.Ytabcodjalacdjad.Row Go.Proofs.YtabcodjalacdjadW.PrintWords Go.Proofs.YtabcodjalacdjadW.PrintMore
set_option linter.unusedVariables false
set_option linter.unusedSimpArgs false
set_option maxRecDepth 100000
theorem u64_id : ∀ n : Int, 0 ≤ n → n < 2 ^ 64 → IntKind.u64.wrap n = n := by
  intro n h0 h1
  have e : IntKind.u64.wrap n = n % 18446744073709551616 := by simp [IntKind.wrap, IntKind.bits, IntKind.signed]
  rw [e]; omega
/-- Number k's bit; none of one that can't be there. -/
def bitN (k : Int) : Nat := if 0 ≤ k ∧ k < 64 then 2 ^ k.toNat else 0
theorem bitN_lt (k : Int) : bitN k < 2 ^ 64 := by
  unfold bitN; split
  · rename_i h; exact Nat.pow_lt_pow_right (by decide) (by omega)
  · decide
theorem testBit_bitN (k : Int) (i : Nat) : (bitN k).testBit i = decide (0 ≤ k ∧ k < 64 ∧ k.toNat = i) := by
  unfold bitN
  by_cases h : 0 ≤ k ∧ k < 64
  · rw [if_pos h, Nat.testBit_two_pow]
    simp [h.1, h.2]
  · rw [if_neg h, Nat.zero_testBit, decide_eq_false (fun h' => h ⟨h'.1, h'.2.1⟩)]
theorem and_N (n m : Nat) (hn : n < 2 ^ 64) (hm : m < 2 ^ 64) : bits .and .u64 (n : Int) (m : Int) = ((n &&& m : Nat) : Int) := (bits_nat .u64 64 (by decide) u64_id n m hn hm).1
theorem or_N (n m : Nat) (hn : n < 2 ^ 64) (hm : m < 2 ^ 64) : bits .or .u64 (n : Int) (m : Int) = ((n ||| m : Nat) : Int) := (bits_nat .u64 64 (by decide) u64_id n m hn hm).2
/-- Is number k there? -/
def hasI (n : Nat) (k : Int) : Bool := n &&& bitN k != 0
theorem hasI_bit (n : Nat) (k : Int) : hasI n k = (decide (0 ≤ k ∧ k < 64) && n.testBit k.toNat) := by
  unfold hasI bitN
  by_cases h : 0 ≤ k ∧ k < 64
  · rw [if_pos h, decide_eq_true h, Bool.true_and]
    cases hb : n.testBit k.toNat with
    | true =>
      rw [bne_iff_ne]
      intro h0
      have := congrArg (fun m => Nat.testBit m k.toNat) h0
      simp [Nat.testBit_and, Nat.testBit_two_pow, hb] at this
    | false =>
      have : n &&& 2 ^ k.toNat = 0 := by
        apply Nat.eq_of_testBit_eq
        intro i
        rw [Nat.testBit_and, Nat.testBit_two_pow, Nat.zero_testBit]
        by_cases e : k.toNat = i
        · subst e; simp [hb]
        · simp [e]
      rw [this]; rfl
  · rw [if_neg h, decide_eq_false h, Nat.and_zero]; rfl
set_option maxHeartbeats 1000000 in
theorem bit_at (k : Int) (w : World) : Calls Try.prog 21 #[.int .i64 k] w fun e w' => e = .returned (.int .u64 (bitN k : Int)) ∧ w' = w := by
  by_cases h : 0 ≤ k ∧ k < 64
  · obtain ⟨n, rfl⟩ := Int.eq_ofNat_of_zero_le h.1
    have h0 : (0 : Int) ≤ (n : Int) := by omega
    have h1 : (n : Int) < 64 := h.2
    rw [show bitN (n : Int) = 2 ^ n by unfold bitN; rw [if_pos h, Int.toNat_natCast]]
    have hlt : 2 ^ n < 2 ^ 64 := Nat.pow_lt_pow_right (by decide) (by omega)
    have hw := u64_id ((2 ^ n : Nat) : Int) (Int.natCast_nonneg _) (by exact_mod_cast hlt)
    have hwH := hid hw
    have hltH := hid hlt
    clear h hlt hw
    go_enter Try.func21, Try.ntmps21
    go_wp2_with (fail)
    go_ret
    have e : ((2 : Int) ^ n) = ((2 ^ n : Nat) : Int) := by simp
    refine ⟨?_, rfl⟩
    rw [← hwH.out, e]
    rfl
  · rw [show bitN k = 0 by unfold bitN; rw [if_neg h]]
    rcases Int.lt_or_le k 0 with h0 | h0
    · have h1 : ¬ (0 : Int) ≤ k := by omega
      clear h
      go_enter Try.func21, Try.ntmps21
      go_wp2_with (fail)
      go_ret
      exact ⟨rfl, rfl⟩
    · have h1 : ¬ k < (64 : Int) := by omega
      clear h
      go_enter Try.func21, Try.ntmps21
      go_wp2_with (fail)
      go_ret
      exact ⟨rfl, rfl⟩
theorem has_at (s : Nat) (hs : s < 2 ^ 64) (k : Int) (w : World) : Calls Try.prog 17 #[.int .u64 (s : Int), .int .i64 k] w fun e w' => e = .returned (.bool (hasI s k)) ∧ w' = w := by
  have hB := bit_at k w
  have hlt := bitN_lt k
  unfold hasI
  generalize bitN k = b at *
  have e := and_N s b hs hlt
  have eH := hid e
  clear hs hlt e
  go_enter Try.func17, Try.ntmps17
  go_wp2_with (fail)
  refine hB.mono ?_
  rintro e w1 ⟨rfl, rfl⟩
  go_wp2_with (fail)
  go_ret
  refine ⟨?_, rfl⟩
  rw [eH.out]
  have e2 : (((s &&& b : Nat) : Int) != 0) = (s &&& b != 0) := by
    rw [Bool.eq_iff_iff, bne_iff_ne, bne_iff_ne]
    omega
  rw [← e2]
  rfl
theorem with_at (s : Nat) (hs : s < 2 ^ 64) (k : Int) (w : World) : Calls Try.prog 18 #[.int .u64 (s : Int), .int .i64 k] w fun e w' => e = .returned (.int .u64 ((s ||| bitN k : Nat) : Int)) ∧ w' = w := by
  have hB := bit_at k w
  have hlt := bitN_lt k
  generalize bitN k = b at *
  have e := or_N s b hs hlt
  have eH := hid e
  clear hs hlt e
  go_enter Try.func18, Try.ntmps18
  go_wp2_with (fail)
  refine hB.mono ?_
  rintro e w1 ⟨rfl, rfl⟩
  go_wp2_with (fail)
  go_ret
  refine ⟨?_, rfl⟩
  rw [eH.out]
  rfl
/-- The set of numbers. -/
def ofN (l : List Int) : Nat := l.foldl (fun s k => s ||| bitN k) 0
theorem ofN_snoc (l : List Int) (k : Int) : ofN (l ++ [k]) = ofN l ||| bitN k := by simp [ofN]
theorem ofN_lt (l : List Int) : ofN l < 2 ^ 64 := by
  have : ∀ (l : List Int) (s : Nat), s < 2 ^ 64 → l.foldl (fun s k => s ||| bitN k) s < 2 ^ 64 := by
    intro l
    induction l with
    | nil => intro s h; exact h
    | cons k l ih => intro s h; exact ih _ (Nat.or_lt_two_pow h (bitN_lt k))
  exact this l 0 (by decide)
theorem of_at {w : World} {A : Option Addr} {l : List Int} {cap : Nat} (h : Nums w .i64 A l) (hl : l.length ≤ 100000) : Calls Try.prog 16 #[.slice A l.length cap] w fun e w' => e = .returned (.int .u64 (ofN l : Int)) ∧ w' = w := by
  have hH := hid h
  clear h
  go_enter Try.func16, Try.ntmps16
  go_wp2_with (fail)
  go_loopg [2, 7] l.length (fun kq v2 v7 w' => ∃ i : Nat, kq + i = l.length ∧ v7 = .int .i64 (i : Int) ∧ v2 = .int .u64 (ofN (l.take i) : Int) ∧ w' = w)
  case atStart => exact ⟨0, by omega, rfl, rfl, rfl⟩
  case round =>
    obtain ⟨i, hi, rfl, rfl, hw⟩ := hrel
    subst hw
    cases gk with
    | zero =>
      have hin : ¬ ((i : Int) < (l.length : Int)) := by omega
      have e : l.take i = l := List.take_of_length_le (by omega)
      rw [e]
      clear e
      go_wp2_with (fail)
      go_ret
      exact ⟨rfl, rfl⟩
    | succ k1 =>
      have hin : ((i : Int) < (l.length : Int)) := by omega
      obtain ⟨b, o, rfl, _, hc⟩ := hH.out.at i (by omega)
      obtain ⟨x, hx⟩ : ∃ x, x = l.getD i 0 := ⟨_, rfl⟩
      rw [← hx] at hc
      have htk : ofN (l.take (i + 1)) = ofN (l.take i) ||| bitN x := by
        rw [List.take_add_one, List.getElem?_eq_getElem (by omega), Option.toList_some, ofN_snoc, hx, List.getD_eq_getElem?_getD, List.getElem?_eq_getElem (by omega)]; rfl
      have hb := bit_at x wr
      have ho := or_N (ofN (l.take i)) (bitN x) (ofN_lt _) (bitN_lt _)
      rw [← htk] at ho
      obtain ⟨s0, hs0⟩ : ∃ s0, s0 = ofN (l.take i) := ⟨_, rfl⟩
      obtain ⟨s1, hs1⟩ : ∃ s1, s1 = ofN (l.take (i + 1)) := ⟨_, rfl⟩
      obtain ⟨b1, hb1⟩ : ∃ b1, b1 = bitN x := ⟨_, rfl⟩
      rw [← hs0, ← hs1, ← hb1] at ho
      rw [← hb1] at hb
      rw [← hs0]
      have hs1H := hid hs1
      have hoH := hid ho
      clear hx htk hs0 hs1 hb1 ho
      go_wp2_with (fail)
      refine hb.mono ?_
      rintro e w1 ⟨rfl, rfl⟩
      go_wp2_with (fail)
      go_roundg k1
      case measure => omega
      case rel => exact ⟨i + 1, by omega, by first | rfl | (congr 1; omega), by rw [hoH.out, hs1H.out], rfl⟩
end Go.Proofs.Ytabcodjalacdjad.LocksCode
