
/- The law LocksMore: the plain part, and the walk. -/
import Derived.Test.YtabcodjalacdjadLocksAlive
namespace Go.Proofs.Ytabcodjalacdjad.LocksCode
open Go Go.RowKit Go.Shelf Go.Maps Go.Proofs.Ytabcodjalacdjad.Obj Go.Proofs.Ytabcodjalacdjad.Iter Go.Proofs.YtabcodjalacdjadW.PrintWords Go.Proofs.YtabcodjalacdjadW.PrintLast Go.Proofs.YtabcodjalacdjadW.PrintMore
set_option linter.unusedVariables false
set_option linter.unusedSimpArgs false
set_option maxRecDepth 100000
section
variable {cs : List Cs} {n : Nat}
theorem bitN_nat {k : Nat} (hk : k < 64) : bitN (k : Int) = 2 ^ k := by unfold bitN; rw [if_pos (by omega), Int.toNat_natCast]
theorem ready_bit (s r : Nat) (hn : n ≤ 64) (i : Nat) : (readyL s r (kcs cs n)).testBit i = (decide (i < n) && rdy s r (cs.getD i default)) := by
  induction n with
  | zero => simp [kcs, readyL]
  | succ n ih =>
    have h := ih (by omega)
    rw [kcs_succ, readyL_snoc]
    show (if rdy s r (cs.getD n default) = true then readyL s r (kcs cs n) ||| bitN (n : Int) else readyL s r (kcs cs n)).testBit i = _
    by_cases e : i = n
    · subst e
      rw [decide_eq_false (by omega), Bool.false_and] at h
      rw [decide_eq_true (by omega), Bool.true_and]
      cases hr : rdy s r (cs.getD i default) with
      | true => rw [if_pos rfl, Nat.testBit_or, h, bitN_nat (by omega), Nat.testBit_two_pow]; simp
      | false => rw [if_neg (by decide), h]
    · have e2 : decide (i < n + 1) = decide (i < n) := by rw [Bool.eq_iff_iff, decide_eq_true_iff, decide_eq_true_iff]; omega
      rw [e2, ← h]
      cases hr : rdy s r (cs.getD n default) with
      | true => rw [if_pos rfl, Nat.testBit_or, bitN_nat (by omega), Nat.testBit_two_pow]; simp [Ne.symm e]
      | false => rw [if_neg (by decide)]
theorem cover_bit (ch : Int) (hn : n ≤ 64) (i : Nat) : (ofN (coverL ch (kcs cs n))).testBit i = (decide (i < n) && ((cs.getD i default).ch == ch)) := by
  induction n with
  | zero => simp [kcs, coverL, ofN]
  | succ n ih =>
    have h := ih (by omega)
    rw [kcs_succ]
    by_cases e : i = n
    · subst e
      rw [decide_eq_false (by omega), Bool.false_and] at h
      rw [decide_eq_true (by omega), Bool.true_and]
      cases hr : ((cs.getD i default).ch == ch) with
      | true => rw [coverL_yes (x := kc cs i) _ hr, ofN_snoc, Nat.testBit_or, h, show ((kc cs i).1 : Int) = (i : Int) from rfl, bitN_nat (by omega), Nat.testBit_two_pow]; simp
      | false => rw [coverL_no (x := kc cs i) _ hr, h]
    · have e2 : decide (i < n + 1) = decide (i < n) := by rw [Bool.eq_iff_iff, decide_eq_true_iff, decide_eq_true_iff]; omega
      rw [e2, ← h]
      cases hr : ((cs.getD n default).ch == ch) with
      | true => rw [coverL_yes (x := kc cs n) _ hr, ofN_snoc, Nat.testBit_or, show ((kc cs n).1 : Int) = (n : Int) from rfl, bitN_nat (by omega), Nat.testBit_two_pow]; simp [Ne.symm e]
      | false => rw [coverL_no (x := kc cs n) _ hr]
theorem rdy_mono {s s' r r' : Nat} (hs : ∀ i, s.testBit i = true → s'.testBit i = true) (hr : ∀ i, r.testBit i = true → r'.testBit i = true) (c : Cs) (h : rdy s r c = true) : rdy s' r' c = true := by
  unfold rdy at *
  rw [Bool.and_eq_true] at *
  refine ⟨h.1, ?_⟩
  have h2 := h.2
  rw [hasI_bit, Bool.and_eq_true] at *
  refine ⟨h2.1, ?_⟩
  cases hsd : c.send with
  | true => rw [hsd, if_pos rfl] at h2; rw [if_pos rfl]; exact hs _ h2.2
  | false => rw [hsd, if_neg (by decide : ¬ (false = true))] at h2; rw [if_neg (by decide : ¬ (false = true))]; exact hr _ h2.2
theorem and_of {a b : Nat} (h : ∀ i, a.testBit i = true → b.testBit i = true) : a &&& b = a := by
  apply Nat.eq_of_testBit_eq
  intro i
  rw [Nat.testBit_and]
  cases ha : a.testBit i with
  | false => rfl
  | true => rw [h i ha]; rfl
theorem more_a (s r m : Nat) (hn : n ≤ 64) : readyL s r (kcs cs n) &&& readyL (s ||| m) (r ||| m) (kcs cs n) = readyL s r (kcs cs n) := by
  refine and_of fun i h => ?_
  rw [ready_bit _ _ hn, Bool.and_eq_true] at *
  exact ⟨h.1, rdy_mono (fun j hj => by rw [Nat.testBit_or, hj]; rfl) (fun j hj => by rw [Nat.testBit_or, hj]; rfl) _ h.2⟩
theorem rdy_full (c : Cs) (h1 : -1 ≤ c.ch) (h2 : c.ch < 64) : rdy (2 ^ 64 - 1) (2 ^ 64 - 1) c = (c.ch != -1) := by
  unfold rdy
  cases h : (c.ch != -1) with
  | false => rfl
  | true =>
    rw [bne_iff_ne] at h
    rw [Bool.true_and, show (if c.send = true then 2 ^ 64 - 1 else 2 ^ 64 - 1) = 2 ^ 64 - 1 by split <;> rfl, hasI_bit, Nat.testBit_two_pow_sub_one]
    simp only [Bool.and_eq_true, decide_eq_true_eq]
    omega
theorem more_b (s r : Nat) (hs : s < 2 ^ 64) (hr : r < 2 ^ 64) (hn : n ≤ 64) : readyL s r (kcs cs n) &&& readyL (2 ^ 64 - 1) (2 ^ 64 - 1) (kcs cs n) = readyL s r (kcs cs n) := by
  have hb : ∀ s : Nat, s < 2 ^ 64 → ∀ j, s.testBit j = true → (2 ^ 64 - 1).testBit j = true := fun s hs j hj => by
    rw [Nat.testBit_two_pow_sub_one, decide_eq_true_iff]
    rcases Nat.lt_or_ge j 64 with h | h
    · exact h
    · rw [Nat.testBit_lt_two_pow (Nat.lt_of_lt_of_le hs (Nat.pow_le_pow_right (by decide) h))] at hj; cases hj
  refine and_of fun i h => ?_
  rw [ready_bit _ _ hn, Bool.and_eq_true] at *
  exact ⟨h.1, rdy_mono (hb s hs) (hb r hr) _ h.2⟩
theorem more_0 (hn : n ≤ 64) : readyL 0 0 (kcs cs n) = 0 := by
  apply Nat.eq_of_testBit_eq
  intro i
  rw [ready_bit _ _ hn, Nat.zero_testBit]
  have : rdy 0 0 (cs.getD i default) = false := by
    unfold rdy
    rw [show (if (cs.getD i default).send = true then 0 else 0) = 0 by split <;> rfl, hasI_bit, Nat.zero_testBit]
    simp
  rw [this, Bool.and_false]
theorem more_nil (hm : MayB cs) (hn : n ≤ cs.length) : readyL (2 ^ 64 - 1) (2 ^ 64 - 1) (kcs cs n) &&& ofN (coverL (-1) (kcs cs n)) = 0 := by
  apply Nat.eq_of_testBit_eq
  intro i
  have hl := hm.2
  rw [Nat.testBit_and, ready_bit _ _ (by omega), cover_bit _ (by omega), Nat.zero_testBit]
  by_cases h : i < n
  · obtain ⟨h1, h2⟩ := hm.1 i (by omega)
    rw [rdy_full _ h1 h2, decide_eq_true h, Bool.true_and, Bool.true_and]
    cases e : ((cs.getD i default).ch == -1) with
    | true => rw [beq_iff_eq] at e; rw [e]; rfl
    | false => rw [Bool.and_false]
  · rw [decide_eq_false h]; rfl
theorem more_whole (hm : MayB cs) (hn : n ≤ cs.length) : readyL (2 ^ 64 - 1) (2 ^ 64 - 1) (kcs cs n) ||| ofN (coverL (-1) (kcs cs n)) = 2 ^ n - 1 := by
  apply Nat.eq_of_testBit_eq
  intro i
  have hl := hm.2
  rw [Nat.testBit_or, ready_bit _ _ (by omega), cover_bit _ (by omega), Nat.testBit_two_pow_sub_one]
  by_cases h : i < n
  · obtain ⟨h1, h2⟩ := hm.1 i (by omega)
    rw [rdy_full _ h1 h2, decide_eq_true h, Bool.true_and, Bool.true_and]
    cases e : ((cs.getD i default).ch == -1) with
    | true => rw [Bool.or_true]
    | false => rw [beq_eq_false_iff_ne] at e; rw [Bool.or_false, bne_iff_ne]; exact e
  · rw [decide_eq_false h]; rfl
end
/-- An argument's cases. -/
theorem rows_cs {w : World} {a : Option Addr} {len cap : Nat} (h : Obj.Rows w [.bool, .int .i64, .int .i64, .int .i64] a len cap) : ∃ cs : List Cs, cs.length = len ∧ CSl w.heap.size w a cs := by
  have key : ∀ n, n ≤ len → ∃ cs : List Cs, cs.length = n ∧ CSl w.heap.size w a cs := by
    intro n
    induction n with
    | zero => exact fun _ => ⟨[], rfl, fun i hi => by cases hi⟩
    | succ n ih =>
      intro hn
      obtain ⟨cs, hl, hc⟩ := ih (by omega)
      obtain ⟨b, o, rfl, hb, hx⟩ := h.at (by decide) n (by omega)
      obtain ⟨_, e0, s0, rfl⟩ := hx 0 _ rfl
      obtain ⟨_, e1, c1, rfl, w1⟩ := hx 1 _ rfl
      obtain ⟨_, e2, c2, rfl, w2⟩ := hx 2 _ rfl
      obtain ⟨_, e3, c3, rfl, w3⟩ := hx 3 _ rfl
      refine ⟨cs ++ [⟨s0, c1, c2, c3, w1⟩], by simp [hl], fun i hi => ?_⟩
      by_cases hin : i < cs.length
      · have : (cs ++ [Cs.mk s0 c1 c2 c3 w1]).getD i default = cs.getD i default := by
          rw [List.getD_eq_getElem?_getD, List.getElem?_append_left hin, ← List.getD_eq_getElem?_getD]
        rw [this]
        exact hc i hin
      · have hin2 : i = n := by rw [List.length_append, List.length_singleton] at hi; omega
        subst hin2
        have : (cs ++ [Cs.mk s0 c1 c2 c3 w1]).getD i default = Cs.mk s0 c1 c2 c3 w1 := by
          rw [List.getD_eq_getElem?_getD, List.getElem?_append_right (by omega), hl]; simp
        rw [this]
        exact ⟨b, o, rfl, hb, e0, e1, e2, e3⟩
  exact key len (Nat.le_refl _)
theorem rows_cap {w : World} {ks : List Kd} {a : Option Addr} {len cap : Nat} (h : Obj.Rows w ks a len cap) : len ≤ cap ∧ cap ≤ maxLen := by
  rcases h with ⟨_, rfl, rfl⟩ | ⟨_, _, h1, h2, _⟩
  · exact ⟨Nat.le_refl _, Nat.zero_le _⟩
  · exact ⟨h1, h2⟩
theorem u64_nat {a : Int} (h : (Lit.int .u64 a).wf = true) : ∃ n : Nat, a = (n : Int) ∧ n < 2 ^ 64 := by
  obtain ⟨h0, h1⟩ := u64_of h
  exact ⟨a.toNat, by omega, by omega⟩
set_option maxHeartbeats 8000000 in
theorem more_walk (a : Option Addr) (len cap : Nat) (d : Bool) (zs zr zm : Int) (w : World) (ha : Obj.Rows w [.bool, .int .i64, .int .i64, .int .i64] a len cap) (ws : (Lit.int .u64 zs).wf = true) (wr : (Lit.int .u64 zr).wf = true) (wm : (Lit.int .u64 zm).wf = true) :
    Calls Try.prog 4 #[.agg #[.slice a len cap, .bool d], .int .u64 zs, .int .u64 zr, .int .u64 zm] w fun e w' => e = .returned (.bool true) ∧ Below w.heap.size w w' := by
  obtain ⟨cs, rfl, hC⟩ := rows_cs ha
  obtain ⟨hcap, hmx⟩ := rows_cap ha
  obtain ⟨s, rfl, hs⟩ := u64_nat ws
  obtain ⟨r, rfl, hr⟩ := u64_nat wr
  obtain ⟨m, rfl, hm⟩ := u64_nat wm
  clear ws wr wm ha
  have hsH := hid hs
  have hrH := hid hr
  have hmH := hid hm
  have hmxH := hid hmx
  clear hs hr hm hmx
  have hB0 : Below w.heap.size w (w.alloc (.cells #[.slice a cs.length cap, .bool d] 24)) := (Below.refl _ w).alloc (Nat.le_refl _) _
  have hS0 := Blk.new w 24 [.slice a cs.length cap, .bool d]
  obtain ⟨w0, hw0⟩ : ∃ w0, w0 = w.alloc (.cells #[.slice a cs.length cap, .bool d] 24) := ⟨_, rfl⟩
  have hC0 := hid (fun W (hb : Below w.heap.size w W) => (hC.below hb).up hb.size)
  clear hC
  by_cases hM : MayB cs
  · have hMay := may_at (d := d) (hC0.out _ hB0) hcap hmxH.out true ⟨fun _ => hM, fun _ => rfl⟩
    have hl64 : cs.length ≤ 64 := hM.2
    have hMH := hid hM
    clear hM
    go_enter Try.func4, Try.ntmps4
    go_wp2_with (fail)
    refine hMay.mono ?_
    rintro e w1 ⟨rfl, hb1⟩
    have k1 := hB0.trans (hb1.mono hB0.size)
    have hS1 := hS0.same (hb1.block _ hS0.lt)
    have c1 : w1.cell? ⟨w.heap.size, 0, none⟩ = some (.slice a cs.length cap) := hS1.cell 0
    have d1 : w1.cell? ⟨w.heap.size, 1, none⟩ = some (.bool d) := hS1.cell 1
    have hRa := ready_at (d := d) (cap := cap) s r hsH.out hrH.out (hC0.out w1 k1) (by omega) hcap
    obtain ⟨av, hav⟩ : ∃ av, av = readyL s r (kcs cs cs.length) := ⟨_, rfl⟩
    rw [← hav] at hRa
    have havH := hid hav
    clear hMay hb1 hS0 hB0 hav
    go_wp2_with (fail)
    refine hRa.mono ?_
    rintro e w2 ⟨rfl, hb2⟩
    have k2 := k1.trans (hb2.mono k1.size)
    have hS2 := hS1.same (hb2.block _ hS1.lt)
    have c2 : w2.cell? ⟨w.heap.size, 0, none⟩ = some (.slice a cs.length cap) := hS2.cell 0
    have d2 : w2.cell? ⟨w.heap.size, 1, none⟩ = some (.bool d) := hS2.cell 1
    obtain ⟨sm, hsm⟩ : ∃ sm, sm = s ||| m := ⟨_, rfl⟩
    obtain ⟨rm, hrm⟩ : ∃ rm, rm = r ||| m := ⟨_, rfl⟩
    have hsml : sm < 2 ^ 64 := by rw [hsm]; exact Nat.or_lt_two_pow hsH.out hmH.out
    have hrml : rm < 2 ^ 64 := by rw [hrm]; exact Nat.or_lt_two_pow hrH.out hmH.out
    have o1 := or_N s m hsH.out hmH.out
    have o2 := or_N r m hrH.out hmH.out
    rw [← hsm] at o1
    rw [← hrm] at o2
    have hRb := ready_at (d := d) (cap := cap) sm rm hsml hrml (hC0.out w2 k2) (by omega) hcap
    have hAB : readyL s r (kcs cs cs.length) &&& readyL sm rm (kcs cs cs.length) = readyL s r (kcs cs cs.length) := by rw [hsm, hrm]; exact more_a s r m hl64
    rw [← havH.out] at hAB
    have hBA := more_b sm rm hsml hrml hl64 (cs := cs) (n := cs.length)
    have hbl := readyL_lt sm rm (kcs cs cs.length)
    obtain ⟨bv, hbv⟩ : ∃ bv, bv = readyL sm rm (kcs cs cs.length) := ⟨_, rfl⟩
    rw [← hbv] at hRb hAB hBA hbl
    have hal : av < 2 ^ 64 := by rw [havH.out]; exact readyL_lt _ _ _
    have e1 := and_N av bv hal hbl
    rw [hAB] at e1
    have hBAH := hid hBA
    have hblH := hid hbl
    have e1H := hid e1
    clear hsml hrml hAB hBA hbl hal e1 hbv hRa hb2 hsm hrm hS1 k1 c1 d1
    go_wp2_with (fail)
    refine hRb.mono ?_
    rintro e w3 ⟨rfl, hb3⟩
    have k3 := k2.trans (hb3.mono k2.size)
    have hS3 := hS2.same (hb3.block _ hS2.lt)
    have c3 : w3.cell? ⟨w.heap.size, 0, none⟩ = some (.slice a cs.length cap) := hS3.cell 0
    have d3 : w3.cell? ⟨w.heap.size, 1, none⟩ = some (.bool d) := hS3.cell 1
    have hRc := ready_at (d := d) (cap := cap) (2 ^ 64 - 1) (2 ^ 64 - 1) (by decide) (by decide) (hC0.out w3 k3) (by omega) hcap
    have hNl := more_nil hMH.out (Nat.le_refl _)
    have hWh := more_whole hMH.out (Nat.le_refl _)
    have hlv := readyL_lt (2 ^ 64 - 1) (2 ^ 64 - 1) (kcs cs cs.length)
    obtain ⟨lv, hlve⟩ : ∃ lv, lv = readyL (2 ^ 64 - 1) (2 ^ 64 - 1) (kcs cs cs.length) := ⟨_, rfl⟩
    have hBA := hBAH.out
    rw [← hlve] at hRc hNl hWh hlv hBA
    rw [show ((2 ^ 64 - 1 : Nat) : Int) = 18446744073709551615 from rfl] at hRc
    have e2 := and_N bv lv hblH.out hlv
    rw [hBA] at e2
    have hnv := ofN_lt (coverL (-1) (kcs cs cs.length))
    obtain ⟨nv, hnve⟩ : ∃ nv, nv = ofN (coverL (-1) (kcs cs cs.length)) := ⟨_, rfl⟩
    rw [← hnve] at hNl hWh hnv
    have e3 := and_N lv nv hlv hnv
    have e4 := or_N lv nv hlv hnv
    rw [hNl] at e3
    rw [hWh] at e4
    have hRcH := hid hRc
    have e2H := hid e2
    have e3H := hid e3
    have e4H := hid e4
    have hnveH := hid hnve
    clear hlve hBA hNl hWh hlv hRc e2 hnv hnve e3 e4 hRb hb3 hS2 k2 c2 d2 o1 o2
    go_wp2_with (fail)
    refine hRcH.out.mono ?_
    rintro e w4 ⟨rfl, hb4⟩
    have k4 := k3.trans (hb4.mono k3.size)
    have hS4 := hS3.same (hb4.block _ hS3.lt)
    have c4 : w4.cell? ⟨w.heap.size, 0, none⟩ = some (.slice a cs.length cap) := hS4.cell 0
    have d4 : w4.cell? ⟨w.heap.size, 1, none⟩ = some (.bool d) := hS4.cell 1
    have hRz := ready_at (d := d) (cap := cap) 0 0 (by decide) (by decide) (hC0.out w4 k4) (by omega) hcap
    rw [more_0 hl64] at hRz
    have e1 := e1H.out
    clear hb4 hS3 k3 c3 d3
    go_wp2_with (fail)
    refine hRz.mono ?_
    rintro e w5 ⟨rfl, hb5⟩
    have k5 := k4.trans (hb5.mono k4.size)
    have hS5 := hS4.same (hb5.block _ hS4.lt)
    have c5 : w5.cell? ⟨w.heap.size, 0, none⟩ = some (.slice a cs.length cap) := hS5.cell 0
    have d5 : w5.cell? ⟨w.heap.size, 1, none⟩ = some (.bool d) := hS5.cell 1
    have e2 := e2H.out
    have hNil := lnil_at (d := d) (cap := cap) (hC0.out w5 k5) (by omega) hcap
    rw [← hnveH.out] at hNil
    clear hRz hb5 hS4 k4 c4 d4 e1
    go_wp2_with (fail)
    refine hNil.mono ?_
    rintro e w6 ⟨rfl, hb6⟩
    have k6 := k5.trans (hb6.mono k5.size)
    have hS6 := hS5.same (hb6.block _ hS5.lt)
    have c6 : w6.cell? ⟨w.heap.size, 0, none⟩ = some (.slice a cs.length cap) := hS6.cell 0
    have d6 : w6.cell? ⟨w.heap.size, 1, none⟩ = some (.bool d) := hS6.cell 1
    have e3 := e3H.out
    have hNil6 := lnil_at (d := d) (cap := cap) (hC0.out w6 k6) (by omega) hcap
    rw [← hnveH.out] at hNil6
    have hNil6H := hid hNil6
    have hlw : IntKind.u64.wrap (cs.length : Int) = (cs.length : Int) := u64_id _ (by omega) (by omega)
    clear hNil hNil6 hb6 hS5 k5 c5 d5 e2
    rcases Nat.lt_or_ge cs.length 64 with h64 | h64
    · have hlt : (cs.length : Int) < 64 := by omega
      obtain ⟨T, hT⟩ : ∃ T, T = 2 ^ cs.length - 1 := ⟨_, rfl⟩
      have hp : 2 ^ cs.length < 2 ^ 64 := Nat.pow_lt_pow_right (by decide) h64
      have hp1 : 1 ≤ 2 ^ cs.length := Nat.one_le_two_pow
      have hwT : IntKind.u64.wrap (IntKind.u64.wrap ((2 : Int) ^ cs.length) - 1) = (T : Int) := by
        have e : ((2 : Int) ^ cs.length) = ((2 ^ cs.length : Nat) : Int) := by simp
        rw [e, u64_id ((2 ^ cs.length : Nat) : Int) (by omega) (by omega), show ((2 ^ cs.length : Nat) : Int) - 1 = (T : Int) by omega, u64_id (T : Int) (by omega) (by omega)]
      have e4 := e4H.out
      rw [← hT] at e4
      have e4K := hid e4
      clear hT hp hp1 e4
      go_wp2_with (fail)
      refine hNil6H.out.mono ?_
      rintro e w7 ⟨rfl, hb7⟩
      have k7 := k6.trans (hb7.mono k6.size)
      have e4 := e4K.out
      clear hb7
      go_wp2_with (fail)
      refine (alive_at _).mono ?_
      rintro e w8 ⟨rfl, hb8⟩
      go_wp2_with (fail)
      go_ret
      exact ⟨rfl, k7.trans (hb8.mono k7.size)⟩
    · have hlt : (cs.length : Int) = 64 := by omega
      have e4 := e4H.out
      rw [show cs.length = 64 by omega, show ((2 ^ 64 - 1 : Nat) : Int) = 18446744073709551615 from rfl] at e4
      have e4K := hid e4
      clear e4
      go_wp2_with (fail)
      refine hNil6H.out.mono ?_
      rintro e w7 ⟨rfl, hb7⟩
      have k7 := k6.trans (hb7.mono k6.size)
      have e4 := e4K.out
      clear hb7
      go_wp2_with (fail)
      refine (alive_at _).mono ?_
      rintro e w8 ⟨rfl, hb8⟩
      go_wp2_with (fail)
      go_ret
      exact ⟨rfl, k7.trans (hb8.mono k7.size)⟩
  · have hMay := may_at (d := d) (hC0.out _ hB0) hcap hmxH.out false ⟨fun h => (by cases h), fun h => absurd h hM⟩
    clear hM
    go_enter Try.func4, Try.ntmps4
    go_wp2_with (fail)
    refine hMay.mono ?_
    rintro e w1 ⟨rfl, hb1⟩
    have k1 := hB0.trans (hb1.mono hB0.size)
    clear hMay hb1 hS0 hB0
    go_wp2_with (fail)
    refine (alive_at _).mono ?_
    rintro e w2 ⟨rfl, hb2⟩
    go_wp2_with (fail)
    go_ret
    exact ⟨rfl, k1.trans (hb2.mono k1.size)⟩
end Go.Proofs.Ytabcodjalacdjad.LocksCode
