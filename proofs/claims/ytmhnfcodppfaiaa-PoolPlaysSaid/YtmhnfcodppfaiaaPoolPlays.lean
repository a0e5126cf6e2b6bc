
/- The walk of PoolPlays. -/
import Derived.Test.YtmhnfcodppfaiaaPoolBoth
import Derived.Test.YtmhnfcodppfaiaaSameInts
import Derived.Test.YtmhnfcodppfaiaaPoolAlive
import Derived.Lib.Hide
namespace Go.Proofs.Ytmhnfcodppfaiaa.PoolBoth
open Go Go.RowKit Go.Proofs.Ytmhnfcodppfaiaa.Obj Go.Proofs.Ytmhnfcodppfaiaa.Row Go.Proofs.YtmhnfcodppfaiaaW.PrintWords Go.Proofs.YtmhnfcodppfaiaaW.PrintMore
open Go.Proofs.Ytmhnfcodppfaiaa.PoolCode (Sg Sg.cells Sg.val Sg.zero)
open Go.Proofs.Ytmhnfcodppfaiaa.RefPool (RS RAt SRow isR tk none_ upTo)
set_option maxRecDepth 100000
set_option linter.unusedVariables false
structure Both (W : World) (B p qp q n : Nat) (lr : List RS) (ch : List Nat) : Prop where
  f : PS W p qp lr ch
  r : RAt W B q lr (ints ch)
  len : lr.length = n
section
variable {W W' : World} {B p qp q n : Nat} {lr : List RS} {ch : List Nat}
theorem Both.below (h : Both W B p qp q n lr ch) (hb : Below W.heap.size W W') : Both W' B p qp q n lr ch := ⟨h.f.below hb, h.r.below hb, h.len⟩
theorem Both.chl (h : Both W B p qp q n lr ch) : ch.length ≤ n := by have := h.f.count; have := h.len; omega
theorem Both.head (h : Both W B p qp q n lr ch) : ∀ i r, ch = i :: r → i < lr.length := fun i r e => by subst e; exact h.f.head
theorem below_drew' {B : Nat} {a w : World} (h : Below B a w) : Below B a w.drew := ⟨h.os, h.tape, h.output, h.size, h.block⟩
theorem Both.drew (h : Both W B p qp q n lr ch) : Both W.drew B p qp q n lr ch := h.below (below_drew' (Below.refl _ _))
end
theorem neq_same (x : Sg) (W : World) : (binOp .neq 32 x.val x.val).run Try.prog W = Result.ok (.bool false) W := by
  obtain ⟨t, c, s, v, u⟩ := x
  simp [go_sem, Sg.val]
set_option maxHeartbeats 20000000 in
theorem plays_walk (n0 : Int) (ad : Option Addr) (len cap : Nat) (k0 : Int) (w : World) (hn0 : (Lit.int .i64 n0).wf = true) (ha : Obj.Rows w [.int .i64, .int .i64, .int .i64, .int .i64, .bool, .int .i64, .int .u64] ad len cap) (hk0 : (Lit.int .i64 k0).wf = true) :
    Calls Try.prog 5 #[.int .i64 n0, .slice ad len cap, .int .i64 k0] w fun e w' => e = .returned (.bool true) ∧ Below w.heap.size w w' := by
  by_cases h300 : 300 < len
  · go_enter Try.func5, Try.ntmps5
    go_wp2_with (fail)
    refine (PoolCode.alive_at _).mono ?_
    rintro e w2 ⟨rfl, hb2⟩
    go_wp2_with (fail)
    go_ret
    exact ⟨rfl, hb2⟩
  have hlen : len ≤ 300 := by omega
  by_cases h60 : 60 < n0 ∧ n0 ≤ 1024
  · obtain ⟨h60, h1024⟩ := h60
    go_enter Try.func5, Try.ntmps5
    go_wp2_with (fail)
    refine (PoolCode.alive_at _).mono ?_
    rintro e w2 ⟨rfl, hb2⟩
    go_wp2_with (fail)
    go_ret
    exact ⟨rfl, hb2⟩
  by_cases hout : n0 < 1 ∨ n0 > 1024
  · have hO := PoolCode.new_out n0
    have key : ∀ (P : Prop), (n0 < 1 → ¬ (60 < n0) → P) → (60 < n0 → ¬ (n0 ≤ 1024) → 1024 < n0 → ¬ (n0 < 1) → P) → P := fun P h1 h2 => by
      rcases hout with h | h
      · exact h1 h (by omega)
      · exact h2 (by omega) (by omega) h (by omega)
    have hO' : ∀ w, Calls Try.prog 7 #[.int .i64 n0] w fun e w' => e = .returned (.tuple #[.pointer none, .int .i64 2]) ∧ w' = w := fun w => PoolCode.new_out n0 w (by omega)
    clear hO hout h60
    refine key _ (fun h1 h2 => ?_) (fun h1 h2 h3 h4 => ?_)
    all_goals (
      go_enter Try.func5, Try.ntmps5
      go_wp2_with (fail)
      refine (PoolCode.nothing_at _).mono ?_
      rintro e w2 ⟨rfl, hb2⟩
      go_wp2_with (fail)
      refine (hO' _).mono ?_
      rintro e w3 ⟨rfl, hw⟩
      obtain rfl : w2 = w3 := hw.symm
      go_wp2_with (fail)
      refine (PoolCode.alive_at _).mono ?_
      rintro e w4 ⟨rfl, hb4⟩
      have hb5 := hb2.trans (hb4.mono hb2.size)
      go_wp2_with (fail)
      go_ret
      exact ⟨rfl, hb5⟩)
  obtain ⟨n, rfl⟩ : ∃ n : Nat, n0 = (n : Int) := ⟨n0.toNat, by omega⟩
  have hn1 : 1 ≤ n := by omega
  have hn60 : n ≤ 60 := by omega
  clear h60 hout
  go_enter Try.func5, Try.ntmps5
  have hz1 : ¬ ((60 : Int) < (n : Int)) := by omega
  have hz2 : ¬ ((n : Int) < (1 : Int)) := by omega
  have hz3 : ¬ ((1024 : Int) < (n : Int)) := by omega
  go_wp2_with (fail)
  refine (PoolCode.nothing_at _).mono ?_
  rintro e w1 ⟨rfl, hb1⟩
  go_wp2_with (fail)
  refine (newP n hn1 (by omega) w1).mono ?_
  rintro e w2 ⟨rfl, hb2, qp, hqp, hP⟩
  have hs1 := hb1.size
  go_wp2_with (fail)
  refine (RefPool.new_at n hn1 (by omega) w2).mono ?_
  rintro e w3 ⟨rfl, hb3, hR⟩
  have hs2 := hb2.size
  have hB0 : Both w3 w2.heap.size w1.heap.size qp (w2.heap.size + 1) n (none_ n) (List.range n) := ⟨hP.below hb3, by simpa [upTo, ints] using hR, by simp [none_]⟩
  have hbb := hb1.trans ((hb2.mono hs1).trans (hb3.mono (Nat.le_trans hs1 hs2)))
  have hp1 : w.heap.size ≤ w1.heap.size := hs1
  obtain ⟨p1, hp1e⟩ : ∃ p1, p1 = w1.heap.size := ⟨_, rfl⟩
  obtain ⟨B, hBe⟩ : ∃ B, B = w2.heap.size := ⟨_, rfl⟩
  obtain ⟨q, hqe⟩ : ∃ q, q = B + 1 := ⟨_, rfl⟩
  have hqB : w.heap.size ≤ B ∧ w.heap.size ≤ q ∧ w.heap.size ≤ p1 ∧ w.heap.size ≤ qp := by omega
  rw [← hBe, ← hp1e, ← hqe] at hB0
  rw [← hBe, ← hqe, ← hp1e]
  clear hP hR hb1 hb2 hb3 hs1 hs2 hqp hp1 hp1e hBe hqe
  go_wp2_with (fail)
  obtain ⟨hqB0, hqq, hqp1, hqqp⟩ := hqB
  go_loopg [7, 10] len (fun kq v7 v10 w' => ∃ (i p qp : Nat) (lr : List RS) (ch : List Nat), kq + i = len ∧ v10 = .int .i64 (i : Int) ∧ v7 = .pointer (some ⟨p, 0, none⟩) ∧ (w.heap.size ≤ p ∧ w.heap.size ≤ qp) ∧ Below w.heap.size w w' ∧ Both w' B p qp q n lr ch)
  case atStart => exact ⟨0, p1, qp, none_ n, List.range n, rfl, rfl, rfl, ⟨hqp1, hqqp⟩, hbb, hB0⟩
  case round =>
    clear hB0 hbb hqp1 hqqp
    obtain ⟨i, p, qp, lr, ch, hi, rfl, rfl, hpb, hbs, hB⟩ := hrel
    cases gk with
    | zero =>
      have hin : ¬ ((i : Int) < (len : Int)) := by omega
      clear hB
      go_wp2_with (fail)
      refine (PoolCode.alive_at _).mono ?_
      rintro e w2 ⟨rfl, hb2⟩
      have hb3 := hbs.trans (hb2.mono hbs.size)
      go_wp2_with (fail)
      go_ret
      exact ⟨rfl, hb3⟩
    | succ k1 =>
      have hin : ((i : Int) < (len : Int)) := by omega
      obtain ⟨xb, xo, rfl, hxb, hx⟩ := ha.at (by decide) i (by omega)
      obtain ⟨t0, h0, d0, rfl, wd0⟩ := hx 0 _ rfl
      obtain ⟨t1, h1, d1, rfl, wd1⟩ := hx 1 _ rfl
      obtain ⟨t2, h2, d2, rfl, wd2⟩ := hx 2 _ rfl
      obtain ⟨t3, h3, d3, rfl, wd3⟩ := hx 3 _ rfl
      obtain ⟨t4, h4, d4, rfl⟩ := hx 4 _ rfl
      obtain ⟨t5, h5, d5, rfl, wd5⟩ := hx 5 _ rfl
      obtain ⟨t6, h6, d6, rfl, wd6⟩ := hx 6 _ rfl
      simp only [List.length_cons, List.length_nil, Nat.reduceAdd, Nat.add_zero] at h0 h1 h2 h3 h4 h5 h6
      rw [← hbs.cell (p := ⟨_, _, none⟩) hxb] at h0 h1 h2 h3 h4 h5 h6
      clear hx
      have hltp := hB.f.lt
      have hqlt := hB.r.lt
      go_upto_block 2 with (fail)
      have hB1 := hB.below ((Below.refl _ wr).alloc (Nat.le_refl _) (.cells #[.int .i64 d0, .int .i64 d1, .int .i64 d2, .int .i64 d3, .bool d4, .int .i64 d5, .int .u64 d6] 34))
      have hbs1 := hbs.alloc hbs.size (.cells #[.int .i64 d0, .int .i64 d1, .int .i64 d2, .int .i64 d3, .bool d4, .int .i64 d5, .int .u64 d6] 34)
      have hsk : Blk (wr.alloc (.cells #[.int .i64 d0, .int .i64 d1, .int .i64 d2, .int .i64 d3, .bool d4, .int .i64 d5, .int .u64 d6] 34)) wr.heap.size 34 [.int .i64 d0, .int .i64 d1, .int .i64 d2, .int .i64 d3, .bool d4, .int .i64 d5, .int .u64 d6] := Blk.new wr 34 _
      have hsl := hsk.lt
      have hsb : wr.heap.size ≠ p ∧ wr.heap.size ≠ qp ∧ wr.heap.size ≠ q := by omega
      have hwsb : w.heap.size ≤ wr.heap.size := hbs.size
      clear hB hbs h0 h1 h2 h3 h4 h5 h6 hltp hqlt
      generalize wr.alloc (.cells #[.int .i64 d0, .int .i64 d1, .int .i64 d2, .int .i64 d3, .bool d4, .int .i64 d5, .int .u64 d6] 34) = W1 at *
      generalize wr.heap.size = sb at *
      have e0 : W1.cell? ⟨sb, 0, none⟩ = some (.int .i64 d0) := hsk.cell 0
      have hbase : W1.cell? ⟨sb, 1, none⟩ = some (.int .i64 d1) := hsk.cell 1
      have e2 : W1.cell? ⟨sb, 2, none⟩ = some (.int .i64 d2) := hsk.cell 2
      have e3 : W1.cell? ⟨sb, 3, none⟩ = some (.int .i64 d3) := hsk.cell 3
      have e4 : W1.cell? ⟨sb, 4, none⟩ = some (.bool d4) := hsk.cell 4
      have e5 : W1.cell? ⟨sb, 5, none⟩ = some (.int .i64 d5) := hsk.cell 5
      have e6 : W1.cell? ⟨sb, 6, none⟩ = some (.int .u64 d6) := hsk.cell 6
      have hl1024 : lr.length ≤ 1024 := by rw [hB1.len]; omega
      have hc1024 : ch.length ≤ 1024 := by have := hB1.chl; omega
      go_cut [7, 12] (fun v7 v12 wx => ∃ (p qp : Nat) (lr : List RS) (ch : List Nat), v12 = .bool true ∧ v7 = .pointer (some ⟨p, 0, none⟩) ∧ (w.heap.size ≤ p ∧ w.heap.size ≤ qp) ∧ Below w.heap.size w wx ∧ Both wx B p qp q n lr ch)
      case first =>
        by_cases hd0 : d0 = 0
        · as_aux_lemma =>
          subst hd0
          go_wp2_with (fail)
          refine (takeP hB1.f hl1024 ⟨d2, d3, d4, d5, d6⟩).mono ?_
          rintro e w2 ⟨rfl, hP2, o2⟩
          have hR2 := ref_kept hB1.f hB1.r o2
          have hb2 := o2.below hbs1 hbs1.size (fun k _ h => by omega)
          have hsk2 := hsk.only o2 (by omega)
          have f2 : w2.cell? ⟨sb, 2, none⟩ = some (.int .i64 d2) := hsk2.cell 2
          have f3 : w2.cell? ⟨sb, 3, none⟩ = some (.int .i64 d3) := hsk2.cell 3
          have f4 : w2.cell? ⟨sb, 4, none⟩ = some (.bool d4) := hsk2.cell 4
          have f5 : w2.cell? ⟨sb, 5, none⟩ = some (.int .i64 d5) := hsk2.cell 5
          have f6 : w2.cell? ⟨sb, 6, none⟩ = some (.int .u64 d6) := hsk2.cell 6
          go_wp2_with (fail)
          refine (takeR hR2 hl1024 hc1024 hB1.head ⟨d2, d3, d4, d5, d6⟩).mono ?_
          rintro e w3 ⟨rfl, hR3, o3⟩
          have hP3 := pool_kept hP2 hR2 o3
          have hb3 := o3.below hb2 hb2.size (fun k _ h => by omega)
          have hln := hB1.len
          clear hB1 hP2 hR2 hb2 hsk2 f2 f3 f4 f5 f6 hsk e0 hbase e2 e3 e4 e5 e6 o2 o3
          go_wp2_with (fail)
          go_meet
          exact ⟨p, qp, takeL lr ch ⟨d2, d3, d4, d5, d6⟩, ch.tail, rfl, rfl, hpb, hb3, ⟨hP3, hR3, by rw [takeL_len]; exact hln⟩⟩
        · by_cases hd1 : d0 = 1
          · as_aux_lemma =>
            subst hd1
            go_wp2_with (fail)
            have hSd := hB1.drew
            go_region_held3 (fun w' : World => w'.cell? ⟨sb, 1, none⟩ = some (.int .i64 d1)) (first | assumption | go_keep) (first | (go_at_call 10; refine (giveP hSd.f hl1024 d1).mono ?_; rintro e w2 ⟨rfl, hP2, o2⟩; have hR2 := ref_kept hSd.f hSd.r o2; have s2 : w2.cell? ⟨sb, 1, none⟩ = some (.int .i64 d1) := (by rw [← hbase]; exact cell_same (o2.block sb hsl (by omega)))) | (go_at_call 17; refine (giveR hR2 hl1024 hc1024 d1).mono ?_; rintro e w3 ⟨rfl, hR3, o3⟩; have hP3 := pool_kept hP2 hR2 o3; have s3 : w3.cell? ⟨sb, 1, none⟩ = some (.int .i64 d1) := (by rw [← s2]; exact cell_same (o3.block sb (Nat.lt_of_lt_of_le hsl o2.size) (by omega)))))
            have hb2 := o2.below (below_drew' hbs1) hbs1.size (fun k _ h => by omega)
            have hb3 := o3.below hb2 hb2.size (fun k _ h => by omega)
            have hln := hB1.len
            go_wp2_with (fail)
            go_meet
            exact ⟨p, qp, giveL lr d1, giveC lr ch d1, rfl, rfl, hpb, hb3, ⟨hP3, hR3, by rw [giveL_len]; exact hln⟩⟩
          · by_cases hd2 : d0 = 2
            · as_aux_lemma =>
              subst hd2
              go_wp2_with (fail)
              refine (copyP hB1.f hl1024 (by rw [hB1.len]; exact hn1)).mono ?_
              rintro e w2 ⟨p2, q2, rfl, hP2, hbc, hp2, hq2⟩
              have hO2 := hB1.f.below hbc
              have hR2 := hB1.r.below hbc
              have hb2 := hbs1.trans (hbc.mono hbs1.size)
              have hlt := hB1.f.lt
              have hbsz := hbs1.size
              have hsk2 : Blk w2 sb 34 _ := hsk.same (hbc.block sb hsl)
              have hpb2 : w.heap.size ≤ p2 ∧ w.heap.size ≤ q2 := by omega
              have hln := hB1.len
              go_wp2_with (fail)
              refine (takeP hO2 hl1024 ⟨99, 0, false, 0, 0⟩).mono ?_
              rintro e w3 ⟨rfl, hO3, o3⟩
              have hN3 := hP2.only o3 (by omega) (by omega)
              have hR3 := ref_kept hO2 hR2 o3
              have hb3 := o3.below hb2 hb2.size (fun k _ h => by omega)
              have hsk3 := hsk2.only o3 (by omega)
              have g1 : w3.cell? ⟨sb, 1, none⟩ = some (.int .i64 d1) := hsk3.cell 1
              clear hsk2
              go_wp2_with (fail)
              refine (giveP hO3 (by rw [takeL_len]; exact hl1024) d1).mono ?_
              rintro e w4 ⟨rfl, hO4, o4⟩
              have hN4 := hN3.only o4 (by omega) (by omega)
              have hR4 := ref_kept hO3 hR3 o4
              have hb4 := o4.below hb3 hb3.size (fun k _ h => by omega)
              clear hO2 hR2 hP2 hO3 hN3 hR3 hO4 hb2 hb3 o3 o4 hB1 hsk3 g1 hsk hbc
              go_wp2_with (fail)
              go_meet
              exact ⟨p2, q2, lr, ch, rfl, rfl, hpb2, hb4, ⟨hN4, hR4, hln⟩⟩
            · go_wp2_with (fail)
              go_meet
              exact ⟨p, qp, lr, ch, rfl, rfl, hpb, hbs1, hB1⟩
      case rest =>
        clear hB1 hbs1 hpb hsb e0 hbase e2 e3 e4 e5 e6 hsl hwsb hsk hl1024 hc1024
        obtain ⟨p, qp, lr, ch, rfl, rfl, hpb, hb, hB⟩ := hcut
        have hl1024 : lr.length ≤ 1024 := by rw [hB.len]; omega
        have H1 := ofP hB.f k0
        have H2 : ∀ W, RAt W B q lr (ints ch) → Calls Try.prog 19 #[.pointer (some ⟨q, 0, none⟩), .int .i64 k0] W fun e w' => e = .returned (.tuple #[(ofV lr k0).x.val, .bool (ofV lr k0).is]) ∧ Below W.heap.size W w' := fun W h => ofR h k0
        generalize ofV lr k0 = y at *
        obtain ⟨yb, yt, yc, ys, yv, yu⟩ := y
        simp only [Sg.val] at H1 H2
        have hchl := hB.chl
        have hcnt := hB.f.count
        have hln := hB.len
        have htl : (tk lr lr.length).length ≤ 60 := by omega
        go_wp2_with (fail)
        refine H1.mono ?_
        rintro e w2 ⟨rfl, hP2, o2⟩
        have hR2 := ref_kept hB.f hB.r o2
        have hb2 := o2.below hb hb.size (fun k _ h => by omega)
        clear H1 hB hb o2
        have hR3 := hR2.below ((Below.refl _ w2).alloc (Nat.le_refl _) (.cells #[.int .i64 yt, .int .i64 yc, .bool ys, .int .i64 yv, .int .u64 yu] 32))
        have hP3 := hP2.below ((Below.refl _ w2).alloc (Nat.le_refl _) (.cells #[.int .i64 yt, .int .i64 yc, .bool ys, .int .i64 yv, .int .u64 yu] 32))
        have hb3 := hb2.alloc hb2.size (.cells #[.int .i64 yt, .int .i64 yc, .bool ys, .int .i64 yv, .int .u64 yu] 32)
        have x3 : Blk (w2.alloc (.cells #[.int .i64 yt, .int .i64 yc, .bool ys, .int .i64 yv, .int .u64 yu] 32)) w2.heap.size 32 [.int .i64 yt, .int .i64 yc, .bool ys, .int .i64 yv, .int .u64 yu] := Blk.new w2 32 _
        clear hR2 hP2 hb2
        obtain ⟨w3, hw3⟩ : ∃ w3, w2.alloc (.cells #[.int .i64 yt, .int .i64 yc, .bool ys, .int .i64 yv, .int .u64 yu] 32) = w3 := ⟨_, rfl⟩
        rw [hw3] at hR3 hP3 hb3 x3
        go_wp2_with (fail)
        obtain ⟨xa, hxa⟩ : ∃ xa, xa = w2.heap.size := ⟨_, rfl⟩
        rw [← hxa] at x3 ⊢
        clear hw3 hxa
        refine (H2 _ hR3).mono ?_
        rintro e w4 ⟨rfl, hb4⟩
        have hb5 := (hb3.trans (hb4.mono hb3.size)).alloc (Nat.le_trans hb3.size hb4.size) (.cells #[.int .i64 yt, .int .i64 yc, .bool ys, .int .i64 yv, .int .u64 yu] 32)
        have hbx := hb4.alloc hb4.size (.cells #[.int .i64 yt, .int .i64 yc, .bool ys, .int .i64 yv, .int .u64 yu] 32)
        have x5 := x3.same (hbx.block xa x3.lt)
        have hR5 := hR3.below hbx
        have hP5 := hP3.below hbx
        have y5 : Blk (w4.alloc (.cells #[.int .i64 yt, .int .i64 yc, .bool ys, .int .i64 yv, .int .u64 yu] 32)) w4.heap.size 32 [.int .i64 yt, .int .i64 yc, .bool ys, .int .i64 yv, .int .u64 yu] := Blk.new w4 32 _
        clear hR3 hP3 hb3 x3 hb4 hbx H2
        obtain ⟨w5, hw5⟩ : ∃ w5, w4.alloc (.cells #[.int .i64 yt, .int .i64 yc, .bool ys, .int .i64 yv, .int .u64 yu] 32) = w5 := ⟨_, rfl⟩
        rw [hw5] at x5 hR5 hP5 y5 hb5
        go_wp2_with (fail)
        obtain ⟨ya, hya⟩ : ∃ ya, ya = w4.heap.size := ⟨_, rfl⟩
        rw [← hya] at y5 ⊢
        clear hw5 hya
        refine (RefPool.list_at hR5 hl1024).mono ?_
        rintro e w6 ⟨v6, rfl, ho6, hb6⟩
        obtain ⟨A6, c6, rfl⟩ := own_form ho6
        have hN6 : Nums w6 .i64 A6 (tk lr lr.length) := own_nums ho6
        have x6 := x5.same (hb6.block xa x5.lt)
        have y6 := y5.same (hb6.block ya y5.lt)
        have hP6 := hP5.below hb6
        have hb7 := hb5.trans (hb6.mono hb5.size)
        have hR6 := hR5.below hb6
        clear hR5 hP5 x5 y5 hb6 ho6 hb5
        have L6 := lenP hP6
        have F6 := freeP hP6 hl1024
        have hsub : ((n : Int) - ((tk lr lr.length).length : Int)) = (ch.length : Int) := by omega
        obtain ⟨P, hPe⟩ : ∃ P, P = tk lr lr.length := ⟨_, rfl⟩
        have hLi := fun W (h : PS W p qp lr ch) => listP h hl1024
        rw [← hPe] at hN6 L6 hsub htl hcnt hLi ⊢
        have xc0 : w6.cell? ⟨xa, 0, none⟩ = some (.int .i64 yt) := x6.cell 0
        have xc1 : w6.cell? ⟨xa, 1, none⟩ = some (.int .i64 yc) := x6.cell 1
        have xc2 : w6.cell? ⟨xa, 2, none⟩ = some (.bool ys) := x6.cell 2
        have xc3 : w6.cell? ⟨xa, 3, none⟩ = some (.int .i64 yv) := x6.cell 3
        have xc4 : w6.cell? ⟨xa, 4, none⟩ = some (.int .u64 yu) := x6.cell 4
        have yc0 : w6.cell? ⟨ya, 0, none⟩ = some (.int .i64 yt) := y6.cell 0
        have yc1 : w6.cell? ⟨ya, 1, none⟩ = some (.int .i64 yc) := y6.cell 1
        have yc2 : w6.cell? ⟨ya, 2, none⟩ = some (.bool ys) := y6.cell 2
        have yc3 : w6.cell? ⟨ya, 3, none⟩ = some (.int .i64 yv) := y6.cell 3
        have yc4 : w6.cell? ⟨ya, 4, none⟩ = some (.int .u64 yu) := y6.cell 4
        have hneq := neq_same ⟨yt, yc, ys, yv, yu⟩ w6
        simp only [Sg.val] at hneq
        clear hPe x6 y6
        go_wp2_with (fail)
        refine L6.mono ?_
        rintro e w7 ⟨rfl, hw⟩
        obtain rfl : w6 = w7 := hw.symm
        go_wp2_with (fail)
        refine F6.mono ?_
        rintro e w7 ⟨rfl, kk, rfl⟩
        go_wp2_with (fail)
        have hbd : Below (w6.drewN kk).heap.size w6 (w6.drewN kk) := ⟨rfl, rfl, rfl, Nat.le_refl _, fun _ _ => rfl⟩
        refine (hLi _ (hP6.below hbd)).mono ?_
        rintro e w8 ⟨v8, rfl, ho8, hb8⟩
        obtain ⟨A8, c8, rfl⟩ := own_form ho8
        have hN8 : Nums w8 .i64 A8 P := own_nums ho8
        have hbe : Below w6.heap.size w6 w8 := hbd.trans hb8
        have hN68 := hN6.below hbe
        have hP8 := hP6.below hbe
        have hR8 := hR6.below hbe
        have hb9 := hb7.trans (hbe.mono hb7.size)
        have hs8 := SameInts.same_eq A8 A6 c8 c6 P w8 hN8 hN68 (by omega)
        clear hN6 hP6 L6 F6 hLi hbd hb8 hbe ho8 hN8 hb7 xc0 xc1 xc2 xc3 xc4 yc0 yc1 yc2 yc3 yc4 hneq
        go_wp2_with (fail)
        refine hs8.mono ?_
        rintro e w10 ⟨rfl, k10, rfl⟩
        go_wp2_with (fail)
        go_roundg k1
        case measure => omega
        case rel =>
          have hbl : Below w8.heap.size w8 (w8.drewN k10) := ⟨rfl, rfl, rfl, Nat.le_refl _, fun _ _ => rfl⟩
          exact ⟨i + 1, p, qp, lr, ch, by omega, by first | rfl | (congr 1; omega), rfl, hpb, ⟨hb9.os, hb9.tape, hb9.output, hb9.size, hb9.block⟩, ⟨hP8.below hbl, hR8.below hbl, hln⟩⟩
end Go.Proofs.Ytmhnfcodppfaiaa.PoolBoth
