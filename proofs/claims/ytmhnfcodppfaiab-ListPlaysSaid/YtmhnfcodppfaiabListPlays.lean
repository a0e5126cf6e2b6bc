
/- The walk of ListPlays. -/
import Derived.Test.YtmhnfcodppfaiabListCopy
import Derived.Test.YtmhnfcodppfaiabRefList
namespace Go.Proofs.Ytmhnfcodppfaiab.ListPlays
open Go Go.RowKit Go.Proofs.Ytmhnfcodppfaiab.Obj Go.Proofs.Ytmhnfcodppfaiab.ListPure Go.Proofs.Ytmhnfcodppfaiab.ListCode Go.Proofs.Ytmhnfcodppfaiab.Row Go.Proofs.YtmhnfcodppfaiabW.PrintWords Go.Proofs.YtmhnfcodppfaiabW.PrintMore
set_option linter.unusedVariables false
set_option maxRecDepth 100000
section
variable {W W' w w' : World} {p b q : Nat} {L M : List Int}
theorem apart (h : LsAt W p b L) (k : RefList.RefAt W q M) : p ≠ q ∧ b ≠ q ∧ ∀ v, W.ownsRow (q + 1) 3 1 v M.length (nums .i64 M) → v.ownBlock ≠ some p ∧ v.ownBlock ≠ some b := by
  have h1 : W.heap[p]? = some (.cells _ 48 (0, 0)) := h.blk
  obtain ⟨D, ⟨es, clock, h2, _⟩, _⟩ := h.map
  obtain ⟨v, h3, _⟩ := k
  have h3' : W.heap[q]? = some (.cells _ 43 (0, 0)) := h3
  refine ⟨fun e => ?_, fun e => ?_, fun v hr => ⟨fun e => ?_, fun e => ?_⟩⟩
  · rw [e, h3'] at h1; simp at h1
  · rw [e, h3'] at h2; simp at h2
  · rcases hr.2 with ⟨rfl, _⟩ | ⟨g, cap, cur, rfl, _, hh, _⟩
    · cases e
    · have e' : g = p := by simpa [Value.ownBlock] using e
      subst e'; rw [h1] at hh; simp at hh
  · rcases hr.2 with ⟨rfl, _⟩ | ⟨g, cap, cur, rfl, _, hh, _⟩
    · cases e
    · have e' : g = b := by simpa [Value.ownBlock] using e
      subst e'; rw [h2] at hh; simp at hh
theorem ref_kept (h : LsAt W p b L) (k : RefList.RefAt W q M) (o : Only (fun j => j = p ∨ j = b) W W') : RefList.RefAt W' q M := by
  have ha := apart h k
  obtain ⟨v, h1, h2⟩ := k
  exact ⟨v, h1.only o (by have := ha.1; have := ha.2.1; omega), own_only h2 o (fun j hj e => by
    have := ha.2.2 v h2
    rcases e with rfl | rfl
    · exact this.1 hj
    · exact this.2 hj)⟩
theorem list_kept (h : LsAt W p b L) (k : RefList.RefAt W q M) (o : Only (· = q) W W') : LsAt W' p b L := h.only o (apart h k).1 (apart h k).2.1
theorem only_below {S : Nat → Prop} {w w' : World} (h : Below w.heap.size w w') : Only S w w' := (Only.none_of_below h).mono (fun _ _ h => h.elim)
theorem putR (h : RefList.RefAt W q L) (hL : L.length ≤ 1000) (k : Int) : Calls Try.prog 17 #[.pointer (some ⟨q, 0, none⟩), .int .i64 k] W fun e w' => e = .returned (.int .i64 (putC L k)) ∧ RefList.RefAt w' q (putL L k) ∧ Only (· = q) W w' := by
  unfold putL putC
  by_cases h1 : k < 0 ∨ k ≥ 1024
  · rw [if_pos h1, if_neg (by decide)]
    refine (RefList.push_arg q k W h1).mono ?_
    rintro e w' ⟨rfl, rfl⟩
    exact ⟨rfl, h, Only.refl _ _⟩
  · by_cases h2 : k ∈ L
    · rw [if_neg h1, if_pos h2, if_neg (by decide)]
      refine (RefList.push_have h (by omega) (by omega) h2 hL).mono ?_
      rintro e w' ⟨rfl, rfl⟩
      exact ⟨rfl, h, Only.refl _ _⟩
    · rw [if_neg h1, if_neg h2, if_pos rfl]
      exact RefList.push_at h (by omega) (by omega) h2 hL
theorem dropR (h : RefList.RefAt W q L) (hL : L.length ≤ 1000) (k : Int) : Calls Try.prog 19 #[.pointer (some ⟨q, 0, none⟩), .int .i64 k] W fun e w' => e = .returned (.int .i64 (dropC L k)) ∧ RefList.RefAt w' q (L.erase k) ∧ Only (· = q) W w' := by
  unfold dropC
  by_cases h2 : k ∈ L
  · rw [if_pos h2]; exact RefList.drop_at h h2 hL
  · rw [if_neg h2, List.erase_of_not_mem h2]
    refine (RefList.drop_none h h2 hL).mono ?_
    rintro e w' ⟨rfl, rfl⟩
    exact ⟨rfl, h, Only.refl _ _⟩
theorem popR (h : RefList.RefAt W q L) (hL : L.length ≤ 1000) : Calls Try.prog 18 #[.pointer (some ⟨q, 0, none⟩)] W fun e w' => e = .returned (.tuple #[.int .i64 (popV L), .int .i64 (popC L)]) ∧ RefList.RefAt w' q L.tail ∧ Only (· = q) W w' := by
  cases L with
  | nil =>
    refine (RefList.pop_none h).mono ?_
    rintro e w' ⟨rfl, rfl⟩
    exact ⟨rfl, h, Only.refl _ _⟩
  | cons x r => exact RefList.pop_at h hL
theorem next_same (hn : L.Nodup) (hr : ∀ x ∈ L, 0 ≤ x ∧ x < 1024) (i : Int) : RefList.nextR L i = nextV L i := by
  unfold RefList.nextR
  by_cases hi : i ∈ L
  · have ha := List.idxOf_lt_length_iff.2 hi
    have hx : L[L.idxOf i]? = some i := by rw [List.getElem?_eq_getElem ha]; simp
    rw [nextV_at hn hr hx]
    by_cases hl : L.idxOf i + 1 < L.length
    · simp [hi, hl]
    · simp [hi, hl]
  · rw [if_neg (fun h => hi h.1)]
    unfold nextV
    rw [lnk_none hi]
structure Both (w : World) (p b q : Nat) (L : List Int) : Prop where
  f : LsAt w p b L
  r : RefList.RefAt w q L
theorem Both.below (h : Both w p b q L) (hb : Below w.heap.size w w') : Both w' p b q L := ⟨h.f.below hb, h.r.below hb⟩
theorem below_drew' {B : Nat} {a w : World} (h : Below B a w) : Below B a w.drew := ⟨h.os, h.tape, h.output, h.size, h.block⟩
theorem putL_len (L : List Int) (k : Int) : (putL L k).length ≤ L.length + 1 := by unfold putL; split <;> simp
end
set_option maxHeartbeats 20000000 in
theorem plays_walk (ad : Option Addr) (len cap : Nat) (x : Int) (w : World) (ha : Obj.Rows w [.int .i64, .int .i64] ad len cap) (hx0 : (Lit.int .i64 x).wf = true) :
    Calls Try.prog 5 #[.slice ad len cap, .int .i64 x] w fun e w' => e = .returned (.bool true) ∧ Below w.heap.size w w' := by
  by_cases h300 : 300 < len
  · go_enter Try.func5, Try.ntmps5
    go_wp2_with (fail)
    refine (alive_at _).mono ?_
    rintro e w2 ⟨rfl, hb2⟩
    go_wp2_with (fail)
    go_ret
    exact ⟨rfl, hb2⟩
  · have hlen : len ≤ 300 := by omega
    go_enter Try.func5, Try.ntmps5
    go_wp2_with (fail)
    refine (lnew_at w).mono ?_
    rintro e w1 ⟨rfl, h0, hb0⟩
    go_wp2_with (fail)
    refine (nothing_at _).mono ?_
    rintro e w2 ⟨rfl, hb2⟩
    have h2 := h0.below hb2
    have hb3 := hb0.trans (hb2.mono hb0.size)
    have hR3 : RefList.RefAt (w2.alloc (.cells #[.slice none 0 0] 43)) w2.heap.size [] := ⟨.slice none 0 0, Blk.new w2 _ [.slice none 0 0], own_nil _ _ _ _⟩
    have hL3 := h2.below (((Below.refl _ w2).alloc (Nat.le_refl _) (.cells #[.slice none 0 0] 43)))
    have hb4 := hb3.alloc hb3.size (.cells #[.slice none 0 0] 43)
    have hqb : w.heap.size ≤ w2.heap.size := hb3.size
    clear h0 hb0 h2 hb2 hb3
    go_wp2_with (fail)
    obtain ⟨q, hq⟩ : ∃ q, q = w2.heap.size := ⟨_, rfl⟩
    rw [← hq] at hR3 hqb ⊢
    clear hq
    go_loopg [5, 7] len (fun kq v5 v7 w' => ∃ (i p b : Nat) (L : List Int), kq + i = len ∧ v7 = .int .i64 (i : Int) ∧ v5 = .pointer (some ⟨p, 0, none⟩) ∧ (w.heap.size ≤ p ∧ w.heap.size ≤ b) ∧ Below w.heap.size w w' ∧ Both w' p b q L ∧ L.length ≤ i)
    case atStart => exact ⟨0, w.heap.size + 1, w.heap.size, [], rfl, rfl, rfl, ⟨by omega, Nat.le_refl _⟩, hb4, ⟨hL3, hR3⟩, Nat.le_refl _⟩
    case round =>
      clear hL3 hR3 hb4
      obtain ⟨i, p, b, L, hi, rfl, rfl, hpb, hbs, hB, hLi⟩ := hrel
      cases gk with
      | zero =>
        have hin : ¬ ((i : Int) < (len : Int)) := by omega
        clear hB
        go_wp2_with (fail)
        refine (alive_at _).mono ?_
        rintro e w2 ⟨rfl, hb2⟩
        have hb3 := hbs.trans (hb2.mono hbs.size)
        go_wp2_with (fail)
        go_ret
        exact ⟨rfl, hb3⟩
      | succ k1 =>
        have hin : ((i : Int) < (len : Int)) := by omega
        obtain ⟨xb, xo, rfl, hxb, hx⟩ := ha.at (by decide) i (by omega)
        obtain ⟨t0, c0, d0, rfl, wd0⟩ := hx 0 _ rfl
        obtain ⟨t1, c1, d1, rfl, wd1⟩ := hx 1 _ rfl
        simp only [List.length_cons, List.length_nil, Nat.reduceAdd, Nat.add_zero] at c0 c1
        rw [← hbs.cell (p := ⟨_, _, none⟩) hxb] at c0 c1
        have hL1000 : L.length ≤ 1000 := by omega
        clear hx
        have hlt := hB.f.lt
        have hqlt := hB.r.lt
        go_upto_block 2 with (fail)
        have hB1 := hB.below ((Below.refl _ wr).alloc (Nat.le_refl _) (.cells #[.int .i64 d0, .int .i64 d1] 34))
        have hbs1 := hbs.alloc hbs.size (.cells #[.int .i64 d0, .int .i64 d1] 34)
        have e0 := (Blk.new wr 34 [.int .i64 d0, .int .i64 d1]).cell 0
        have e1 := (Blk.new wr 34 [.int .i64 d0, .int .i64 d1]).cell 1
        simp only [List.getElem?_cons_succ, List.getElem?_cons_zero] at e0 e1
        have hsl := (Blk.new wr 34 [.int .i64 d0, .int .i64 d1]).lt
        have hsb : wr.heap.size ≠ p ∧ wr.heap.size ≠ b ∧ wr.heap.size ≠ q := by omega
        have hwsb : w.heap.size ≤ wr.heap.size := hbs.size
        clear hB hbs c0 c1 hlt hqlt
        generalize wr.alloc (.cells #[.int .i64 d0, .int .i64 d1] 34) = W1 at *
        generalize wr.heap.size = sb at *
        go_cut [5, 9] (fun v5 v9 wx => ∃ (p b : Nat) (L : List Int), v9 = .bool true ∧ v5 = .pointer (some ⟨p, 0, none⟩) ∧ (w.heap.size ≤ p ∧ w.heap.size ≤ b) ∧ Below w.heap.size w wx ∧ Both wx p b q L ∧ L.length ≤ i + 1)
        case first =>
          by_cases hd0 : d0 = 0
          · as_aux_lemma =>
            subst hd0
            go_wp2_with (fail)
            have hSd := hB1.f.drew
            have hRd := hB1.r.drew
            go_region_held3 (fun w' : World => w'.cell? ⟨sb, 1, none⟩ = some (.int .i64 d1)) (first | assumption | go_keep) (first | (go_at_call 8; refine (put_at hSd d1).mono ?_; rintro e w2 ⟨rfl, hS2, o2⟩; have hR2 := ref_kept hSd hRd o2; have s2 : w2.cell? ⟨sb, 1, none⟩ = some (.int .i64 d1) := (by rw [← e1]; exact cell_same (o2.block sb hsl (by omega)))) | (go_at_call 17; refine (putR hR2 hL1000 d1).mono ?_; rintro e w3 ⟨rfl, hR3, o3⟩; have hS3 := list_kept hS2 hR2 o3; have s3 : w3.cell? ⟨sb, 1, none⟩ = some (.int .i64 d1) := (by rw [← s2]; exact cell_same (o3.block sb (Nat.lt_of_lt_of_le hsl o2.size) (by omega)))))
            have hb2 := o2.below (below_drew' hbs1) hbs1.size (fun k _ h => by omega)
            have hb3 := o3.below hb2 hb2.size (fun k _ h => by omega)
            go_wp2_with (fail)
            go_meet
            exact ⟨p, b, putL L d1, rfl, rfl, hpb, hb3, ⟨hS3, hR3⟩, by have := putL_len L d1; omega⟩
          · by_cases hd1 : d0 = 1
            · as_aux_lemma =>
              subst hd1
              go_wp2_with (fail)
              refine (pop_any hB1.f).mono ?_
              rintro e w2 ⟨rfl, hS2, o2⟩
              have hR2 := ref_kept hB1.f hB1.r o2
              have hb2 := o2.below hbs1 hbs1.size (fun k _ h => by omega)
              go_wp2_with (fail)
              refine (popR hR2 hL1000).mono ?_
              rintro e w3 ⟨rfl, hR3, o3⟩
              have hS3 := list_kept hS2 hR2 o3
              have hb3 := o3.below hb2 hb2.size (fun k _ h => by omega)
              go_wp2_with (fail)
              go_meet
              exact ⟨p, b, L.tail, rfl, rfl, hpb, hb3, ⟨hS3, hR3⟩, by rw [List.length_tail]; omega⟩
            · by_cases hd2 : d0 = 2
              · as_aux_lemma =>
                subst hd2
                go_wp2_with (fail)
                have hSd := hB1.f.drew
                have hRd := hB1.r.drew
                go_region_held3 (fun w' : World => w'.cell? ⟨sb, 1, none⟩ = some (.int .i64 d1)) (first | assumption | go_keep) (first | (go_at_call 9; refine (ListCode.drop_at hSd wd1).mono ?_; rintro e w2 ⟨rfl, hS2, o2⟩; have hR2 := ref_kept hSd hRd o2; have s2 : w2.cell? ⟨sb, 1, none⟩ = some (.int .i64 d1) := (by rw [← e1]; exact cell_same (o2.block sb hsl (by omega)))) | (go_at_call 19; refine (dropR hR2 hL1000 d1).mono ?_; rintro e w3 ⟨rfl, hR3, o3⟩; have hS3 := list_kept hS2 hR2 o3; have s3 : w3.cell? ⟨sb, 1, none⟩ = some (.int .i64 d1) := (by rw [← s2]; exact cell_same (o3.block sb (Nat.lt_of_lt_of_le hsl o2.size) (by omega)))))
                have hb2 := o2.below (below_drew' hbs1) hbs1.size (fun k _ h => by omega)
                have hb3 := o3.below hb2 hb2.size (fun k _ h => by omega)
                go_wp2_with (fail)
                go_meet
                exact ⟨p, b, L.erase d1, rfl, rfl, hpb, hb3, ⟨hS3, hR3⟩, by have := List.length_erase_le (l := L) (a := d1); omega⟩
              · by_cases hd3 : d0 = 3
                · as_aux_lemma =>
                  subst hd3
                  go_wp2_with (fail)
                  refine (copy_at hB1.f).mono ?_
                  rintro e w2 ⟨⟨p2, b2, rfl, hS2, hp2, hbb2⟩, o2⟩
                  have hO2 := hB1.f.only o2 id id
                  have hR2 := hB1.r.only o2 (fun _ _ _ => id)
                  have hb2 := o2.below hbs1 hbs1.size (fun k _ h => h.elim)
                  have hlt := hB1.f.lt
                  have hbsz := hbs1.size
                  have hpb2 : w.heap.size ≤ p2 ∧ w.heap.size ≤ b2 := by omega
                  go_wp2_with (fail)
                  refine (pop_any hO2).mono ?_
                  rintro e w3 ⟨rfl, hO3, o3⟩
                  have hN3 := hS2.only o3 (by omega) (by omega)
                  have hR3 := ref_kept hO2 hR2 o3
                  have hb3 := o3.below hb2 hb2.size (fun k _ h => by omega)
                  go_wp2_with (fail)
                  refine (put_at hO3 999).mono ?_
                  rintro e w4 ⟨rfl, hO4, o4⟩
                  have hN4 := hN3.only o4 (by omega) (by omega)
                  have hR4 := ref_kept hO3 hR3 o4
                  have hb4 := o4.below hb3 hb3.size (fun k _ h => by omega)
                  clear hO2 hR2 hS2 hO3 hN3 hR3 hO4 hb2 hb3 o2 o3 o4 hB1
                  go_wp2_with (fail)
                  go_meet
                  exact ⟨p2, b2, L, rfl, rfl, hpb2, hb4, ⟨hN4, hR4⟩, by omega⟩
                · go_wp2_with (fail)
                  go_meet
                  exact ⟨p, b, L, rfl, rfl, hpb, hbs1, hB1, by omega⟩
        case rest =>
          clear hB1 hbs1 hLi hL1000 hpb hsb e0 e1 hsl hwsb
          obtain ⟨p, b, L, rfl, rfl, hpb, hb, hB, hLi⟩ := hcut
          have hL1000 : L.length ≤ 1000 := by omega
          go_wp2_with (fail)
          refine (front_any hB.f).mono ?_
          rintro e w2 ⟨rfl, hw⟩
          obtain rfl : wc = w2 := hw.symm
          have hN1 := next_at hB.f hx0
          have hns := next_same hB.f.nodup hB.f.rng x
          have hRn : ∀ W, RefList.RefAt W q L → Calls Try.prog 21 #[.pointer (some ⟨q, 0, none⟩), .int .i64 x] W fun e w' => e = .returned (.tuple #[.int .i64 (nextV L x).1, .bool (nextV L x).2]) ∧ w' = W := fun W h => by
            have := RefList.next_at h x hL1000
            rw [hns] at this; exact this
          clear hns
          generalize nextV L x = nv at *
          obtain ⟨n1, n2⟩ := nv
          have hRnH := hid hRn
          clear hRn
          go_wp2_with (fail)
          refine hN1.mono ?_
          rintro e w3 ⟨rfl, hB3⟩
          have hBB := hB.below hB3
          have hb3 := hb.trans (hB3.mono hb.size)
          have hR2 := hRnH.out _ hBB.r
          clear hN1 hB3 hB hb
          go_wp2_with (fail)
          refine hR2.mono ?_
          rintro e w4 ⟨rfl, hw⟩
          obtain rfl : w3 = w4 := hw.symm
          clear hR2
          obtain ⟨v, hk, hown⟩ := hBB.r
          obtain ⟨A, c, rfl⟩ := own_form hown
          have hql := hk.lt
          have r0 : w3.cell? ⟨q, 0, none⟩ = some (.slice A L.length c) := hk.cell 0
          have hN : Nums w3 .i64 A L := own_nums hown
          clear hk hown
          go_upto_if 122 with (fail)
          go_cut [21] (fun v21 wx => v21 = .int .i64 (L.getD 0 0) ∧ wx = w3)
          case first =>
            cases L with
            | nil =>
              go_wp2_with (fail)
              go_meet
              exact ⟨rfl, rfl⟩
            | cons y r =>
              obtain ⟨g, o, rfl, _, hc⟩ := hN.at 0 (by simp)
              simp only [List.getD_cons_zero, Nat.add_zero] at hc
              have hr0 : (0 : Int) < (r.length : Int) + 1 := by omega
              have r0' : w3.cell? ⟨q, 0, none⟩ = some (.slice (some ⟨g, o, none⟩) (r.length + 1) c) := r0
              have hy0 : 0 < (y :: r).length := by simp
              clear r0
              go_wp2_with (fail)
              go_meet
              exact ⟨rfl, rfl⟩
          case rest =>
            obtain ⟨rfl, rfl⟩ := hcut
            have hBd : Both wc.drew p b q L := ⟨hBB.f.drew, hBB.r.drew⟩
            have hL32 := hid (show L.length ≤ 140737488355328 by omega)
            have H1 := hid (has_at hBd.f hx0)
            have H2 : ∀ W, RefList.RefAt W q L → Calls Try.prog 22 #[.pointer (some ⟨q, 0, none⟩), .int .i64 x] W fun e w' => e = .returned (.int .i64 (RefList.at_ L x)) ∧ w' = W := fun W h => RefList.at_at h x hL1000
            have hz : decide ((0 : Int) ≤ RefList.at_ L x) = decide (x ∈ L) := decide_eq_decide.2 RefList.at_nn
            have q0 : wc.drew.cell? ⟨q, 0, none⟩ = some (.slice A L.length c) := r0
            have hNd : Nums wc.drew .i64 A L := hN.drew
            have hBBH := hid hBB
            have hBdH := hid hBd
            have H2H := hid H2
            clear hBB hBd hN H2 r0
            generalize RefList.at_ L x = z at *
            generalize decide (x ∈ L) = mb at *
            go_wp2_with (fail)
            go_region_held3 (fun w' : World => w'.cell? ⟨q, 0, none⟩ = some (.slice A L.length c)) (first | assumption | go_keep) (first
              | (go_at_call 10; refine H1.out.mono ?_; rintro e w5 ⟨rfl, hB5⟩; have hB6 := hBdH.out.below hB5; have q5 : w5.cell? ⟨q, 0, none⟩ = some (.slice A L.length c) := (by rw [← q0]; exact cell_same (hB5.block q hql)); have hN5 := hNd.below hB5; have H3 := hid (H2H.out _ hB6.r); have H4 := hid (llen_at hB6.f); have H5 := hid (all_nums hB6.f))
              | (go_at_call 22; refine H3.out.mono ?_; rintro e w6 ⟨rfl, hw⟩; obtain rfl : w5 = w6 := hw.symm)
              | (go_at_call 15; refine H4.out.mono ?_; rintro e w6 ⟨rfl, hw⟩; obtain rfl : w5 = w6 := hw.symm)
              | (go_at_call 12; refine H5.out.mono ?_; rintro e w7 ⟨A7, c7, rfl, hN7, hB7, hA7⟩; have q7 : w7.cell? ⟨q, 0, none⟩ = some (.slice A L.length c) := (by rw [← q5]; exact cell_same (hB7.block q (Nat.lt_of_lt_of_le hql hB5.size))); have hN8 := hN5.below hB7)
              | (go_at_call 23; refine (SameInts.same_eq A7 A c7 c L w7 hN7 hN8 hL32.out).mono ?_; rintro e w8 ⟨rfl, n8, rfl⟩; have q8 : (w7.drewN n8).cell? ⟨q, 0, none⟩ = some (.slice A L.length c) := q7))
            have hbw : Below wc.heap.size wc (w7.drewN n8) := by
              have := hB5.trans (hB7.mono hB5.size)
              exact ⟨this.os, this.tape, this.output, this.size, this.block⟩
            have hB9 := hBBH.out.below hbw
            have hb9 := hb3.trans (hbw.mono hb3.size)
            clear q0 q5 q7 q8 hNd hN5 hN7 hN8
            go_wp2_with (fail)
            go_roundg k1
            case measure => omega
            case rel => exact ⟨i + 1, p, b, L, by omega, by go_num, rfl, hpb, hb9, hB9, hLi⟩
end Go.Proofs.Ytmhnfcodppfaiab.ListPlays
