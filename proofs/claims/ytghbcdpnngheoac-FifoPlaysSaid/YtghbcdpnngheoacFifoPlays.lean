/- The walk of FifoPlays. -/
import Derived.Test.YtghbcdpnngheoacFifoSet
namespace Go.Proofs.Ytghbcdpnngheoac.FifoPlays
open Go Go.RowKit Go.Proofs.Ytghbcdpnngheoac.Obj Go.Proofs.Ytghbcdpnngheoac.FifoCode Go.Proofs.Ytghbcdpnngheoac.FifoTurns Go.Proofs.Ytghbcdpnngheoac.FifoSet Go.Proofs.YtghbcdpnngheoacW.PrintWords Go.Proofs.YtghbcdpnngheoacW.PrintMore
set_option linter.unusedVariables false
set_option maxRecDepth 100000
section
variable {W W' : World} {p q most : Nat} {L M : List Int}
/-- A row's block is none of the document's row's: their types differ. -/
theorem apart (h : FifoAt W p most L) (k : RefFifo.RefAt W q most M) : p ≠ q ∧ ∀ v, W.ownsRow (q + 1) 3 1 v M.length (nums .i64 M) → v.ownBlock ≠ some p := by
  obtain ⟨A, fr, h1, _⟩ := h
  obtain ⟨v, h2, _⟩ := k
  have h1' : W.heap[p]? = some (.cells (fifoCells A fr L.length most).toArray 78 (0, 0)) := h1
  refine ⟨fun e => ?_, fun v hr e => ?_⟩
  · subst e
    have h2' : W.heap[p]? = some (.cells _ 65 (0, 0)) := h2
    rw [h1'] at h2'
    simp at h2'
  · rcases hr.2 with ⟨rfl, _⟩ | ⟨g, cap, cur, rfl, _, hh, _⟩
    · cases e
    · have e' : g = p := by simpa [Value.ownBlock] using e
      subst e'
      rw [h1'] at hh
      simp at hh
theorem ref_kept (h : FifoAt W p most L) (k : RefFifo.RefAt W q most M) (o : Only (· = p) W W') : RefFifo.RefAt W' q most M := by
  have ha := apart h k
  obtain ⟨v, h1, h2⟩ := k
  exact ⟨v, h1.only o (fun e => ha.1 e.symm), own_only h2 o (fun j hj e => ha.2 v h2 (by rw [hj, e]))⟩
theorem fifo_kept (h : FifoAt W p most L) (k : RefFifo.RefAt W q most M) (o : Only (· = q) W W') : FifoAt W' p most L := h.only o (apart h k).1
/-- What Push answers, and leaves. -/
def pushC (most : Nat) (L : List Int) (k : Int) : Int := if k < 0 ∨ k ≥ 32 then 2 else if k ∈ L then 9 else if L.length < most then 0 else 4
def pushL (most : Nat) (L : List Int) (k : Int) : List Int := if pushC most L k = 0 then L ++ [k] else L
theorem push_cases (most : Nat) (L : List Int) (k : Int) : (pushC most L k = 2 ∧ pushL most L k = L ∧ (k < 0 ∨ k ≥ 32)) ∨ (0 ≤ k ∧ k < 32 ∧ ((pushC most L k = 9 ∧ pushL most L k = L ∧ k ∈ L) ∨ (k ∉ L ∧ ((pushC most L k = 0 ∧ pushL most L k = L ++ [k] ∧ L.length < most) ∨ (pushC most L k = 4 ∧ pushL most L k = L ∧ ¬ L.length < most))))) := by
  unfold pushL pushC
  by_cases h1 : k < 0 ∨ k ≥ 32
  · left; simp [h1]
  · right
    refine ⟨by omega, by omega, ?_⟩
    by_cases h2 : k ∈ L
    · left; simp [h1, h2]
    · right
      refine ⟨h2, ?_⟩
      by_cases h3 : L.length < most
      · left; simp [h1, h2, h3]
      · right; simp [h1, h2, h3]
theorem pushL_tasks (h : Tasks L) (k : Int) : Tasks (pushL most L k) := by
  rcases push_cases most L k with ⟨_, e, _⟩ | ⟨h0, h1, ⟨_, e, _⟩ | ⟨hk, ⟨_, e, _⟩ | ⟨_, e, _⟩⟩⟩
  · rw [e]; exact h
  · rw [e]; exact h
  · rw [e]; exact h.snoc h0 h1 hk
  · rw [e]; exact h
theorem only_below {S : Nat → Prop} {w w' : World} (h : Below w.heap.size w w') : Only S w w' := (Only.none_of_below h).mono (fun _ _ h => h.elim)
theorem pushF (h : FifoAt W p most L) (k : Int) : Calls Try.prog 25 #[.pointer (some ⟨p, 0, none⟩), .int .i64 k] W fun e w' => e = .returned (.int .i64 (pushC most L k)) ∧ FifoAt w' p most (pushL most L k) ∧ Only (· = p) W w' := by
  rcases push_cases most L k with ⟨e1, e2, h1⟩ | ⟨h0, h1, ⟨e1, e2, hk⟩ | ⟨hk, ⟨e1, e2, hl⟩ | ⟨e1, e2, hl⟩⟩⟩ <;> rw [e1, e2]
  · refine (push_arg p k W h1).mono ?_
    rintro e w' ⟨rfl, rfl⟩
    exact ⟨rfl, h, Only.refl _ _⟩
  · refine (push_have h h0 h1 hk).mono ?_
    rintro e w' ⟨rfl, hB⟩
    exact ⟨rfl, h.same (hB.block _ h.lt), only_below hB⟩
  · exact push_at h h0 h1 hk hl
  · refine (push_full h h0 h1 hk (by have := h.fit; omega)).mono ?_
    rintro e w' ⟨rfl, hB⟩
    exact ⟨rfl, h.same (hB.block _ h.lt), only_below hB⟩
theorem pushR (h : RefFifo.RefAt W q most L) (hL : L.length ≤ most) (hm : most ≤ 32) (k : Int) : Calls Try.prog 34 #[.pointer (some ⟨q, 0, none⟩), .int .i64 k] W fun e w' => e = .returned (.int .i64 (pushC most L k)) ∧ RefFifo.RefAt w' q most (pushL most L k) ∧ Only (· = q) W w' := by
  rcases push_cases most L k with ⟨e1, e2, h1⟩ | ⟨h0, h1, ⟨e1, e2, hk⟩ | ⟨hk, ⟨e1, e2, hl⟩ | ⟨e1, e2, hl⟩⟩⟩ <;> rw [e1, e2]
  · refine (RefFifo.push_arg q k W h1).mono ?_
    rintro e w' ⟨rfl, rfl⟩
    exact ⟨rfl, h, Only.refl _ _⟩
  · refine (RefFifo.push_have h h0 h1 hk (by omega)).mono ?_
    rintro e w' ⟨rfl, rfl⟩
    exact ⟨rfl, h, Only.refl _ _⟩
  · exact RefFifo.push_at h h0 h1 hk (by omega) hl
  · refine (RefFifo.push_full h h0 h1 hk (by omega) (by omega)).mono ?_
    rintro e w' ⟨rfl, n, rfl⟩
    exact ⟨rfl, h.drewN n, Only.drewN _ _ _⟩
def dropC (L : List Int) (k : Int) : Int := if k ∈ L then 0 else 3
theorem dropF (h : FifoAt W p most L) (k : Int) : Calls Try.prog 32 #[.pointer (some ⟨p, 0, none⟩), .int .i64 k] W fun e w' => e = .returned (.int .i64 (dropC L k)) ∧ FifoAt w' p most (L.erase k) ∧ Only (· = p) W w' := by
  unfold dropC
  by_cases hk : k ∈ L
  · rw [if_pos hk]; exact drop_at h hk
  · rw [if_neg hk, List.erase_of_not_mem hk]
    refine (drop_none h hk).mono ?_
    rintro e w' ⟨rfl, hB⟩
    exact ⟨rfl, h.same (hB.block _ h.lt), only_below hB⟩
theorem dropR (h : RefFifo.RefAt W q most L) (hL : L.length ≤ 32) (k : Int) : Calls Try.prog 36 #[.pointer (some ⟨q, 0, none⟩), .int .i64 k] W fun e w' => e = .returned (.int .i64 (dropC L k)) ∧ RefFifo.RefAt w' q most (L.erase k) ∧ Only (· = q) W w' := by
  unfold dropC
  by_cases hk : k ∈ L
  · rw [if_pos hk]; exact RefFifo.drop_at h hk (by omega)
  · rw [if_neg hk, List.erase_of_not_mem hk]
    refine (RefFifo.drop_none h hk (by omega)).mono ?_
    rintro e w' ⟨rfl, rfl⟩
    exact ⟨rfl, h, Only.refl _ _⟩
end
theorem ref_new (w : World) (most : Nat) : RefFifo.RefAt (w.alloc (.cells #[.int .i64 most, .slice none 0 0] 65)) w.heap.size most [] :=
  ⟨.slice none 0 0, Blk.new w _ [.int .i64 most, .slice none 0 0], own_nil _ _ _ _⟩
set_option maxHeartbeats 20000000 in
theorem plays_walk (m : Int) (a : Option Addr) (len cap : Nat) (k : Int) (w : World) (hm : (Lit.int .i64 m).wf = true) (ha : Obj.Rows w [.int .i64, .int .i64] a len cap) (hk : (Lit.int .i64 k).wf = true) :
    Calls Try.prog 7 #[.int .i64 m, .slice a len cap, .int .i64 k] w fun e w' => e = .returned (.bool true) ∧ Below w.heap.size w w' := by
  by_cases h300 : 300 < len
  · go_enter Try.func7, Try.ntmps7
    go_wp2_with (fail)
    refine (alive_at _).mono ?_
    rintro e w2 ⟨rfl, hb2⟩
    go_wp2_with (fail)
    go_ret
    exact ⟨rfl, hb2⟩
  · by_cases hout : m < 1 ∨ m > 32
    · have hlen : len ≤ 300 := by omega
      have hoH := hid hout
      rcases hout with h1 | h1
      all_goals
        try (have h2 : ¬ (m < 1) := by omega)
        go_enter Try.func7, Try.ntmps7
        go_wp2_with (fail)
        refine (nothing_at _).mono ?_
        rintro e w0 ⟨rfl, hb0⟩
        go_wp2_with (fail)
        refine (new_out m _ hoH.out).mono ?_
        rintro e w1 ⟨rfl, rfl⟩
        go_wp2_with (fail)
        refine (alive_at _).mono ?_
        rintro e w2 ⟨rfl, hb2⟩
        have hb3 := hb0.trans (hb2.mono hb0.size)
        go_wp2_with (fail)
        go_ret
        exact ⟨rfl, hb3⟩
    · obtain ⟨most, rfl⟩ : ∃ k : Nat, m = (k : Int) := ⟨m.toNat, by omega⟩
      have hm32 : most ≤ 32 := by omega
      have hm1 : 1 ≤ most := by omega
      have hlen : len ≤ 300 := by omega
      have hn0 : ¬ ((most : Int) < 1) := by omega
      have hn8 : ¬ ((most : Int) > 32) := by omega
      clear hout hm hk
      go_enter Try.func7, Try.ntmps7
      go_wp2_with (fail)
      refine (nothing_at _).mono ?_
      rintro e w0 ⟨rfl, hb0⟩
      go_wp2_with (fail)
      refine (new_at most _ hm1 hm32).mono ?_
      rintro e w1 ⟨rfl, hR, hb1, hs1⟩
      have hbA : Below w.heap.size w (w1.alloc (.cells #[.int .i64 most, .slice none 0 0] 65)) := (hb0.trans (hb1.mono hb0.size)).alloc (Nat.le_trans hb0.size hb1.size) _
      have hRA := hR.alloc (.cells #[.int .i64 most, .slice none 0 0] 65)
      have hXA := ref_new w1 most
      have hqb : w.heap.size ≤ w1.heap.size := Nat.le_trans hb0.size hb1.size
      have hpb : w.heap.size ≤ w0.heap.size := hb0.size
      clear hR hb1 hs1
      go_wp2_with (fail)
      obtain ⟨q, hq⟩ : ∃ q, q = w1.heap.size := ⟨_, rfl⟩
      obtain ⟨p0, hp⟩ : ∃ p, p = w0.heap.size := ⟨_, rfl⟩
      rw [← hq] at hXA hqb ⊢
      rw [← hp] at hRA hpb ⊢
      clear hq hp hb0
      go_loopg [7, 10] len (fun kq v5 v8 w' => ∃ (i p : Nat) (L : List Int), kq + i = len ∧ v8 = .int .i64 (i : Int) ∧ v5 = .pointer (some ⟨p, 0, none⟩) ∧ w.heap.size ≤ p ∧ Below w.heap.size w w' ∧ Both w' p q most L)
      case atStart => exact ⟨0, p0, [], rfl, rfl, rfl, hpb, hbA, ⟨hRA, hXA, Tasks.nil⟩⟩
      case round =>
        clear hRA hXA hbA hpb
        obtain ⟨i, p, L, hi, rfl, rfl, hpb, hb, hB⟩ := hrel
        cases gk with
        | zero =>
          have hin : ¬ ((i : Int) < (len : Int)) := by omega
          clear hB
          go_wp2_with (fail)
          refine (alive_at _).mono ?_
          rintro e w2 ⟨rfl, hb2⟩
          have hb3 := hb.trans (hb2.mono hb.size)
          go_wp2_with (fail)
          go_ret
          exact ⟨rfl, hb3⟩
        | succ k1 =>
          have hin : ((i : Int) < (len : Int)) := by omega
          obtain ⟨xb, xo, rfl, hxb, hx⟩ := ha.at (by decide) i (by omega)
          obtain ⟨t0, c0, d0, rfl, wd0⟩ := hx 0 _ rfl
          obtain ⟨t1, c1, d1, rfl, wd1⟩ := hx 1 _ rfl
          simp only [List.length_cons, List.length_nil, Nat.reduceAdd, Nat.add_zero] at c0 c1
          rw [← hb.cell (p := ⟨_, _, none⟩) hxb] at c0 c1
          clear hx
          go_upto_block 2 with (fail)
          obtain ⟨sb, hsb⟩ : ∃ sb, sb = wr.heap.size := ⟨_, rfl⟩
          have hbs : Below w.heap.size w (wr.alloc (.cells #[.int .i64 d0, .int .i64 d1] 60)) := hb.alloc hb.size _
          have hSs := Blk.new wr 60 [.int .i64 d0, .int .i64 d1]
          have hal : Below wr.heap.size wr (wr.alloc (.cells #[.int .i64 d0, .int .i64 d1] 60)) := (Below.refl _ _).alloc (Nat.le_refl _) _
          have hBs : Both (wr.alloc (.cells #[.int .i64 d0, .int .i64 d1] 60)) p q most L := ⟨hB.f.alloc _, hB.r.below hal, hB.t⟩
          have hsp : sb ≠ p := by rw [hsb]; exact Nat.ne_of_gt hB.f.lt
          have hsq : sb ≠ q := by rw [hsb]; exact Nat.ne_of_gt hB.r.lt
          have hsw : w.heap.size ≤ sb := by rw [hsb]; exact hb.size
          rw [← hsb] at hSs ⊢
          generalize wr.alloc (.cells #[.int .i64 d0, .int .i64 d1] 60) = W1 at *
          clear hsb hB hb c0 c1 hal
          have hfit := hBs.f.fit
          have s1 : W1.cell? ⟨sb, 1, none⟩ = some (.int .i64 d1) := hSs.cell 1
          have hsl := hSs.lt
          go_cut [7, 12] (fun v5 v10 wx => ∃ (p : Nat) (L : List Int), v10 = .bool true ∧ v5 = .pointer (some ⟨p, 0, none⟩) ∧ w.heap.size ≤ p ∧ Below w.heap.size w wx ∧ Both wx p q most L ∧ Blk wx sb 60 [.int .i64 d0, .int .i64 d1])
          case first =>
            have hm32' := hid hm32
            have hfitH := hid hfit
            have hL32 := hid hBs.t.len
            by_cases hd0 : d0 = 0
            · subst hd0
              go_wp2_with (fail)
              have hFd : FifoAt W1.drew p most L := hBs.f.same rfl
              have hRd : RefFifo.RefAt W1.drew q most L := hBs.r.drew
              go_region_held3 (fun w' : World => w'.cell? ⟨sb, 1, none⟩ = some (.int .i64 d1)) (assumption) (first | (go_at_call 25; refine (pushF hFd d1).mono ?_; rintro e w2 ⟨rfl, hF2, o2⟩; have hR2 : RefFifo.RefAt w2 q most L := ref_kept hFd hRd o2; have s2 : w2.cell? ⟨sb, 1, none⟩ = some (.int .i64 d1) := (by rw [← s1]; exact cell_same (o2.block sb hsl hsp))) | (go_at_call 34; refine (pushR hR2 hfitH.out hm32'.out d1).mono ?_; rintro e w3 ⟨rfl, hR3, o3⟩; have hF3 := fifo_kept hF2 hR2 o3; have s3 : w3.cell? ⟨sb, 1, none⟩ = some (.int .i64 d1) := (by rw [← s2]; exact cell_same (o3.block sb (Nat.lt_of_lt_of_le hsl o2.size) hsq))))
              have hb2 := o2.below (FifoSet.below_drew hbs) hbs.size (fun k _ h => by omega)
              have hb3 := o3.below hb2 hb2.size (fun k _ h => by omega)
              have hS3 := (hSs.only (w' := w2) ⟨o2.os, o2.tape, o2.output, o2.size, o2.block⟩ hsp).only o3 hsq
              have hT3 := pushL_tasks (most := most) hBs.t d1
              go_wp2_with (fail)
              go_meet
              exact ⟨p, pushL most L d1, rfl, rfl, hpb, ⟨hb3.os, hb3.tape, hb3.output, hb3.size, hb3.block⟩, ⟨hF3, hR3, hT3⟩, hS3⟩
            · by_cases hd1 : d0 = 1
              · subst hd1
                cases L with
                | nil =>
                  go_wp2_with (fail)
                  refine (pop_none hBs.f).mono ?_
                  rintro e w2 ⟨rfl, rfl⟩
                  go_wp2_with (fail)
                  refine (RefFifo.pop_none hBs.r).mono ?_
                  rintro e w3 ⟨rfl, rfl⟩
                  go_wp2_with (fail)
                  go_meet
                  exact ⟨p, [], rfl, rfl, hpb, hbs, hBs, hSs⟩
                | cons x r =>
                  have hr := hid (show r.length ≤ 1000 by have := hL32.out; simp at this; omega)
                  have hT3 := hBs.t.tail
                  go_wp2_with (fail)
                  refine (pop_at hBs.f).mono ?_
                  rintro e w2 ⟨rfl, hF2, o2⟩
                  have hR2 := ref_kept hBs.f hBs.r o2
                  go_wp2_with (fail)
                  refine (RefFifo.pop_at hR2 hr.out).mono ?_
                  rintro e w3 ⟨rfl, hR3, o3⟩
                  have hF3 := fifo_kept hF2 hR2 o3
                  have hb2 := o2.below hbs hbs.size (fun k _ h => by omega)
                  have hb3 := o3.below hb2 hb2.size (fun k _ h => by omega)
                  have hS3 := (hSs.only o2 hsp).only o3 hsq
                  go_wp2_with (fail)
                  go_meet
                  exact ⟨p, r, rfl, rfl, hpb, hb3, ⟨hF3, hR3, hT3⟩, hS3⟩
              · by_cases hd2 : d0 = 2
                · subst hd2
                  go_wp2_with (fail)
                  have hFd : FifoAt W1.drew p most L := hBs.f.same rfl
                  have hRd : RefFifo.RefAt W1.drew q most L := hBs.r.drew
                  go_region_held3 (fun w' : World => w'.cell? ⟨sb, 1, none⟩ = some (.int .i64 d1)) (assumption) (first | (go_at_call 32; refine (dropF hFd d1).mono ?_; rintro e w2 ⟨rfl, hF2, o2⟩; have hR2 : RefFifo.RefAt w2 q most L := ref_kept hFd hRd o2; have s2 : w2.cell? ⟨sb, 1, none⟩ = some (.int .i64 d1) := (by rw [← s1]; exact cell_same (o2.block sb hsl hsp))) | (go_at_call 36; refine (dropR hR2 hL32.out d1).mono ?_; rintro e w3 ⟨rfl, hR3, o3⟩; have hF3 := fifo_kept hF2 hR2 o3; have s3 : w3.cell? ⟨sb, 1, none⟩ = some (.int .i64 d1) := (by rw [← s2]; exact cell_same (o3.block sb (Nat.lt_of_lt_of_le hsl o2.size) hsq))))
                  have hb2 := o2.below (FifoSet.below_drew hbs) hbs.size (fun k _ h => by omega)
                  have hb3 := o3.below hb2 hb2.size (fun k _ h => by omega)
                  have hS3 := (hSs.only (w' := w2) ⟨o2.os, o2.tape, o2.output, o2.size, o2.block⟩ hsp).only o3 hsq
                  have hT3 := FifoOrder.tasks_erase hBs.t d1
                  go_wp2_with (fail)
                  go_meet
                  exact ⟨p, L.erase d1, rfl, rfl, hpb, ⟨hb3.os, hb3.tape, hb3.output, hb3.size, hb3.block⟩, ⟨hF3, hR3, hT3⟩, hS3⟩
                · by_cases hd3 : d0 = 3
                  · subst hd3
                    go_wp2_with (fail)
                    refine (copy_at hBs.f).mono ?_
                    rintro e w2 ⟨rfl, hN2, o2, hs2⟩
                    have hP2 : FifoAt w2 p most L := hBs.f.only o2 id
                    have hR2 : RefFifo.RefAt w2 q most L := hBs.r.only o2 (fun _ _ _ => id)
                    have hS2 := hSs.only o2 id
                    have hpp : W1.heap.size ≠ p := Nat.ne_of_gt hBs.f.lt
                    have hb2 := o2.below hbs hbs.size (fun k _ h => h.elim)
                    have hpb2 : w.heap.size ≤ W1.heap.size := hbs.size
                    generalize W1.heap.size = p2 at hN2 hpp hpb2 ⊢
                    obtain ⟨cd, y, r, hPop⟩ : ∃ (cd y : Int) (r : List Int), Calls Try.prog 29 #[.pointer (some ⟨p,0,none⟩)] w2 (fun e w' => e = .returned (.tuple #[.int .i64 y, .int .i64 cd]) ∧ FifoAt w' p most r ∧ Only (· = p) w2 w') := by
                      cases L with
                      | nil => exact ⟨3, 0, [], (pop_none hP2).mono fun e w' ⟨h1, h2⟩ => by subst h2; exact ⟨h1, hP2, Only.refl _ _⟩⟩
                      | cons x r => exact ⟨0, x, r, pop_at hP2⟩
                    go_wp2_with (fail)
                    refine hPop.mono ?_
                    rintro e w3 ⟨rfl, hP3, o3⟩
                    go_wp2_with (fail)
                    refine (pushF hP3 31).mono ?_
                    rintro e w4 ⟨rfl, hP4, o4⟩
                    have o5 : Only (· = p) w2 w4 := o3.trans o4
                    have hN4 := hN2.only o5 hpp
                    have hR4 := ref_kept hP2 hR2 o5
                    have hb4 := o5.below hb2 hb2.size (fun k _ h => by omega)
                    have hS4 := hS2.only o5 hsp
                    have hT := hBs.t
                    clear hPop hP2 hP3 hP4 hN2 hR2 hb2 o2 o3 o4 o5 hBs
                    go_wp2_with (fail)
                    go_meet
                    exact ⟨p2, L, rfl, rfl, hpb2, hb4, ⟨hN4, hR4, hT⟩, hS4⟩
                  · go_wp2_with (fail)
                    go_meet
                    exact ⟨p, L, rfl, rfl, hpb, hbs, hBs, hSs⟩
          case rest =>
            clear hBs hbs hSs s1 hfit hsl hpb hsp
            obtain ⟨p, L, rfl, rfl, hpb, hb, hB, hS⟩ := hcut
            have s1 : wc.cell? ⟨sb, 1, none⟩ = some (.int .i64 d1) := hS.cell 1
            have hsl := hS.lt
            have up2 : ∀ (W W' : World), Both W p q most L → Below W.heap.size W W' → Both W' p q most L := fun W W' h hb => ⟨h.f.same (hb.block _ h.f.lt), h.r.below hb, h.t⟩
            have upH := hid up2
            clear up2
            go_wp2_with (fail)
            refine (same_at hB k).mono ?_
            rintro e w2 ⟨rfl, hb2⟩
            have hB2 := upH.out _ _ hB hb2
            have hb3 := hb.trans (hb2.mono hb.size)
            have s2 : w2.cell? ⟨sb, 1, none⟩ = some (.int .i64 d1) := by rw [← s1]; exact hb2.cell (p := ⟨_, _, none⟩) hsl
            clear hB hb2 s1 hb
            go_wp2_with (fail)
            refine (same_at hB2 d1).mono ?_
            rintro e w4 ⟨rfl, hb4⟩
            have hB4 := upH.out _ _ hB2 hb4
            have hb5 := hb3.trans (hb4.mono hb3.size)
            clear hB2 hb4 s2 hb3
            go_wp2_with (fail)
            go_roundg k1
            case measure => omega
            case rel => exact ⟨i + 1, p, L, by omega, by go_num, rfl, hpb, hb5, hB4⟩
end Go.Proofs.Ytghbcdpnngheoac.FifoPlays
