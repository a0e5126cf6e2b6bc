
/- The walk of SchedPlays. -/
import Derived.Test.YtghbcdpnngheoagRefSched2
import Derived.Test.YtghbcdpnngheoagSameInts
namespace Go.Proofs.Ytghbcdpnngheoag.SchedPlays
open Go Go.RowKit Go.Proofs.Ytghbcdpnngheoag.Obj Go.Proofs.Ytghbcdpnngheoag.FifoCode Go.Proofs.Ytghbcdpnngheoag.SchedCode Go.Proofs.Ytghbcdpnngheoag.RefSched Go.Proofs.Ytghbcdpnngheoag.Row Go.Proofs.YtghbcdpnngheoagW.PrintWords Go.Proofs.YtghbcdpnngheoagW.PrintMore
set_option maxRecDepth 100000
set_option linter.unusedVariables false
theorem make_nil (w : World) : Calls Try.prog 29 #[.pointer none] w fun e w' => e = .returned (.tuple #[.int .i64 0, .int .i64 1]) ∧ w' = w := by
  go_enter Try.func29, Try.ntmps29
  go_wp2
  go_ret2
  exact ⟨rfl, rfl⟩
theorem next_nil (w : World) : Calls Try.prog 30 #[.pointer none] w fun e w' => e = .returned (.tuple #[.int .i64 0, .int .u8 0]) ∧ Below w.heap.size w w' := by
  go_enter Try.func30, Try.ntmps30
  go_wp2
  go_ret2
  exact ⟨rfl, (Below.refl _ w).alloc (Nat.le_refl _) _⟩
theorem spush_nil (t : Int) (w : World) : Calls Try.prog 38 #[.pointer none, .int .i64 t] w fun e w' => e = .returned (.int .i64 1) ∧ w' = w := by
  go_enter Try.func38, Try.ntmps38
  go_wp2
  go_ret
  exact ⟨rfl, rfl⟩
theorem back_nil (t : Int) (w : World) : Calls Try.prog 31 #[.pointer none, .int .i64 t] w fun e w' => e = .returned (.int .i64 1) ∧ w' = w := by
  go_enter Try.func31, Try.ntmps31
  go_wp2
  go_ret
  exact ⟨rfl, rfl⟩
theorem less_nil (b : Bool) (w : World) : Calls Try.prog 73 #[.pointer none, .bool b] w fun e w' => e = .returned (.int .i64 1) ∧ w' = w := by
  go_enter Try.func73, Try.ntmps73
  go_wp2
  go_ret
  exact ⟨rfl, rfl⟩
theorem leave_nil (w : World) : Calls Try.prog 36 #[.pointer none] w fun e w' => e = .returned (.int .i64 1) ∧ w' = w := by
  go_enter Try.func36, Try.ntmps36
  go_wp2_with (go_at_call 73; refine (less_nil _ _).mono ?_; rintro e w' ⟨rfl, rfl⟩)
  go_ret
  exact ⟨rfl, rfl⟩
theorem end_nil (w : World) : Calls Try.prog 37 #[.pointer none] w fun e w' => e = .returned (.int .i64 1) ∧ w' = w := by
  go_enter Try.func37, Try.ntmps37
  go_wp2_with (go_at_call 73; refine (less_nil _ _).mono ?_; rintro e w' ⟨rfl, rfl⟩)
  go_ret
  exact ⟨rfl, rfl⟩
theorem made_nil (w : World) : Calls Try.prog 39 #[.pointer none] w fun e w' => e = .returned (.int .i64 0) ∧ w' = w := by
  go_enter Try.func39, Try.ntmps39
  go_wp2
  go_ret
  exact ⟨rfl, rfl⟩
theorem live_nil (w : World) : Calls Try.prog 32 #[.pointer none] w fun e w' => e = .returned (.int .i64 0) ∧ w' = w := by
  go_enter Try.func32, Try.ntmps32
  go_wp2
  go_ret
  exact ⟨rfl, rfl⟩
theorem busy_nil (w : World) : Calls Try.prog 33 #[.pointer none] w fun e w' => e = .returned (.int .i64 0) ∧ w' = w := by
  go_enter Try.func33, Try.ntmps33
  go_wp2
  go_ret
  exact ⟨rfl, rfl⟩
theorem slist_nil (w : World) : Calls Try.prog 41 #[.pointer none] w fun e w' => e = .returned (.slice none 0 0) ∧ w' = w := by
  go_enter Try.func41, Try.ntmps41
  go_wp2
  go_ret
  exact ⟨rfl, rfl⟩
theorem scopy_nil (w : World) : Calls Try.prog 49 #[.pointer none] w fun e w' => e = .returned (.pointer none) ∧ w' = w := by
  go_enter Try.func49, Try.ntmps49
  go_wp2
  go_ret
  exact ⟨rfl, rfl⟩
set_option maxHeartbeats 2000000 in
theorem nothing_at (w : World) : Calls Try.prog 42 #[] w fun e w' => e = .returned (.bool true) ∧ Below w.heap.size w w' := by
  go_enter Try.func42, Try.ntmps42
  go_wp2_with (first | (go_at_call 29; (refine (make_nil _).mono ?_); rintro e w1 ⟨rfl, rfl⟩) | (go_at_call 30; (refine (next_nil _).mono ?_); rintro e w1 ⟨rfl, hB⟩) | (go_at_call 38; (refine (spush_nil 0 _).mono ?_); rintro e w2 ⟨rfl, rfl⟩) | (go_at_call 31; (refine (back_nil 0 _).mono ?_); rintro e w2 ⟨rfl, rfl⟩) | (go_at_call 36; (refine (leave_nil _).mono ?_); rintro e w2 ⟨rfl, rfl⟩) | (go_at_call 37; (refine (end_nil _).mono ?_); rintro e w2 ⟨rfl, rfl⟩) | (go_at_call 39; (refine (made_nil _).mono ?_); rintro e w2 ⟨rfl, rfl⟩) | (go_at_call 32; (refine (live_nil _).mono ?_); rintro e w2 ⟨rfl, rfl⟩) | (go_at_call 33; (refine (busy_nil _).mono ?_); rintro e w2 ⟨rfl, rfl⟩) | (go_at_call 41; (refine (slist_nil _).mono ?_); rintro e w2 ⟨rfl, rfl⟩) | (go_at_call 49; (refine (scopy_nil _).mono ?_); rintro e w2 ⟨rfl, rfl⟩))
  go_ret
  exact ⟨rfl, hB⟩
section
variable {w w' W W' : World} {a p q : Nat} {s : Sc}
set_option maxHeartbeats 2000000 in
theorem scopy_at (h : SchedAt w a p s) : Calls Try.prog 49 #[.pointer (some ⟨a, 0, none⟩)] w fun e w' => (∃ a2 p2, e = .returned (.pointer (some ⟨a2, 0, none⟩)) ∧ SchedAt w' a2 p2 s ∧ w.heap.size ≤ a2 ∧ w.heap.size ≤ p2) ∧ Only (fun _ => False) w w' := by
  obtain ⟨c0, c1, c2, c3, c4⟩ := h.cells
  have hC := copy_at (h.row.same (w' := w.drew) rfl)
  have hal := h.lt.1
  have hH := hid h
  have hd0 : w.drew.cell? ⟨a, 0, none⟩ = some (.pointer (some ⟨p, 0, none⟩)) := c0
  have hd1 : w.drew.cell? ⟨a, 1, none⟩ = some (.int .i64 s.most) := c1
  have hd2 : w.drew.cell? ⟨a, 2, none⟩ = some (.int .i64 s.made) := c2
  have hd3 : w.drew.cell? ⟨a, 3, none⟩ = some (.int .i64 s.live) := c3
  have hd4 : w.drew.cell? ⟨a, 4, none⟩ = some (.int .i64 s.busy) := c4
  clear h
  go_enter Try.func49, Try.ntmps49
  go_wp2_with (fail)
  go_region_held3 (fun w' : World => w'.cell? ⟨a, 0, none⟩ = some (.pointer (some ⟨p, 0, none⟩)) ∧ w'.cell? ⟨a, 1, none⟩ = some (.int .i64 s.most) ∧ w'.cell? ⟨a, 2, none⟩ = some (.int .i64 s.made) ∧ w'.cell? ⟨a, 3, none⟩ = some (.int .i64 s.live) ∧ w'.cell? ⟨a, 4, none⟩ = some (.int .i64 s.busy)) (first | (refine ⟨?_, ?_, ?_, ?_, ?_⟩ <;> assumption) | go_keep) (first | (go_at_call 77; refine hC.mono ?_; rintro e w2 ⟨rfl, hF2, o2, hs2⟩; have hz := o2.block a hal id; have d0 : w2.cell? ⟨a, 0, none⟩ = some (.pointer (some ⟨p, 0, none⟩)) := (by rw [← c0]; exact cell_same hz); have d1 : w2.cell? ⟨a, 1, none⟩ = some (.int .i64 s.most) := (by rw [← c1]; exact cell_same hz); have d2 : w2.cell? ⟨a, 2, none⟩ = some (.int .i64 s.made) := (by rw [← c2]; exact cell_same hz); have d3 : w2.cell? ⟨a, 3, none⟩ = some (.int .i64 s.live) := (by rw [← c3]; exact cell_same hz); have d4 : w2.cell? ⟨a, 4, none⟩ = some (.int .i64 s.busy) := (by rw [← c4]; exact cell_same hz); clear hz))
  all_goals go_wp2
  all_goals go_ret
  all_goals
    refine ⟨⟨w2.heap.size, w.heap.size, rfl, ⟨Blk.new w2 111 (schedCells w.heap.size s), hF2.alloc _, hH.out.ok⟩, o2.size, Nat.le_refl _⟩, ?_⟩
    exact ((Only.drew _ w).trans o2).trans (Only.alloc _ _ _)
/-- A scheduler and the document's, the same. -/
structure Both (w : World) (a p q : Nat) (s : Sc) : Prop where
  f : SchedAt w a p s
  r : RefAt w q s
theorem apart (h : SchedAt W a p s) {t : Sc} (k : RefAt W q t) : a ≠ q ∧ p ≠ q ∧ ∀ v, W.ownsRow (q + 1) 3 1 v t.L.length (nums .i64 t.L) → v.ownBlock ≠ some a ∧ v.ownBlock ≠ some p := by
  have h1 : W.heap[a]? = some (.cells _ 111 (0, 0)) := h.blk
  obtain ⟨A, fr, h2, _⟩ := h.row
  have h2' : W.heap[p]? = some (.cells _ 121 (0, 0)) := h2
  obtain ⟨⟨v, h3, _⟩, _⟩ := k
  have h3' : W.heap[q]? = some (.cells _ 84 (0, 0)) := h3
  refine ⟨fun e => ?_, fun e => ?_, fun v hr => ⟨fun e => ?_, fun e => ?_⟩⟩
  · rw [e, h3'] at h1; simp at h1
  · rw [e, h3'] at h2'; simp at h2'
  · rcases hr.2 with ⟨rfl, _⟩ | ⟨g, cap, cur, rfl, _, hh, _⟩
    · cases e
    · have e' : g = a := by simpa [Value.ownBlock] using e
      subst e'; rw [h1] at hh; simp at hh
  · rcases hr.2 with ⟨rfl, _⟩ | ⟨g, cap, cur, rfl, _, hh, _⟩
    · cases e
    · have e' : g = p := by simpa [Value.ownBlock] using e
      subst e'; rw [h2'] at hh; simp at hh
theorem ref_kept {t : Sc} (hk : SchedAt W a p s ∧ RefAt W q t) (o : Only (fun k => k = a ∨ k = p) W W') : RefAt W' q t := by
  obtain ⟨h, k⟩ := hk
  have ha := apart h k
  obtain ⟨⟨v, h1, h2⟩, h3⟩ := k
  exact ⟨⟨v, h1.only o (by have := ha.1; have := ha.2.1; omega), own_only h2 o (fun j hj e => by
    have := ha.2.2 v h2
    rcases e with rfl | rfl
    · exact this.1 hj
    · exact this.2 hj)⟩, h3⟩
theorem sched_kept {t : Sc} (hk : SchedAt W a p s ∧ RefAt W q t) (o : Only (· = q) W W') : SchedAt W' a p s := by
  obtain ⟨h, k⟩ := hk
  have ha := apart h k
  exact h.only o ha.1 ha.2.1
theorem below_drew' {B : Nat} {a w : World} (h : Below B a w) : Below B a w.drew := ⟨h.os, h.tape, h.output, h.size, h.block⟩
theorem Both.below (h : Both w a p q s) (hb : Below w.heap.size w w') : Both w' a p q s := ⟨h.f.below hb, h.r.below hb⟩
end
theorem busy_make (s : Sc) : s.make.busy = s.busy := by unfold Sc.make; split <;> rfl
theorem busy_next (s : Sc) : s.next.busy ≤ s.busy + 1 := by unfold Sc.next; split <;> simp
theorem busy_push (s : Sc) (t : Int) : (s.push t).busy = s.busy := by unfold Sc.push; split <;> rfl
theorem busy_back (s : Sc) (t : Int) : (s.back t).busy ≤ s.busy := by unfold Sc.back; split <;> (try split) <;> simp
theorem busy_end (s : Sc) : s.ended.busy ≤ s.busy := by unfold Sc.ended; split <;> simp
theorem ref_new (w : World) (most : Nat) (h : most ≤ 32) : RefAt (w.alloc (.cells #[.int .i64 most, .slice none 0 0, .int .i64 0, .int .i64 0, .int .i64 0] 84)) w.heap.size (Sc.new most) :=
  ⟨⟨.slice none 0 0, Blk.new w _ (refCells (.slice none 0 0) (Sc.new most)), own_nil _ _ _ _⟩, Sc.Ok.new h⟩
set_option maxHeartbeats 20000000 in
theorem plays_walk (m : Int) (ad : Option Addr) (len cap : Nat) (w : World) (hm : (Lit.int .i64 m).wf = true) (ha : Obj.Rows w [.int .i64, .int .i64] ad len cap) :
    Calls Try.prog 8 #[.int .i64 m, .slice ad len cap] w fun e w' => e = .returned (.bool true) ∧ Below w.heap.size w w' := by
  by_cases h200 : 200 < len
  · go_enter Try.func8, Try.ntmps8
    go_wp2_with (fail)
    refine (alive_at _).mono ?_
    rintro e w2 ⟨rfl, hb2⟩
    go_wp2_with (fail)
    go_ret
    exact ⟨rfl, hb2⟩
  · by_cases hout : m < 1 ∨ m > 32
    · have hlen : len ≤ 200 := by omega
      have hoH := hid hout
      rcases hout with h1 | h1
      all_goals
        try (have h2 : ¬ (m < 1) := by omega)
        go_enter Try.func8, Try.ntmps8
        go_wp2_with (fail)
        refine (nothing_at _).mono ?_
        rintro e w0 ⟨rfl, hb0⟩
        go_wp2_with (fail)
        refine (new_sched_out m _ hoH.out).mono ?_
        rintro e w1 ⟨rfl, rfl⟩
        go_wp2_with (fail)
        refine (alive_at _).mono ?_
        rintro e w2 ⟨rfl, hb2⟩
        have hb3 := hb0.trans (hb2.mono hb0.size)
        go_wp2_with (fail)
        go_ret
        exact ⟨rfl, hb3⟩
    · obtain ⟨most, rfl⟩ : ∃ k : Nat, m = (k : Int) := ⟨m.toNat, by omega⟩
      have hm32 : most ≤ 32 := by omega
      have hm1 : 1 ≤ most := by omega
      have hlen : len ≤ 200 := by omega
      have hn0 : ¬ ((most : Int) < 1) := by omega
      have hn8 : ¬ ((most : Int) > 32) := by omega
      clear hout hm
      go_enter Try.func8, Try.ntmps8
      go_wp2_with (fail)
      refine (nothing_at _).mono ?_
      rintro e w0 ⟨rfl, hb0⟩
      go_wp2_with (fail)
      refine (new_sched most _ hm1 hm32).mono ?_
      rintro e w1 ⟨rfl, hS, hb1⟩
      have hbA : Below w.heap.size w (w1.alloc (.cells #[.int .i64 most, .slice none 0 0, .int .i64 0, .int .i64 0, .int .i64 0] 84)) := (hb0.trans (hb1.mono hb0.size)).alloc (Nat.le_trans hb0.size hb1.size) _
      have hSA := hS.below (((Below.refl _ w1).alloc (Nat.le_refl _) (.cells #[.int .i64 most, .slice none 0 0, .int .i64 0, .int .i64 0, .int .i64 0] 84)))
      have hXA := ref_new w1 most hm32
      have hqb : w.heap.size ≤ w1.heap.size := Nat.le_trans hb0.size hb1.size
      have hpb : w.heap.size ≤ w0.heap.size := hb0.size
      clear hS hb1
      go_wp2_with (fail)
      obtain ⟨q, hq⟩ : ∃ q, q = w1.heap.size := ⟨_, rfl⟩
      obtain ⟨p0, hp⟩ : ∃ p, p = w0.heap.size := ⟨_, rfl⟩
      rw [← hq] at hXA hqb ⊢
      rw [← hp] at hSA hpb ⊢
      clear hq hp hb0
      go_loopg [5, 8] len (fun kq v5 v8 w' => ∃ (i a p : Nat) (s : Sc), kq + i = len ∧ v8 = .int .i64 (i : Int) ∧ v5 = .pointer (some ⟨a, 0, none⟩) ∧ (w.heap.size ≤ a ∧ w.heap.size ≤ p) ∧ Below w.heap.size w w' ∧ Both w' a p q s ∧ s.busy ≤ i)
      case atStart => exact ⟨0, p0 + 1, p0, Sc.new most, rfl, rfl, rfl, ⟨Nat.le_succ_of_le hpb, hpb⟩, hbA, ⟨hSA, hXA⟩, Nat.le_refl _⟩
      case round =>
        clear hSA hXA hbA hpb
        obtain ⟨i, a, p, s, hi, rfl, rfl, hap, hbs, hB, hbi⟩ := hrel
        cases gk with
        | zero =>
          have hin : ¬ ((i : Int) < (len : Int)) := by omega
          clear hB
          go_wp2_with (fail)
          refine (alive_at _).mono ?_
          rintro e w2 ⟨rfl, hb2⟩
          have hb3 := hbs.trans (hb2.mono hbs.size)
          go_wp2_with (fail)
          go_ret
          exact ⟨rfl, hb3⟩
        | succ k1 =>
          have hin : ((i : Int) < (len : Int)) := by omega
          obtain ⟨xb, xo, rfl, hxb, hx⟩ := ha.at (by decide) i (by omega)
          obtain ⟨t0, c0, d0, rfl, wd0⟩ := hx 0 _ rfl
          obtain ⟨t1, c1, d1, rfl, wd1⟩ := hx 1 _ rfl
          simp only [List.length_cons, List.length_nil, Nat.reduceAdd, Nat.add_zero] at c0 c1
          rw [← hbs.cell (p := ⟨_, _, none⟩) hxb] at c0 c1
          have hb1000 : s.busy < 1000 := by omega
          have hxl : xb < wr.heap.size := Nat.lt_of_lt_of_le hxb hbs.size
          have hcap : (len : Int) ≤ (cap : Int) := by
            rcases ha with ⟨h, _⟩ | ⟨_, _, h, _⟩
            · cases h
            · omega
          clear hx
          go_upto_block 2 with (fail)
          generalize wr = W1 at *
          go_cut [5, 9] (fun v5 v9 wx => ∃ (a p : Nat) (s : Sc), v9 = .bool true ∧ v5 = .pointer (some ⟨a, 0, none⟩) ∧ (w.heap.size ≤ a ∧ w.heap.size ≤ p) ∧ Below w.heap.size w wx ∧ Both wx a p q s ∧ s.busy ≤ i + 1)
          case first =>
            by_cases hd0 : d0 = 0
            · subst hd0
              go_wp2_with (fail)
              refine (make_at hB.f).mono ?_
              rintro e w2 ⟨rfl, hS2, o2⟩
              have hR2 : RefAt w2 q s := ref_kept ⟨hB.f, hB.r⟩ o2
              have hb2 := o2.below hbs hbs.size (fun k _ h => by omega)
              go_wp2_with (fail)
              refine (rmake_at hR2).mono ?_
              rintro e w3 ⟨rfl, hR3, o3⟩
              have hS3 := sched_kept ⟨hS2, hR2⟩ o3
              have hb3 := o3.below hb2 hb2.size (fun k _ h => by omega)
              go_wp2_with (fail)
              go_meet
              exact ⟨a, p, s.make, rfl, rfl, hap, hb3, ⟨hS3, hR3⟩, by rw [busy_make]; omega⟩
            · by_cases hd1 : d0 = 1
              · subst hd1
                go_wp2_with (fail)
                refine (next_at hB.f hb1000).mono ?_
                rintro e w2 ⟨rfl, hS2, o2⟩
                have hR2 : RefAt w2 q s := ref_kept ⟨hB.f, hB.r⟩ o2
                have hb2 := o2.below hbs hbs.size (fun k _ h => by omega)
                go_wp2_with (fail)
                refine (rnext_at hR2 hb1000).mono ?_
                rintro e w3 ⟨rfl, hR3, o3⟩
                have hS3 := sched_kept ⟨hS2, hR2⟩ o3
                have hb3 := o3.below hb2 hb2.size (fun k _ h => by omega)
                go_wp2_with (fail)
                go_meet
                exact ⟨a, p, s.next, rfl, rfl, hap, hb3, ⟨hS3, hR3⟩, by have := busy_next s; omega⟩
              · by_cases hd2 : d0 = 2
                · subst hd2
                  go_wp2_with (fail)
                  have hSd : SchedAt W1.drew a p s := ⟨hB.f.blk.same rfl, hB.f.row.same rfl, hB.f.ok⟩
                  have hRd : RefAt W1.drew q s := hB.r.drew
                  go_region_held3 (fun w' : World => w'.cell? ⟨xb, xo + i * 2 + 1, none⟩ = some (.int .i64 d1)) (assumption) (first | (go_at_call 38; refine (spush_at hSd d1).mono ?_; rintro e w2 ⟨rfl, hS2, o2⟩; have o2' : Only (fun k => k = a ∨ k = p) W1.drew w2 := o2.mono (fun _ _ h => .inr h); have hR2 : RefAt w2 q s := ref_kept ⟨hSd, hRd⟩ o2'; have s2 : w2.cell? ⟨xb, xo + i * 2 + 1, none⟩ = some (.int .i64 d1) := (by rw [← c1]; exact cell_same (o2'.block xb hxl (by omega)))) | (go_at_call 45; refine (rpush_at hR2 d1).mono ?_; rintro e w3 ⟨rfl, hR3, o3⟩; have hS3 := sched_kept ⟨hS2, hR2⟩ o3; have s3 : w3.cell? ⟨xb, xo + i * 2 + 1, none⟩ = some (.int .i64 d1) := (by rw [← s2]; exact cell_same (o3.block xb (Nat.lt_of_lt_of_le hxl o2'.size) (by omega)))))
                  have hb2 := o2'.below (below_drew' hbs) hbs.size (fun k _ h => by omega)
                  have hb3 := o3.below hb2 hb2.size (fun k _ h => by omega)
                  go_wp2_with (fail)
                  go_meet
                  exact ⟨a, p, s.push d1, rfl, rfl, hap, hb3, ⟨hS3, hR3⟩, by rw [busy_push]; omega⟩
                · by_cases hd3 : d0 = 3
                  · subst hd3
                    go_wp2_with (fail)
                    have hSd : SchedAt W1.drew a p s := ⟨hB.f.blk.same rfl, hB.f.row.same rfl, hB.f.ok⟩
                    have hRd : RefAt W1.drew q s := hB.r.drew
                    go_region_held3 (fun w' : World => w'.cell? ⟨xb, xo + i * 2 + 1, none⟩ = some (.int .i64 d1)) (assumption) (first | (go_at_call 31; refine (back_at hSd d1).mono ?_; rintro e w2 ⟨rfl, hS2, o2⟩; have o2' : Only (fun k => k = a ∨ k = p) W1.drew w2 := o2; have hR2 : RefAt w2 q s := ref_kept ⟨hSd, hRd⟩ o2'; have s2 : w2.cell? ⟨xb, xo + i * 2 + 1, none⟩ = some (.int .i64 d1) := (by rw [← c1]; exact cell_same (o2'.block xb hxl (by omega)))) | (go_at_call 46; refine (rback_at hR2 d1).mono ?_; rintro e w3 ⟨rfl, hR3, o3⟩; have hS3 := sched_kept ⟨hS2, hR2⟩ o3; have s3 : w3.cell? ⟨xb, xo + i * 2 + 1, none⟩ = some (.int .i64 d1) := (by rw [← s2]; exact cell_same (o3.block xb (Nat.lt_of_lt_of_le hxl o2'.size) (by omega)))))
                    have hb2 := o2'.below (below_drew' hbs) hbs.size (fun k _ h => by omega)
                    have hb3 := o3.below hb2 hb2.size (fun k _ h => by omega)
                    go_wp2_with (fail)
                    go_meet
                    exact ⟨a, p, s.back d1, rfl, rfl, hap, hb3, ⟨hS3, hR3⟩, by have := busy_back s d1; omega⟩
                  · by_cases hd4 : d0 = 4
                    · subst hd4
                      go_wp2_with (fail)
                      refine (leave_at hB.f).mono ?_
                      rintro e w2 ⟨rfl, hS2, o2⟩
                      have hR2 : RefAt w2 q s := ref_kept ⟨hB.f, hB.r⟩ o2
                      have hb2 := o2.below hbs hbs.size (fun k _ h => by omega)
                      go_wp2_with (fail)
                      refine (rleave_at hR2).mono ?_
                      rintro e w3 ⟨rfl, hR3, o3⟩
                      have hS3 := sched_kept ⟨hS2, hR2⟩ o3
                      have hb3 := o3.below hb2 hb2.size (fun k _ h => by omega)
                      go_wp2_with (fail)
                      go_meet
                      exact ⟨a, p, s.leave, rfl, rfl, hap, hb3, ⟨hS3, hR3⟩, by show s.busy - 1 ≤ _; omega⟩
                    · by_cases hd5 : d0 = 5
                      · subst hd5
                        go_wp2_with (fail)
                        refine (end_at hB.f).mono ?_
                        rintro e w2 ⟨rfl, hS2, o2⟩
                        have hR2 : RefAt w2 q s := ref_kept ⟨hB.f, hB.r⟩ o2
                        have hb2 := o2.below hbs hbs.size (fun k _ h => by omega)
                        go_wp2_with (fail)
                        refine (rend_at hR2).mono ?_
                        rintro e w3 ⟨rfl, hR3, o3⟩
                        have hS3 := sched_kept ⟨hS2, hR2⟩ o3
                        have hb3 := o3.below hb2 hb2.size (fun k _ h => by omega)
                        go_wp2_with (fail)
                        go_meet
                        exact ⟨a, p, s.ended, rfl, rfl, hap, hb3, ⟨hS3, hR3⟩, by have := busy_end s; omega⟩
                      · by_cases hd6 : d0 = 6
                        · subst hd6
                          go_wp2_with (fail)
                          refine (scopy_at hB.f).mono ?_
                          rintro e w2 ⟨⟨a2, p2, rfl, hS2, ha2, hp2⟩, o2⟩
                          have hO2 : SchedAt w2 a p s := hB.f.only o2 id id
                          have hR2 : RefAt w2 q s := hB.r.only o2 (fun _ _ _ => id)
                          have hb2 := o2.below hbs hbs.size (fun k _ h => h.elim)
                          have hne : a2 ≠ a ∧ a2 ≠ p ∧ p2 ≠ a ∧ p2 ≠ p := by have := hB.f.lt; omega
                          have hap2 : w.heap.size ≤ a2 ∧ w.heap.size ≤ p2 := by have := hbs.size; omega
                          go_wp2_with (fail)
                          refine (make_at hO2).mono ?_
                          rintro e w3 ⟨rfl, hS3, o3⟩
                          go_wp2_with (fail)
                          refine (next_at hS3 (by rw [busy_make]; exact hb1000)).mono ?_
                          rintro e w4 ⟨rfl, hS4, o4⟩
                          have o5 := o3.trans o4
                          have hN4 := hS2.only o5 (by omega) (by omega)
                          have hR4 := ref_kept ⟨hO2, hR2⟩ o5
                          have hb4 := o5.below hb2 hb2.size (fun k _ h => by omega)
                          clear hO2 hR2 hS2 hS3 hS4 hb2 o2 o3 o4 o5 hB
                          go_wp2_with (fail)
                          go_meet
                          exact ⟨a2, p2, s, rfl, rfl, hap2, hb4, ⟨hN4, hR4⟩, by omega⟩
                        · go_wp2_with (fail)
                          go_meet
                          exact ⟨a, p, s, rfl, rfl, hap, hbs, hB, by omega⟩
          case rest =>
            clear hB hbs hbi hb1000 hap hxl c0 c1
            obtain ⟨a, p, s, rfl, rfl, hap, hb, hB, hbi⟩ := hcut
            obtain ⟨⟨v, hk, hown⟩, hok⟩ := hB.r
            obtain ⟨A, c, rfl⟩ := own_form hown
            have hql := hk.lt
            have r1 : wc.cell? ⟨q, 1, none⟩ = some (.slice A s.L.length c) := hk.cell 1
            have r2 : wc.cell? ⟨q, 2, none⟩ = some (.int .i64 s.made) := hk.cell 2
            have r3 : wc.cell? ⟨q, 3, none⟩ = some (.int .i64 s.live) := hk.cell 3
            have r4 : wc.cell? ⟨q, 4, none⟩ = some (.int .i64 s.busy) := hk.cell 4
            have hN : Nums wc .i64 A s.L := own_nums hown
            have hBd : Both wc.drew a p q s := ⟨⟨hB.f.blk.same rfl, hB.f.row.same rfl, hB.f.ok⟩, hB.r.drew⟩
            have hL32 := hid (show s.L.length ≤ 140737488355328 by have := hB.f.ok.len; have := hB.f.ok.made; have := hB.f.ok.most32; omega)
            have H1 := hid (made_at hBd.f)
            have H2 := hid (live_at hBd.f)
            have H3 := hid (busy_at hBd.f)
            have H4 := hid (slist_at hBd.f)
            have q1 : wc.drew.cell? ⟨q, 1, none⟩ = some (.slice A s.L.length c) := r1
            have q2 : wc.drew.cell? ⟨q, 2, none⟩ = some (.int .i64 s.made) := r2
            have q3 : wc.drew.cell? ⟨q, 3, none⟩ = some (.int .i64 s.live) := r3
            have q4 : wc.drew.cell? ⟨q, 4, none⟩ = some (.int .i64 s.busy) := r4
            have hBH := hid hB
            clear hk hown hB hBd r1 r2 r3 r4
            go_wp2_with (fail)
            go_region_held3 (fun w' : World => w'.cell? ⟨q, 1, none⟩ = some (.slice A s.L.length c) ∧ w'.cell? ⟨q, 2, none⟩ = some (.int .i64 s.made) ∧ w'.cell? ⟨q, 3, none⟩ = some (.int .i64 s.live) ∧ w'.cell? ⟨q, 4, none⟩ = some (.int .i64 s.busy)) (refine ⟨?_, ?_, ?_, ?_⟩ <;> assumption) (first | (go_at_call 39; refine H1.out.mono ?_; rintro e w2 ⟨rfl, rfl⟩) | (go_at_call 32; refine H2.out.mono ?_; rintro e w2 ⟨rfl, rfl⟩) | (go_at_call 33; refine H3.out.mono ?_; rintro e w2 ⟨rfl, rfl⟩) | (go_at_call 41; refine H4.out.mono ?_; rintro e w4 ⟨A4, c4, rfl, hN4, hB4⟩; have z4 : w4.heap[q]? = wc.heap[q]? := hB4.block q hql; have d1' : w4.cell? ⟨q, 1, none⟩ = some (.slice A s.L.length c) := (by rw [← q1]; exact cell_same z4); have d2' : w4.cell? ⟨q, 2, none⟩ = some (.int .i64 s.made) := (by rw [← q2]; exact cell_same z4); have d3' : w4.cell? ⟨q, 3, none⟩ = some (.int .i64 s.live) := (by rw [← q3]; exact cell_same z4); have d4' : w4.cell? ⟨q, 4, none⟩ = some (.int .i64 s.busy) := (by rw [← q4]; exact cell_same z4); have hN5 := hN.below (w' := w4) (⟨hB4.os, hB4.tape, hB4.output, hB4.size, hB4.block⟩ : Below wc.heap.size wc w4); clear z4) | (go_at_call 40; refine (SameInts.same_eq A4 A c4 c s.L w4 hN4 hN5 hL32.out).mono ?_; rintro e w5 ⟨rfl, n5, rfl⟩; have g1 : (w4.drewN n5).cell? ⟨q, 1, none⟩ = some (.slice A s.L.length c) := d1'; have g2 : (w4.drewN n5).cell? ⟨q, 2, none⟩ = some (.int .i64 s.made) := d2'; have g3 : (w4.drewN n5).cell? ⟨q, 3, none⟩ = some (.int .i64 s.live) := d3'; have g4 : (w4.drewN n5).cell? ⟨q, 4, none⟩ = some (.int .i64 s.busy) := d4'))
            have hbw : Below wc.heap.size wc (w4.drewN n5) := ⟨hB4.os, hB4.tape, hB4.output, hB4.size, hB4.block⟩
            have hB6 := hBH.out.below hbw
            have hb6 := hb.trans (hbw.mono hb.size)
            clear d1' d2' d3' d4' g1 g2 g3 g4 q1 q2 q3 q4
            go_wp2_with (fail)
            go_roundg k1
            case measure => omega
            case rel => exact ⟨i + 1, a, p, s, by omega, by go_num, rfl, hap, hb6, hB6, hbi⟩
end Go.Proofs.Ytghbcdpnngheoag.SchedPlays
