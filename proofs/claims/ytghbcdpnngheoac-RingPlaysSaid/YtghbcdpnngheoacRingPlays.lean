/- The walk of RingPlays. -/
import Derived.Test.YtghbcdpnngheoacRefRing
import Derived.Test.YtghbcdpnngheoacRingCopy
import Derived.Test.YtghbcdpnngheoacRingAlive
import Derived.Test.YtghbcdpnngheoacSame64
namespace Go.Proofs.Ytghbcdpnngheoac.RingPlays
open Go Go.RowKit Go.Proofs.Ytghbcdpnngheoac.Obj Go.Proofs.Ytghbcdpnngheoac.RingCode Go.Proofs.Ytghbcdpnngheoac.RefRing Go.Proofs.YtghbcdpnngheoacW.PrintWords Go.Proofs.YtghbcdpnngheoacW.PrintMore
set_option linter.unusedVariables false
set_option maxRecDepth 100000
section
variable {W W' : World} {p q most : Nat} {L M : List Int}
/-- A ring's block is none of the document's ring's: their types differ. -/
theorem apart (h : RingAt W p most L) (k : RefAt W q most M) : p ≠ q ∧ ∀ v, Blk W q 41 [.int .i64 most, v] → W.ownsRow (q + 1) 2 1 v M.length (nums .i64 M) → v.ownBlock ≠ some p := by
  obtain ⟨A, fr, h1, _⟩ := h
  obtain ⟨v, h2, _⟩ := k
  have h1' : W.heap[p]? = some (.cells (ringCells A most fr L.length).toArray 71 (0, 0)) := h1
  refine ⟨fun e => ?_, fun v _ hr e => ?_⟩
  · subst e
    have h2' : W.heap[p]? = some (.cells _ 41 (0, 0)) := h2
    rw [h1'] at h2'
    simp at h2'
  · rcases hr.2 with ⟨rfl, _⟩ | ⟨g, cap, cur, rfl, _, hh, _⟩
    · cases e
    · have e' : g = p := by simpa [Value.ownBlock] using e
      subst e'
      rw [h1'] at hh
      simp at hh
theorem ref_kept (h : RingAt W p most L) (k : RefAt W q most M) (o : Only (· = p) W W') : RefAt W' q most M := by
  have ha := apart h k
  obtain ⟨v, h1, h2⟩ := k
  exact ⟨v, h1.only o (fun e => ha.1 e.symm), own_only h2 o (fun j hj e => ha.2 v h1 h2 (by rw [hj, e]))⟩
theorem ring_kept (h : RingAt W p most L) (k : RefAt W q most M) (o : Only (· = q) W W') : RingAt W' p most L := h.only o (apart h k).1
theorem ref_same (k : RefAt W q most M) (o : Only (fun _ => False) W W') : RefAt W' q most M := k.only o (fun _ _ _ => id)
end
theorem ref_new (w : World) (most : Nat) : RefAt (w.alloc (.cells #[.int .i64 most, .slice none 0 0] 41)) w.heap.size most [] :=
  ⟨.slice none 0 0, Blk.new w _ [.int .i64 most, .slice none 0 0], own_nil _ _ _ _⟩
set_option maxHeartbeats 20000000 in
theorem plays_walk (m : Int) (a : Option Addr) (len cap : Nat) (w : World) (hm : (Lit.int .i64 m).wf = true) (ha : Obj.Rows w [.int .i64, .int .i64] a len cap) :
    Calls Try.prog 4 #[.int .i64 m, .slice a len cap] w fun e w' => e = .returned (.bool true) ∧ Below w.heap.size w w' := by
  by_cases h300 : 300 < len
  · go_enter Try.func4, Try.ntmps4
    go_wp2_with (fail)
    refine (alive_at _).mono ?_
    rintro e w2 ⟨rfl, hb2⟩
    go_wp2_with (fail)
    go_ret
    exact ⟨rfl, hb2⟩
  · by_cases hout : m < 0 ∨ m > 8
    · have hlen : len ≤ 300 := by omega
      have hoH := hid hout
      rcases hout with h1 | h1
      all_goals
        try (have h2 : ¬ (m < 0) := by omega)
        go_enter Try.func4, Try.ntmps4
        go_wp2_with (fail)
        refine (nothing_at _).mono ?_
        rintro e w0 ⟨rfl, hb0⟩
        go_wp2_with (fail)
        refine (new_out m _ hoH.out).mono ?_
        rintro e w1 ⟨rfl, rfl⟩
        go_wp2_with (fail)
        refine (alive_at _).mono ?_
        rintro e w2 ⟨rfl, hb2⟩
        have hb3 := hb0.trans (hb2.mono hb0.size)
        go_wp2_with (fail)
        go_ret
        exact ⟨rfl, hb3⟩
    · obtain ⟨most, rfl⟩ : ∃ k : Nat, m = (k : Int) := ⟨m.toNat, by omega⟩
      have hm8 : most ≤ 8 := by omega
      have hlen : len ≤ 300 := by omega
      have hmH := hid hm
      clear hout hm
      have hn0 : ¬ ((most : Int) < 0) := by omega
      have hn8 : ¬ ((most : Int) > 8) := by omega
      go_enter Try.func4, Try.ntmps4
      go_wp2_with (fail)
      refine (nothing_at _).mono ?_
      rintro e w0 ⟨rfl, hb0⟩
      go_wp2_with (fail)
      refine (new_at most _ hm8).mono ?_
      rintro e w1 ⟨rfl, hR, hb1, hs1⟩
      have hbA : Below w.heap.size w (w1.alloc (.cells #[.int .i64 most, .slice none 0 0] 41)) := (hb0.trans (hb1.mono hb0.size)).alloc (Nat.le_trans hb0.size hb1.size) _
      have hRA := hR.alloc (.cells #[.int .i64 most, .slice none 0 0] 41)
      have hXA := ref_new w1 most
      have hqb : w.heap.size ≤ w1.heap.size := Nat.le_trans hb0.size hb1.size
      have hpb : w.heap.size ≤ w0.heap.size := hb0.size
      clear hR hb1 hs1
      go_wp2_with (fail)
      obtain ⟨q, hq⟩ : ∃ q, q = w1.heap.size := ⟨_, rfl⟩
      obtain ⟨p0, hp⟩ : ∃ p, p = w0.heap.size := ⟨_, rfl⟩
      rw [← hq] at hXA hqb ⊢
      rw [← hp] at hRA hpb ⊢
      clear hq hp hb0
      go_loopg [5, 8] len (fun kq v5 v8 w' => ∃ (i p : Nat) (L : List Int), kq + i = len ∧ v8 = .int .i64 (i : Int) ∧ v5 = .pointer (some ⟨p, 0, none⟩) ∧ w.heap.size ≤ p ∧ Below w.heap.size w w' ∧ RingAt w' p most L ∧ RefAt w' q most L)
      case atStart => exact ⟨0, p0, [], rfl, rfl, rfl, hpb, hbA, hRA, hXA⟩
      case round =>
        clear hRA hXA hbA hpb
        obtain ⟨i, p, L, hi, rfl, rfl, hpb, hb, hR, hX⟩ := hrel
        cases gk with
        | zero =>
          have hin : ¬ ((i : Int) < (len : Int)) := by omega
          clear hR hX
          go_wp2_with (fail)
          refine (alive_at _).mono ?_
          rintro e w2 ⟨rfl, hb2⟩
          have hb3 := hb.trans (hb2.mono hb.size)
          go_wp2_with (fail)
          go_ret
          exact ⟨rfl, hb3⟩
        | succ k1 =>
          have hin : ((i : Int) < (len : Int)) := by omega
          obtain ⟨xb, xo, rfl, hxb, hx⟩ := ha.at (by decide) i (by omega)
          obtain ⟨t0, c0, d0, rfl, wd0⟩ := hx 0 _ rfl
          obtain ⟨t1, c1, d1, rfl, wd1⟩ := hx 1 _ rfl
          simp only [List.length_cons, List.length_nil, Nat.reduceAdd, Nat.add_zero] at c0 c1
          rw [← hb.cell (p := ⟨_, _, none⟩) hxb] at c0 c1
          clear hx
          go_upto_block 2 with (fail)
          obtain ⟨sb, hsb⟩ : ∃ sb, sb = wr.heap.size := ⟨_, rfl⟩
          have hbs : Below w.heap.size w (wr.alloc (.cells #[.int .i64 d0, .int .i64 d1] 30)) := hb.alloc hb.size _
          have s1 : (wr.alloc (.cells #[.int .i64 d0, .int .i64 d1] 30)).cell? ⟨sb, 1, none⟩ = some (.int .i64 d1) := by rw [hsb]; exact (Blk.new wr 30 [.int .i64 d0, .int .i64 d1]).cell 1
          have hRs := hR.alloc (.cells #[.int .i64 d0, .int .i64 d1] 30)
          have hXs : RefAt (wr.alloc (.cells #[.int .i64 d0, .int .i64 d1] 30)) q most L := ref_same hX (Only.alloc _ _ _)
          have hsp : sb ≠ p := by rw [hsb]; exact Nat.ne_of_gt hR.lt
          have hsq : sb ≠ q := by rw [hsb]; exact Nat.ne_of_gt hX.lt
          have hsl : sb < (wr.alloc (.cells #[.int .i64 d0, .int .i64 d1] 30)).heap.size := by rw [hsb]; simp
          rw [← hsb]
          generalize wr.alloc (.cells #[.int .i64 d0, .int .i64 d1] 30) = W1 at *
          clear hsb hR hX hb c0 c1
          have hfit := hRs.fit
          have hL9 := hid (show L.length ≤ 1000 by omega)
          go_cut [5, 10] (fun v5 v10 wx => ∃ (p : Nat) (L : List Int), v10 = .bool true ∧ v5 = .pointer (some ⟨p, 0, none⟩) ∧ w.heap.size ≤ p ∧ Below w.heap.size w wx ∧ RingAt wx p most L ∧ RefAt wx q most L)
          case first =>
            by_cases hd0 : d0 = 0
            · subst hd0
              by_cases hfull : L.length < most
              · have hRd : RingAt W1.drew p most L := hRs.same rfl
                have hXd : RefAt W1.drew q most L := hXs.drew
                go_wp2_with (fail)
                go_region_held3 (fun w' : World => w'.cell? ⟨sb, 1, none⟩ = some (.int .i64 d1)) (assumption) (first | (go_at_call 10; refine (RingCode.put_at hRd hfull d1).mono ?_; rintro e w2 ⟨rfl, hR2, o2⟩; have hX2 : RefAt w2 q most L := ref_kept hRd hXd o2; have s2 : w2.cell? ⟨sb, 1, none⟩ = some (.int .i64 d1) := (by rw [← s1]; exact cell_same (o2.block sb hsl hsp))) | (go_at_call 18; refine (RefRing.put_at hX2 hfull hL9.out hm8 d1).mono ?_; rintro e w3 ⟨rfl, hX3, o3⟩; have hR3 := ring_kept hR2 hX2 o3; have s3 : w3.cell? ⟨sb, 1, none⟩ = some (.int .i64 d1) := (by rw [← s2]; exact cell_same (o3.block sb (Nat.lt_of_lt_of_le hsl o2.size) hsq))))
                have hb2 := o2.below (⟨hbs.os, hbs.tape, hbs.output, hbs.size, hbs.block⟩ : Below w.heap.size w W1.drew) hbs.size (fun k _ h => by omega)
                have hb3 := o3.below hb2 hb2.size (fun k _ h => by omega)
                go_wp2_with (fail)
                go_meet
                exact ⟨p, (L ++ [d1]), rfl, rfl, hpb, ⟨hb3.os, hb3.tape, hb3.output, hb3.size, hb3.block⟩, hR3, hX3⟩
              · have hL2 := hid (show L.length = most by omega)
                have hRd : RingAt W1.drew p most L := hRs.same rfl
                have hXd : RefAt W1.drew q most L := hXs.drew
                clear hfull
                go_wp2_with (fail)
                go_region_held3 (fun w' : World => w'.cell? ⟨sb, 1, none⟩ = some (.int .i64 d1)) (assumption) (first | (go_at_call 10; refine (RingCode.put_full_at hRd hL2.out d1).mono ?_; rintro e w2 ⟨rfl, hR2, o2⟩; have hX2 : RefAt w2 q most L := ref_same hXd o2; have s2 : w2.cell? ⟨sb, 1, none⟩ = some (.int .i64 d1) := (by rw [← s1]; exact cell_same (o2.block sb hsl id))) | (go_at_call 18; refine (RefRing.put_full_at hX2 hL2.out d1).mono ?_; rintro e w3 ⟨rfl, n3, rfl⟩; have hR3 : RingAt (w2.drewN n3) p most L := hR2.same rfl; have hX3 := hX2.drewN n3; have o3 : Only (fun _ => False) w2 (w2.drewN n3) := Only.drewN _ _ _; have s3 : (w2.drewN n3).cell? ⟨sb, 1, none⟩ = some (.int .i64 d1) := s2))
                have hb2 := o2.below (⟨hbs.os, hbs.tape, hbs.output, hbs.size, hbs.block⟩ : Below w.heap.size w W1.drew) hbs.size (fun k _ h => by exact h.elim)
                have hb3 := o3.below hb2 hb2.size (fun k _ h => by exact h.elim)
                go_wp2_with (fail)
                go_meet
                exact ⟨p, L, rfl, rfl, hpb, ⟨hb3.os, hb3.tape, hb3.output, hb3.size, hb3.block⟩, hR3, hX3⟩
            · by_cases hd1 : d0 = 1
              · subst hd1
                cases L with
                | nil =>
                  go_wp2_with (fail)
                  refine (RingCode.take_none_at hRs).mono ?_
                  rintro e w2 ⟨rfl, rfl⟩
                  go_wp2_with (fail)
                  refine (RefRing.take_none_at hXs).mono ?_
                  rintro e w3 ⟨rfl, rfl⟩
                  go_wp2_with (fail)
                  go_meet
                  exact ⟨p, [], rfl, rfl, hpb, hbs, hRs, hXs⟩
                | cons x r =>
                  have hr := hid (show r.length ≤ 1000 by have := hL9.out; simp at this; omega)
                  go_wp2_with (fail)
                  refine (RingCode.take_at hRs).mono ?_
                  rintro e w2 ⟨rfl, hR2, o2⟩
                  have hX2 := ref_kept hRs hXs o2
                  go_wp2_with (fail)
                  refine (RefRing.take_at hX2 hr.out).mono ?_
                  rintro e w3 ⟨rfl, hX3, o3⟩
                  have hR3 := ring_kept hR2 hX2 o3
                  have hb2 := o2.below hbs hbs.size (fun k _ h => by omega)
                  have hb3 := o3.below hb2 hb2.size (fun k _ h => by omega)
                  go_wp2_with (fail)
                  go_meet
                  exact ⟨p, r, rfl, rfl, hpb, ⟨hb3.os, hb3.tape, hb3.output, hb3.size, hb3.block⟩, hR3, hX3⟩
              · by_cases hd2 : d0 = 2
                · subst hd2
                  by_cases hno : L = [] ∨ L.length < most
                  · have hnoH := hid hno
                    clear hno
                    go_wp2_with (fail)
                    refine (RingCode.swap_none_at hRs hnoH.out d1).mono ?_
                    rintro e w2 ⟨rfl, hR2, o2⟩
                    have hX2 := ref_same hXs o2
                    have s2 : w2.cell? ⟨sb, 1, none⟩ = some (.int .i64 d1) := by rw [← s1]; exact cell_same (o2.block sb hsl id)
                    go_wp2_with (fail)
                    refine (RefRing.swap_none_at hX2 hnoH.out d1).mono ?_
                    rintro e w3 ⟨rfl, n3, rfl⟩
                    have hR3 : RingAt (w2.drewN n3) p most L := hR2.same rfl
                    have hX3 := hX2.drewN n3
                    have o3 : Only (fun _ => False) w2 (w2.drewN n3) := Only.drewN _ _ _
                    have hb2 := o2.below hbs hbs.size (fun k _ h => by exact h.elim)
                    have hb3 := o3.below hb2 hb2.size (fun k _ h => by exact h.elim)
                    go_wp2_with (fail)
                    go_meet
                    exact ⟨p, L, rfl, rfl, hpb, ⟨hb3.os, hb3.tape, hb3.output, hb3.size, hb3.block⟩, hR3, hX3⟩
                  · cases L with
                    | nil => exact absurd (Or.inl rfl) hno
                    | cons x r =>
                      have hfullH := hid (show (x :: r).length = most by
                        rcases Nat.lt_or_ge (x :: r).length most with h | h
                        · exact absurd (Or.inr h) hno
                        · omega)
                      clear hno hfit
                      go_wp2_with (fail)
                      refine (RingCode.swap_at hRs hfullH.out d1).mono ?_
                      rintro e w2 ⟨rfl, hR2, o2⟩
                      have hX2 := ref_kept hRs hXs o2
                      have s2 : w2.cell? ⟨sb, 1, none⟩ = some (.int .i64 d1) := by rw [← s1]; exact cell_same (o2.block sb hsl hsp)
                      go_wp2_with (fail)
                      refine (RefRing.swap_at hX2 hfullH.out hm8 d1).mono ?_
                      rintro e w3 ⟨rfl, hX3, o3⟩
                      have hR3 := ring_kept hR2 hX2 o3
                      have hb2 := o2.below hbs hbs.size (fun k _ h => by omega)
                      have hb3 := o3.below hb2 hb2.size (fun k _ h => by omega)
                      go_wp2_with (fail)
                      go_meet
                      exact ⟨p, (r ++ [d1]), rfl, rfl, hpb, ⟨hb3.os, hb3.tape, hb3.output, hb3.size, hb3.block⟩, hR3, hX3⟩
                · by_cases hd3 : d0 = 3
                  · subst hd3
                    go_wp2_with (fail)
                    refine (copy_at hRs).mono ?_
                    rintro e w2 ⟨rfl, hN2, o2, hs2⟩
                    have hP2 : RingAt w2 p most L := hRs.only o2 id
                    have hX2 := ref_same hXs o2
                    have hpp : W1.heap.size ≠ p := Nat.ne_of_gt hRs.lt
                    have hb2 := o2.below hbs hbs.size (fun k _ h => h.elim)
                    have hpb2 : w.heap.size ≤ W1.heap.size := hbs.size
                    have hpl := hP2.lt
                    generalize W1.heap.size = p2 at hN2 hpp hpb2 ⊢
                    cases L with
                    | nil =>
                      go_wp2_with (fail)
                      refine (RingCode.take_none_at hP2).mono ?_
                      rintro e w3 ⟨rfl, rfl⟩
                      go_wp2_with (fail)
                      by_cases hm0 : most = 0
                      · have hm0H := hid (show ([] : List Int).length = most from hm0.symm)
                        clear hm0
                        refine (RingCode.put_full_at hP2 hm0H.out 99).mono ?_
                        rintro e w4 ⟨rfl, hP4, o4⟩
                        have hb3 := o4.below hb2 hb2.size (fun k _ h => h.elim)
                        have hR3 := hN2.only o4 id
                        have hX3 := ref_same hX2 o4
                        go_wp2_with (fail)
                        go_meet
                        exact ⟨p2, [], rfl, rfl, hpb2, hb3, hR3, hX3⟩
                      · have hm0H := hid (show ([] : List Int).length < most by simp; omega)
                        clear hm0
                        refine (RingCode.put_at hP2 hm0H.out 99).mono ?_
                        rintro e w4 ⟨rfl, hP4, o4⟩
                        have hb3 := o4.below hb2 hb2.size (fun k _ h => by omega)
                        have hR3 := hN2.only o4 hpp
                        have hX3 := ref_kept hP2 hX2 o4
                        go_wp2_with (fail)
                        go_meet
                        exact ⟨p2, [], rfl, rfl, hpb2, hb3, hR3, hX3⟩
                    | cons x r =>
                      have hrm := hid (show r.length < most by simp at hfit; omega)
                      clear hfit
                      go_wp2_with (fail)
                      refine (RingCode.take_at hP2).mono ?_
                      rintro e w3 ⟨rfl, hP3, o3⟩
                      have hX3' := ref_kept hP2 hX2 o3
                      have hN3 := hN2.only o3 hpp
                      have hb2' := o3.below hb2 hb2.size (fun k _ h => by omega)
                      go_wp2_with (fail)
                      refine (RingCode.put_at hP3 hrm.out 99).mono ?_
                      rintro e w4 ⟨rfl, hP4, o4⟩
                      have hb3 := o4.below hb2' hb2'.size (fun k _ h => by omega)
                      have hR3 := hN3.only o4 hpp
                      have hX3 := ref_kept hP3 hX3' o4
                      go_wp2_with (fail)
                      go_meet
                      exact ⟨p2, (x :: r), rfl, rfl, hpb2, hb3, hR3, hX3⟩
                  · go_wp2_with (fail)
                    go_meet
                    exact ⟨p, L, rfl, rfl, hpb, hbs, hRs, hXs⟩
          case rest =>
            clear hRs hXs hbs s1 hsp hsq hsl hpb hfit hL9
            obtain ⟨p, L, rfl, rfl, hpb, hb, hR, hX⟩ := hcut
            cases L with
            | nil =>
              go_wp2_with (fail)
              refine (front_none_at hR).mono ?_
              rintro e wd ⟨rfl, hwd⟩
              subst hwd
              have hX2 := hX
              obtain ⟨v, hB2, hown⟩ := hX2
              obtain ⟨A, c, rfl⟩ := own_form hown
              have c1 : wd.cell? ⟨q, 1, none⟩ = some (.slice A 0 c) := hB2.cell 1
              have hql := hX.lt
              have hLm := hid (show ([] : List Int).length ≤ 140737488355328 by simp)
              have NX : Nums wd .i64 A [] := Nums.nil _ _ _
              have hAl : ∀ y, A = some y → y.block < wd.heap.size := fun y hy => by
                rcases own_cases hown with ⟨h, _⟩ | ⟨g, rfl, _, hgl, _⟩
                · rw [h] at hy; cases hy
                · cases hy; exact hgl
              clear hB2 hown
              go_wp2_with (fail)
              go_region_held3 (fun w' : World => w'.cell? ⟨q, 1, none⟩ = some (.slice A 0 c)) (assumption) (first | (go_at_call 13; refine (RingCode.len_at (L := []) (most := most) ?_).mono ?_; exact hR.same rfl; rintro e w1 ⟨rfl, rfl⟩) | (go_at_call 14; refine (RingCode.cap_at (L := []) (most := most) ?_).mono ?_; exact hR.same rfl; rintro e w1 ⟨rfl, rfl⟩) | (go_at_call 16; refine (list_nums (L := []) (most := most) ?_).mono ?_; exact hR.same rfl; rintro e w1 ⟨Av, cv, rfl, NV, hB⟩; have d1' : w1.cell? ⟨q, 1, none⟩ = some (.slice A 0 c) := (by rw [← c1]; exact cell_same (hB.block q hql))) | (go_at_call 15; refine (Same64.same_eq Av A cv c [] _ ?_ ?_ ?_).mono ?_; exact NV; exact NX.same (fun y hy => hB.block _ (hAl y hy)); exact hLm.out; rintro e w2 ⟨rfl, m2, rfl⟩))
              have hO := Only.none_of_below hB
              have hb3 : Below w.heap.size w w1 := hO.below (⟨hb.os, hb.tape, hb.output, hb.size, hb.block⟩ : Below w.heap.size w wd.drew) hb.size (fun k _ h => h.elim)
              have hR3 : RingAt w1 p most [] := (show RingAt wd.drew p most [] from hR.same rfl).only hO id
              have hX3 : RefAt w1 q most [] := ref_same hX.drew hO
              clear hB hO hR hX NV NX c1 d1'
              go_wp2_with (fail)
              go_roundg k1
              case measure => omega
              case rel => exact ⟨i + 1, p, [], by omega, by go_num, rfl, hpb, ⟨hb3.os, hb3.tape, hb3.output, hb3.size, hb3.block⟩, hR3.same rfl, hX3.drewN _⟩
            | cons x r =>
              go_wp2_with (fail)
              refine (front_at hR).mono ?_
              rintro e wd ⟨rfl, hR, o2⟩
              have hb2 := o2.below hb hb.size (fun k _ h => h.elim)
              have hX2 := ref_same hX o2
              clear hb hX o2
              have hX := hX2
              obtain ⟨v, hB2, hown⟩ := hX2
              obtain ⟨A, c, rfl⟩ := own_form hown
              have c1 : wd.cell? ⟨q, 1, none⟩ = some (.slice A (r.length + 1) c) := hB2.cell 1
              have hql := hX.lt
              have hLm := hid (show (x :: r).length ≤ 140737488355328 by have := hR.fit; omega)
              have NX : Nums wd .i64 A (x :: r) := own_nums hown
              rcases own_cases hown with ⟨_, h0, _⟩ | ⟨g, rfl, _, hgl, hnc⟩
              · simp at h0
              have hAl : ∀ y, (some ⟨g, 0, none⟩ : Option Addr) = some y → y.block < wd.heap.size := fun y hy => by cases hy; exact hgl
              have hAlH := hAl
              have cg : wd.cell? ⟨g, 0, none⟩ = some (.int .i64 x) := by
                obtain ⟨y, h1, h2⟩ := NX.cell 0 (by simp)
                cases h1
                exact h2
              clear hB2 hown hnc hgl
              have hr1 : (0 : Int) < (r.length : Int) + 1 := by omega
              go_wp2_with (fail)
              generalize hA : (some ⟨g, 0, none⟩ : Option Addr) = A at *

              go_region_held3 (fun w' : World => w'.cell? ⟨q, 1, none⟩ = some (.slice A (r.length + 1) c)) (assumption) (first | (go_at_call 13; refine (RingCode.len_at (L := (x :: r)) (most := most) ?_).mono ?_; exact hR.same rfl; rintro e w1 ⟨rfl, rfl⟩) | (go_at_call 14; refine (RingCode.cap_at (L := (x :: r)) (most := most) ?_).mono ?_; exact hR.same rfl; rintro e w1 ⟨rfl, rfl⟩) | (go_at_call 16; refine (list_nums (L := (x :: r)) (most := most) ?_).mono ?_; exact hR.same rfl; rintro e w1 ⟨Av, cv, rfl, NV, hB⟩; have d1' : w1.cell? ⟨q, 1, none⟩ = some (.slice A (r.length + 1) c) := (by rw [← c1]; exact cell_same (hB.block q hql))) | (go_at_call 15; refine (Same64.same_eq Av A cv c (x :: r) _ ?_ ?_ ?_).mono ?_; exact NV; exact NX.same (fun y hy => hB.block _ (hAl y hy)); exact hLm.out; rintro e w2 ⟨rfl, m2, rfl⟩))
              have hO := Only.none_of_below hB
              have hb3 : Below w.heap.size w w1 := hO.below (⟨hb2.os, hb2.tape, hb2.output, hb2.size, hb2.block⟩ : Below w.heap.size w wd.drew) hb2.size (fun k _ h => h.elim)
              have hR3 : RingAt w1 p most (x :: r) := (show RingAt wd.drew p most (x :: r) from hR.same rfl).only hO id
              have hX3 : RefAt w1 q most (x :: r) := ref_same hX.drew hO
              clear hB hO hR hX NV NX c1 d1'
              go_wp2_with (fail)
              go_roundg k1
              case measure => omega
              case rel => exact ⟨i + 1, p, (x :: r), by omega, by go_num, rfl, hpb, ⟨hb3.os, hb3.tape, hb3.output, hb3.size, hb3.block⟩, hR3.same rfl, hX3.drewN _⟩
end Go.Proofs.Ytghbcdpnngheoac.RingPlays
