
/- The walk of SchedTurns. -/
import Derived.Test.YtmhnfcodppfaiafSchedTurn
import Derived.Test.YtmhnfcodppfaiafSameInts
namespace Go.Proofs.Ytmhnfcodppfaiaf.SchedTurns
open Go Go.RowKit Go.Proofs.Ytmhnfcodppfaiaf.Obj Go.Proofs.Ytmhnfcodppfaiaf.FifoCode Go.Proofs.Ytmhnfcodppfaiaf.SchedCode Go.Proofs.Ytmhnfcodppfaiaf.Row Go.Proofs.Ytmhnfcodppfaiaf.Own3 Go.Proofs.YtmhnfcodppfaiafW.PrintWords Go.Proofs.YtmhnfcodppfaiafW.PrintMore
attribute [local go_sem] max2_int max_two max_three
set_option linter.unusedVariables false
set_option maxRecDepth 100000
theorem looked_some {W : World} {x : Int} {r : List Int} {A7 A8 A9 : Option Addr} {k8 k9 c7 c8 c9 : Nat} (hN : Nums W .i64 A7 (x :: r)) : Calls Try.prog 10 #[.int .i64 x, .int .u8 1, .slice A7 (r.length + 1) c7, .slice A8 k8 c8, .slice A9 k9 c9] W fun e w' => e = .returned (.bool true) ∧ w' = W := by
  obtain ⟨g, o, rfl, _, hc⟩ := hN.at 0 (by simp)
  simp only [List.getD_cons_zero, Nat.add_zero] at hc
  have h1 : (0 : Int) < (r.length : Int) + 1 := by omega
  clear hN
  go_enter Try.func10, Try.ntmps10
  go_wp2
  go_ret
  exact ⟨rfl, rfl⟩
theorem looked_none {W : World} {K Y : List Int} {A7 A8 A9 : Option Addr} {c7 c8 c9 : Nat} : Calls Try.prog 10 #[.int .i64 0, .int .u8 (noneC K Y), .slice A7 0 c7, .slice A8 K.length c8, .slice A9 Y.length c9] W fun e w' => e = .returned (.bool true) ∧ w' = W := by
  unfold noneC
  by_cases h1 : 0 < K.length
  · rw [if_pos h1]
    have h1' : (0 : Int) < (K.length : Int) := by omega
    go_enter Try.func10, Try.ntmps10
    go_wp2
    go_ret
    exact ⟨rfl, rfl⟩
  · rw [if_neg h1]
    have h1' : K.length = 0 := by omega
    rw [h1']
    clear h1 h1'
    by_cases h2 : Y.length = 0
    · rw [if_pos h2, h2]
      clear h2
      go_enter Try.func10, Try.ntmps10
      go_wp2
      go_ret
      exact ⟨rfl, rfl⟩
    · rw [if_neg h2]
      have h2' : (0 : Int) < (Y.length : Int) := by omega
      clear h2
      go_enter Try.func10, Try.ntmps10
      go_wp2
      go_ret
      exact ⟨rfl, rfl⟩
theorem modk (v : Int) (n : Nat) (h : 0 < n) : ∃ k : Nat, Value.int .i64 (v % (n : Int)) = .int .i64 (k : Int) ∧ k < n := by
  have h1 := Int.emod_nonneg v (b := (n : Int)) (by omega)
  have h2 := Int.emod_lt_of_pos v (b := (n : Int)) (by omega)
  exact ⟨(v % (n : Int)).toNat, by rw [Int.toNat_of_nonneg h1], by omega⟩
theorem reads_one {W : World} {b : Nat} {y : Int} (h : W.cell? ⟨b, 0, none⟩ = some (.int .i64 y)) : ReadsInt W .i64 (some ⟨b, 0, none⟩) 1 [y] :=
  ⟨rfl, by decide, fun _ => ⟨_, rfl, fun j hj => by
    obtain rfl : j = 0 := by omega
    simpa [Addr.add] using h⟩⟩
theorem Fresh.of_alloc {w w1 : World} {B : Nat} {e : TypeId} {k : IntKind} {v : Value} {xs : List Int} {o : Obj} (h : Fresh (w.alloc o) w1 B e k v xs) : Fresh w w1 B e k v xs :=
  ⟨h.own, (Only.alloc _ w o).trans h.keep, fun g hg => by have := h.new g hg; simp at this; omega⟩
theorem Fresh.to_alloc {w w1 : World} {B : Nat} {e : TypeId} {k : IntKind} {v : Value} {xs : List Int} (h : Fresh w w1 B e k v xs) (o : Obj) : Fresh w (w1.alloc o) B e k v xs :=
  ⟨h.own.alloc _, h.keep.trans (Only.alloc _ _ _), h.new⟩
theorem push_step {w3 : World} {B g o : Nat} {R : List Int} {y : Int} (hB : B ≤ w3.heap.size) (hc : w3.cell? ⟨g, o, none⟩ = some (.int .i64 y)) (hg : g < w3.heap.size) :
    ∀ (W w1 : World) (v1 : Value), w1.ownsRow B 3 1 v1 ([] ++ R).length (nums .i64 ([] ++ R)) → W.grownBy w1 (Value.slice none 0 0).ownBlock → (v1.ownBlock = (Value.slice none 0 0).ownBlock ∨ ∃ b, v1.ownBlock = some b ∧ W.heap.size ≤ b) →
      (W = w3.drewN 1 ∨ W = (w3.drewN 1).alloc (.cells #[.int .i64 y] 3)) →
      Fresh w3 w1 B 3 .i64 v1 R ∧ w1.ownsRow B 3 1 v1 R.length (nums .i64 R) ∧ B ≤ w1.heap.size ∧ w1.cell? ⟨g, o, none⟩ = some (.int .i64 y) ∧ (W = (w3.drewN 1).alloc (.cells #[.int .i64 y] 3) → ReadsInt w1 .i64 (some ⟨w3.heap.size, 0, none⟩) 1 [y]) := fun W w1 v1 ho hgr hat hW => by
  rw [List.nil_append] at ho
  have hf : Fresh W w1 B 3 .i64 v1 R := (Fresh.nil W _ _ _).app ho hgr hat
  have hf3 : Fresh w3 w1 B 3 .i64 v1 R := by
    rcases hW with rfl | rfl
    · exact hf.of_drewN
    · exact (Fresh.of_alloc hf).of_drewN
  refine ⟨hf3, ho, Nat.le_trans hB hf3.keep.size, by rw [← hc]; exact cell_same (hf3.keep.block g hg id), fun e => ?_⟩
  subst e
  refine reads_one ?_
  have h1 := (Blk.new (w3.drewN 1) 3 [.int .i64 y]).cell 0
  simp only [List.getElem?_cons_zero] at h1
  rw [← h1]
  exact cell_same (a := ⟨w3.heap.size, 0, none⟩) (hf.keep.block w3.heap.size (by simp) id)
set_option maxHeartbeats 20000000 in
theorem turns_walk (m : Int) (ad : Option Addr) (len cap : Nat) (w : World) (hm : (Lit.int .u8 m).wf = true) (ha : Obj.Rows w [.int .i64, .int .i64] ad len cap) :
    Calls Try.prog 3 #[.int .u8 m, .slice ad len cap] w fun e w' => e = .returned (.bool true) ∧ Below w.heap.size w w' := by
  obtain ⟨hm0, hm1⟩ := u8_of hm
  by_cases h200 : 200 < len
  · go_enter Try.func3, Try.ntmps3
    go_wp2_with (fail)
    refine (alive_at _).mono ?_
    rintro e w2 ⟨rfl, hb2⟩
    go_wp2_with (fail)
    go_ret
    exact ⟨rfl, hb2⟩
  · go_enter Try.func3, Try.ntmps3
    go_wp2_with (fail)
    obtain ⟨n, hn⟩ : ∃ n : Nat, (1 + m % 32) = (n : Int) := ⟨(1 + m % 32).toNat, by omega⟩
    have hn1 : 1 ≤ n := by omega
    have hn2 : n ≤ 32 := by omega
    have hlen : len ≤ 200 := by omega
    simp only [hn]
    clear hn hm
    refine (new_sched n w hn1 hn2).mono ?_
    rintro e w1 ⟨rfl, h0, hb0⟩
    go_wp2_with (fail)
    go_loopg [7, 8, 9, 10, 11] len (fun kq v7 v8 v9 v10 v11 w' => ∃ (i : Nat) (R K Y : List Int) (E : Nat), kq + i = len ∧ v11 = .int .i64 (i : Int) ∧ v10 = .int .i64 (E : Int) ∧ Own3 w' (w.heap.size + 2) v7 R v8 K v9 Y ∧ SchedAt w' (w.heap.size + 1) w.heap.size (S n R K Y E) ∧ P3 R K Y (R.length + K.length + Y.length + E) ∧ Below w.heap.size w w')
    case atStart => exact ⟨0, [], [], [], 0, rfl, rfl, rfl, Own3.nil _ _, h0, P3.nil, hb0⟩
    case round =>
      clear h0 hb0
      obtain ⟨i, R, K, Y, E, hi, rfl, rfl, hO, hS, hP, hb⟩ := hrel
      cases gk with
      | zero =>
        have hin : ¬ ((i : Int) < (len : Int)) := by omega
        clear hO hS hP
        go_wp2_with (fail)
        refine (alive_at _).mono ?_
        rintro e w2 ⟨rfl, hb2⟩
        have hb3 := hb.trans (hb2.mono hb.size)
        go_wp2_with (fail)
        go_ret
        exact ⟨rfl, hb3⟩
      | succ k1 =>
        have hin : ((i : Int) < (len : Int)) := by omega
        obtain ⟨xb, xo, rfl, hxb, hx⟩ := ha.at (by decide) i (by omega)
        obtain ⟨t0, c0, d0, rfl, wd0⟩ := hx 0 _ rfl
        obtain ⟨t1, c1, d1, rfl, wd1⟩ := hx 1 _ rfl
        simp only [List.length_cons, List.length_nil, Nat.reduceAdd, Nat.add_zero] at c0 c1
        have hcell : ∀ W, Below w.heap.size w W → W.cell? ⟨xb, xo + i * 2, none⟩ = some (.int .i64 d0) := fun W hB => by rw [← c0]; exact hB.cell (p := ⟨_, _, none⟩) hxb
        have hcH := hid hcell
        rw [← hb.cell (p := ⟨_, _, none⟩) hxb] at c0 c1
        have hcap : (len : Int) ≤ (cap : Int) := by
          rcases ha with ⟨h, _⟩ | ⟨_, _, h, _⟩
          · cases h
          · omega
        have hmade : R.length + K.length + Y.length + E ≤ 32 := by
          have h1 : R.length + K.length + Y.length + E ≤ n := hS.ok.made
          omega
        clear hx hcell
        obtain ⟨A7, c7, rfl, hc7⟩ := hO.r.form
        obtain ⟨A8, c8, rfl, hc8⟩ := hO.k.form
        obtain ⟨A9, c9, rfl, hc9⟩ := hO.y.form
        go_upto_if 45 with (fail)
        go_cut [12] (fun v12 wx => ∃ k : Nat, v12 = .int .i64 (k : Int) ∧ (0 < K.length → k < K.length) ∧ ∃ q, wx = wr.drewN q)
        case first =>
          by_cases hK : 0 < K.length
          · have hK' : (0 : Int) < (K.length : Int) := by omega
            go_wp2_with (go_quiet (fail))
            all_goals
              go_meet
              first
              | exact ⟨0, rfl, fun _ => hK, _, rfl⟩
              | (obtain ⟨k, e1, e2⟩ := modk d1 K.length hK; exact ⟨k, e1, fun _ => e2, _, rfl⟩)
              | (obtain ⟨k, e1, e2⟩ := modk (wrap64 (-d1)) K.length hK; exact ⟨k, e1, fun _ => e2, _, rfl⟩)
          · have hK' : ¬ ((0 : Int) < (K.length : Int)) := by omega
            go_wp2_with (fail)
            go_meet
            exact ⟨0, rfl, fun h => absurd h hK, 0, rfl⟩
        case rest =>
          obtain ⟨k, rfl, hk, q, rfl⟩ := hcut
          have hO1 : Own3 (wr.drewN q) (w.heap.size + 2) (.slice A7 R.length c7) R (.slice A8 K.length c8) K (.slice A9 Y.length c9) Y := hO.only (Only.drewN (fun _ => False) _ _) (fun _ _ _ => id)
          have hS1 : SchedAt (wr.drewN q) (w.heap.size + 1) w.heap.size (S n R K Y E) := ⟨hS.blk.same rfl, hS.row.same rfl, hS.ok⟩
          have hb1 : Below w.heap.size w (wr.drewN q) := ⟨hb.os, hb.tape, hb.output, hb.size, hb.block⟩
          have hc0 := hcH.out _ hb1
          generalize wr.drewN q = W1 at *
          clear hO hS hb c0 c1
          have hsz : w.heap.size + 2 ≤ W1.heap.size := by have := hS1.lt; omega
          go_upto_block 2 with (fail)
          go_cut [7, 8, 9, 10] (fun v7 v8 v9 v10 wx => ∃ (R K Y : List Int) (E : Nat), v10 = .int .i64 (E : Int) ∧ Own3 wx (w.heap.size + 2) v7 R v8 K v9 Y ∧ SchedAt wx (w.heap.size + 1) w.heap.size (S n R K Y E) ∧ P3 R K Y (R.length + K.length + Y.length + E) ∧ Below w.heap.size w wx)
          case first =>
            by_cases hd0 : d0 = 0
            · as_aux_lemma =>
              subst hd0
              by_cases hf : R.length + K.length + Y.length + E < n
              · have HM := tmake hS1 hf
                have hP2 := hP.make
                go_wp2_with (fail)
                refine HM.mono ?_
                rintro e w2 ⟨rfl, hS2, o2⟩
                have hO2 := hO1.only o2 (fun g h1 _ h2 => by omega)
                have hb2 := up hb1 (Nat.le_refl _) o2 (fun k h => by omega)
                have hsz2 : w.heap.size + 2 ≤ w2.heap.size := Nat.le_trans hsz o2.size
                have hI2 := hO2.r
                generalize hmk : R.length + K.length + Y.length + E = mk at *
                clear HM hO1 hS1 hb1 o2 hc0
                go_wp2_with (first | ((with_reducible refine gate_builtin (b := .append) (xs := #[.tmp 75, .tmp 77]) rfl ?_); at_builtin; go_loud (refine irow_append (W := w2) (w.heap.size + 2) rfl (.tmp 75) (.tmp 77) 28 3 .i64 8 rfl Try.underlying28 info2 (by decide) (.slice A7 R.length c7) R (mk : Int) rfl rfl hI2 hsz2 (by omega) ?_); intro v1 w3 hI3 hb3 hg3 hat3))
                go_meet
                have hO3 := hO2.growR hI3 hg3 hat3
                have hS3 := hS2.only (Only.of_below hb3) (by omega) (by omega)
                exact ⟨R ++ [(mk : Int)], K, Y, E, rfl, hO3, hS3, by rw [show (R ++ [(mk : Int)]).length + K.length + Y.length + E = mk + 1 by simp; omega]; exact hP2, hb2.trans (hb3.mono (by omega))⟩
              · have HM := make_full hS1 hf
                go_wp2_with (fail)
                refine HM.mono ?_
                rintro e w2 ⟨rfl, q2, rfl⟩
                go_wp2_with (fail)
                go_meet
                exact ⟨R, K, Y, E, rfl, hO1.only (Only.drewN (fun _ => False) _ _) (fun _ _ _ => id), ⟨hS1.blk.same rfl, hS1.row.same rfl, hS1.ok⟩, hP, ⟨hb1.os, hb1.tape, hb1.output, hb1.size, hb1.block⟩⟩
            · by_cases hd1 : d0 = 1
              · as_aux_lemma =>
                subst hd1
                cases R with
                | nil =>
                  have HN := tnone hS1
                  have hw : (noneC K Y == 1) = false := by unfold noneC; split <;> (try split) <;> rfl
                  go_wp2_with (fail)
                  refine HN.mono ?_
                  rintro e w2 ⟨rfl, hB2⟩
                  have hO2 := hO1.below hB2
                  have hS2 := hS1.below hB2
                  have hb2 := hb1.trans (hB2.mono hb1.size)
                  have HL := looked_none (W := w2) (K := K) (Y := Y) (A7 := A7) (A8 := A8) (A9 := A9) (c7 := c7) (c8 := c8) (c9 := c9)
                  generalize noneC K Y = cd at *
                  clear HN hO1 hS1 hb1 hB2
                  go_wp2_with (fail)
                  refine HL.mono ?_
                  rintro e w3 ⟨rfl, rfl⟩
                  go_wp2_with (fail)
                  go_meet
                  exact ⟨[], K, Y, E, rfl, hO2, hS2, hP, hb2⟩
                | cons x r =>
                  have HN := tnext hS1 (by omega)
                  have hP2 := hP.next
                  go_wp2_with (fail)
                  refine HN.mono ?_
                  rintro e w2 ⟨rfl, hS2, o2⟩
                  have hO2 := hO1.only o2 (fun g h1 _ h2 => by omega)
                  have hb2 := up hb1 (Nat.le_refl _) o2 (fun k h => by omega)
                  have hsz2 : w.heap.size + 2 ≤ w2.heap.size := Nat.le_trans hsz o2.size
                  have HL := looked_some (A8 := A8) (A9 := A9) (k8 := K.length) (k9 := Y.length) (c7 := c7) (c8 := c8) (c9 := c9) hO2.r.nums
                  have hI2 := hO2.k
                  obtain ⟨g, o, rfl, _, hgl, hc1, _, _, hcs⟩ := hO2.r.head (by simp)
                  have hr0 : (0 : Int) < (r.length : Int) + 1 := by omega
                  have hlen2 : r.length + (K ++ [x]).length + Y.length + E = (x :: r).length + K.length + Y.length + E := by simp; omega
                  rw [← hlen2] at hP2
                  clear HN hO1 hS1 hb1 o2 hc0 hcs
                  by_cases hc : c7 = 1
                  · subst hc
                    obtain ⟨rfl, hI4⟩ := hO2.r.tail0
                    have hO4 := hO2.partR hI4 (fun g h => h)
                    go_wp2_with (fail)
                    refine HL.mono ?_
                    rintro e w3 ⟨rfl, rfl⟩
                    go_wp2_with (first | ((with_reducible refine gate_builtin (b := .append) (xs := #[.tmp 97, .tmp 99]) rfl ?_); at_builtin; go_loud (refine irow_append (w.heap.size + 2) rfl (.tmp 97) (.tmp 99) 28 3 .i64 8 rfl Try.underlying28 info2 (by decide) (.slice A8 K.length c8) K x rfl rfl hI2 hsz2 (by omega) ?_); intro v1 w3 hI3 hb3 hg3 hat3))
                    go_meet
                    have hO3 := hO4.growK hI3 hg3 hat3
                    have hS3 := hS2.only (Only.of_below hb3) (by omega) (by omega)
                    exact ⟨[], K ++ [x], Y, E, rfl, hO3, hS3, hP2, hb2.trans (hb3.mono (by omega))⟩
                  · have hI4 := hO2.r.tail1 hc
                    have hO4 := hO2.partR hI4 (fun g h => h)
                    go_wp2_with (fail)
                    refine HL.mono ?_
                    rintro e w3 ⟨rfl, rfl⟩
                    go_wp2_with (first | ((with_reducible refine gate_builtin (b := .append) (xs := #[.tmp 97, .tmp 99]) rfl ?_); at_builtin; go_loud (refine irow_append (w.heap.size + 2) rfl (.tmp 97) (.tmp 99) 28 3 .i64 8 rfl Try.underlying28 info2 (by decide) (.slice A8 K.length c8) K x rfl rfl hI2 hsz2 (by omega) ?_); intro v1 w3 hI3 hb3 hg3 hat3))
                    go_meet
                    have hO3 := hO4.growK hI3 hg3 hat3
                    have hS3 := hS2.only (Only.of_below hb3) (by omega) (by omega)
                    exact ⟨r, K ++ [x], Y, E, rfl, hO3, hS3, hP2, hb2.trans (hb3.mono (by omega))⟩
              · by_cases hd3 : d0 = 3
                · as_aux_lemma =>
                  subst hd3
                  by_cases hK0 : K.length = 0
                  · obtain rfl : K = [] := List.length_eq_zero_iff.1 hK0
                    clear hK0
                    go_wp2_with (fail)
                    go_meet
                    exact ⟨R, [], Y, E, rfl, hO1, hS1, hP, hb1⟩
                  · have hKp : 0 < K.length := by omega
                    have hkl := hk hKp
                    have hn0 : ((K.length : Int) == 0) = false := beq_eq_false_iff_ne.2 (by omega)
                    obtain ⟨g, o, rfl, hg2, hgl, hc80, _, _, hcs⟩ := hO1.k.head hKp
                    obtain ⟨x, hx⟩ : ∃ x, K[k]? = some x := ⟨_, List.getElem?_eq_getElem hkl⟩
                    have hcx := hcs k hkl
                    rw [show K.getD k 0 = x by simp [List.getD, hx]] at hcx
                    have pk := hid (perm_at hx)
                    have lk := hid (len_at hx)
                    have hki : (k : Int) < (K.length : Int) := by omega
                    have hrd := reads_of hO1.k
                    have hrT := hrd.take_ k (by omega)
                    have hrD := hrd.drop_ (k + 1) (by omega) hc8
                    have hK32 : K.length ≤ 32 := by omega
                    clear hcs hx hk hK0
                    go_upto_region 31 with (fail)
                    go_cut [8] (fun v8 wx => Fresh W1 wx (w.heap.size + 2) 3 .i64 v8 (K.take k ++ K.drop (k + 1)))
                    case first =>
                      have step1 : ∀ (w1 : World) (v1 : Value), w1.ownsRow (w.heap.size + 2) 3 1 v1 ([] ++ K.take k).length (nums .i64 ([] ++ K.take k)) → (W1.drewN 1).grownBy w1 (Value.slice none 0 0).ownBlock → (v1.ownBlock = (Value.slice none 0 0).ownBlock ∨ ∃ b, v1.ownBlock = some b ∧ (W1.drewN 1).heap.size ≤ b) →
                          Fresh W1 w1 (w.heap.size + 2) 3 .i64 v1 (K.take k) ∧ w1.ownsRow (w.heap.size + 2) 3 1 v1 (K.take k).length (nums .i64 (K.take k)) ∧ w.heap.size + 2 ≤ w1.heap.size ∧ Below W1.heap.size W1 w1 := fun w1 v1 ho hg hat => by
                        have hf := ((Fresh.nil (W1.drewN 1) _ _ _).app ho hg hat).of_drewN
                        exact ⟨hf, by simpa using ho, Nat.le_trans hsz hf.keep.size, ⟨hf.keep.os, hf.keep.tape, hf.keep.output, hf.keep.size, fun k hk => hf.keep.block k hk id⟩⟩
                      have st1 := hid step1
                      clear step1
                      have b0 : (0 : Int) ≤ (k : Int) := by omega
                      have b2 : (0 : Int) ≤ (k : Int) + 1 := by omega
                      by_cases hc : c8 = k + 1
                      · simp only [if_pos hc] at hrD
                        subst hc
                        have hLl : K.length = k + 1 := by omega
                        rw [hLl] at hrD
                        simp only [Nat.sub_self] at hrD
                        have bb : (k : Int) ≤ (k : Int) + 1 := by omega
                        have bw : IntKind.i64.wrap ((k : Int) + 1) = (k : Int) + 1 := IntWalk.i64_in _ (by omega)
                        go_region_held3 (fun w' : World => True) (exact trivial) (first | (refine rows_step (w.heap.size + 2) (by simp [Region.wanted]) (.const (Value.slice none 0 0)) (.tmp 114) 28 3 .i64 8 (by rfl) Try.underlying28 info2 (by decide) (.slice none 0 0) [] (K.take k) (some ⟨g, o, none⟩) k (k + 1) (by rfl) (by rfl) (own_nil _ _ _ _) (hrT.drewN 1) hsz (by simp; omega) ?_; intro v1 w1' ho hg hat; obtain ⟨hf1, ho1, hq2, hB1⟩ := st1.out w1' v1 ho hg hat; have hrD1 := hrD.below hB1; clear ho hg hat) | (refine rows_step (w.heap.size + 2) (by simp [Region.wanted]) (.tmp 115) (.tmp 119) 28 3 .i64 8 (by rfl) Try.underlying28 info2 (by decide) v1 (K.take k) (K.drop (k + 1)) (some ⟨g, o, none⟩) 0 0 (by rfl) (by rfl) ho1 hrD1 hq2 (by simp; omega) ?_; intro v2 w2' ho2 hg2 hat2; have hf2 := hf1.app ho2 hg2 hat2))
                        all_goals clear bw
                        all_goals go_wp2
                        all_goals go_meet
                        all_goals exact hf2
                      · simp only [if_neg hc, Option.map_some, Addr.add, Nat.add_eq_zero_iff, Nat.one_ne_zero, and_false, if_false] at hrD
                        have b1 : (k : Int) ≤ (c8 : Int) := by omega
                        have b3 : (k : Int) + 1 ≤ (K.length : Int) := by omega
                        have b4 : (k : Int) ≤ (K.length : Int) := by omega
                        have b5 : (K.length : Int) ≤ (c8 : Int) := by omega
                        have b6 : (k : Int) + 1 ≤ (c8 : Int) := by omega
                        have bw : IntKind.i64.wrap ((k : Int) + 1) = (k : Int) + 1 := IntWalk.i64_in _ (by omega)
                        go_region_held3 (fun w' : World => True) (exact trivial) (first | (refine rows_step (w.heap.size + 2) (by simp [Region.wanted]) (.const (Value.slice none 0 0)) (.tmp 114) 28 3 .i64 8 (by rfl) Try.underlying28 info2 (by decide) (.slice none 0 0) [] (K.take k) (some ⟨g, o, none⟩) k c8 (by rfl) (by rfl) (own_nil _ _ _ _) (hrT.drewN 1) hsz (by simp; omega) ?_; intro v1 w1' ho hg hat; obtain ⟨hf1, ho1, hq2, hB1⟩ := st1.out w1' v1 ho hg hat; have hrD1 := hrD.below hB1; clear ho hg hat) | (refine rows_step (w.heap.size + 2) (by simp [Region.wanted]) (.tmp 115) (.tmp 119) 28 3 .i64 8 (by rfl) Try.underlying28 info2 (by decide) v1 (K.take k) (K.drop (k + 1)) (some ⟨g, o + (k + 1), none⟩) (K.length - (k + 1)) (c8 - (k + 1)) (by rfl) (by rfl) ho1 hrD1 hq2 (by simp; omega) ?_; intro v2 w2' ho2 hg2 hat2; have hf2 := hf1.app ho2 hg2 hat2))
                        all_goals clear bw
                        all_goals go_wp2
                        all_goals go_meet
                        all_goals exact hf2
                    case rest =>
                      obtain ⟨K', hK'⟩ : ∃ K', K.take k ++ K.drop (k + 1) = K' := ⟨_, rfl⟩
                      rw [hK'] at pk lk hcut
                      have hO2 := hO1.freshK hcut
                      have hB2 : Below W1.heap.size W1 wc := ⟨hcut.keep.os, hcut.keep.tape, hcut.keep.output, hcut.keep.size, fun k hk => hcut.keep.block k hk id⟩
                      have hS2 : SchedAt wc (w.heap.size + 1) w.heap.size (S n R K Y E) := hS1.below hB2
                      have hb2 := hb1.trans (hB2.mono hb1.size)
                      have hc2 := hcH.out _ hb2
                      have hsz2 : w.heap.size + 2 ≤ wc.heap.size := Nat.le_trans hsz hB2.size
                      have hKl := lk.out
                      have hmade2 : R.length + K.length + Y.length + E ≤ 32 := hmade
                      clear hO1 hS1 hb1 hB2 hc0 hcx hrd hrT hrD hK' hcut
                      have HB := tback hS2 hP pk.out
                      have hP2 := hP.back pk.out
                      rw [show R.length + K.length + Y.length + E = (R ++ [x]).length + K'.length + Y.length + E by simp; omega] at hP2
                      go_wp2_with (fail)
                      refine HB.mono ?_
                      rintro e w3 ⟨rfl, hS3, o3⟩
                      have hO3 := hO2.only o3 (fun g h1 _ h2 => by omega)
                      have hb3 := up hb2 (Nat.le_refl _) o3 (fun k h => by omega)
                      have hszA : w.heap.size + 2 ≤ w3.heap.size := Nat.le_trans hsz2 o3.size
                      have hrR := reads_of hO3.r
                      clear HB hO2 hS2 hb2 o3 hc2
                      go_wp2_with (first | ((with_reducible refine gate_builtin (b := .append) (xs := #[.const (Value.slice none 0 0), .tmp 135]) rfl ?_); at_builtin; go_loud (refine print_append_row (w0 := w3) (w.heap.size + 2) rfl (.const (Value.slice none 0 0)) (.tmp 135) 28 3 .i64 8 rfl Try.underlying28 info2 (by decide) (.slice none 0 0) [] R A7 R.length c7 rfl rfl (own_nil _ _ _ _) hrR (Below.refl _ _) hszA (by simp; omega) ?_); intro vA wA hoA hbA hgA hatA; simp only [List.nil_append] at hoA; have hfA := (Fresh.nil _ _ _ _).app hoA hgA hatA; have hszB : w.heap.size + 2 ≤ wA.heap.size := Nat.le_trans hszA hbA.size; obtain ⟨AA, cA, rfl⟩ := own_form hoA) | ((with_reducible refine gate_builtin (b := .append) (xs := #[.tmp 136, .tmp 138]) rfl ?_); at_builtin; go_loud (refine print_append_cells (w0 := wA) (w.heap.size + 2) rfl (.tmp 136) (.tmp 138) 28 3 (.int .i64 0) 1 8 rfl Try.underlying28 info2 rfl (by decide) (by decide) (.slice AA R.length cA) R.length (nums .i64 R) [.int .i64 x] rfl rfl rfl (by simp [Value.oneCell']) hoA (Below.refl _ _) hszB (by omega) ?_); intro vB wB hoB hbB hgB hatB; have hfB := hfA.app (zs := R ++ [x]) (by rw [List.length_append, nums_append]; exact hoB) hgB hatB))
                      go_meet
                      have hO4 := hO3.freshR hfB
                      have hB4 : Below w3.heap.size w3 wB := ⟨hfB.keep.os, hfB.keep.tape, hfB.keep.output, hfB.keep.size, fun k hk => hfB.keep.block k hk id⟩
                      exact ⟨R ++ [x], K', Y, E, rfl, hO4, hS3.below hB4, hP2, hb3.trans (hB4.mono hb3.size)⟩
                · by_cases hd4 : d0 = 4
                  · as_aux_lemma =>
                    subst hd4
                    by_cases hK0 : K.length = 0
                    · obtain rfl : K = [] := List.length_eq_zero_iff.1 hK0
                      clear hK0
                      go_wp2_with (fail)
                      go_meet
                      exact ⟨R, [], Y, E, rfl, hO1, hS1, hP, hb1⟩
                    · have hKp : 0 < K.length := by omega
                      have hkl := hk hKp
                      have hn0 : ((K.length : Int) == 0) = false := beq_eq_false_iff_ne.2 (by omega)
                      obtain ⟨g, o, rfl, hg2, hgl, hc80, _, _, hcs⟩ := hO1.k.head hKp
                      obtain ⟨x, hx⟩ : ∃ x, K[k]? = some x := ⟨_, List.getElem?_eq_getElem hkl⟩
                      have hcx := hcs k hkl
                      rw [show K.getD k 0 = x by simp [List.getD, hx]] at hcx
                      have pk := hid (perm_at hx)
                      have lk := hid (len_at hx)
                      have hki : (k : Int) < (K.length : Int) := by omega
                      have hrd := reads_of hO1.k
                      have hrT := hrd.take_ k (by omega)
                      have hrD := hrd.drop_ (k + 1) (by omega) hc8
                      have hK32 : K.length ≤ 32 := by omega
                      clear hcs hx hk hK0
                      go_upto_region 31 with (fail)
                      go_cut [8] (fun v8 wx => Fresh W1 wx (w.heap.size + 2) 3 .i64 v8 (K.take k ++ K.drop (k + 1)))
                      case first =>
                        have step1 : ∀ (w1 : World) (v1 : Value), w1.ownsRow (w.heap.size + 2) 3 1 v1 ([] ++ K.take k).length (nums .i64 ([] ++ K.take k)) → (W1.drewN 1).grownBy w1 (Value.slice none 0 0).ownBlock → (v1.ownBlock = (Value.slice none 0 0).ownBlock ∨ ∃ b, v1.ownBlock = some b ∧ (W1.drewN 1).heap.size ≤ b) →
                            Fresh W1 w1 (w.heap.size + 2) 3 .i64 v1 (K.take k) ∧ w1.ownsRow (w.heap.size + 2) 3 1 v1 (K.take k).length (nums .i64 (K.take k)) ∧ w.heap.size + 2 ≤ w1.heap.size ∧ Below W1.heap.size W1 w1 := fun w1 v1 ho hg hat => by
                          have hf := ((Fresh.nil (W1.drewN 1) _ _ _).app ho hg hat).of_drewN
                          exact ⟨hf, by simpa using ho, Nat.le_trans hsz hf.keep.size, ⟨hf.keep.os, hf.keep.tape, hf.keep.output, hf.keep.size, fun k hk => hf.keep.block k hk id⟩⟩
                        have st1 := hid step1
                        clear step1
                        have b0 : (0 : Int) ≤ (k : Int) := by omega
                        have b2 : (0 : Int) ≤ (k : Int) + 1 := by omega
                        by_cases hc : c8 = k + 1
                        · simp only [if_pos hc] at hrD
                          subst hc
                          have hLl : K.length = k + 1 := by omega
                          rw [hLl] at hrD
                          simp only [Nat.sub_self] at hrD
                          have bb : (k : Int) ≤ (k : Int) + 1 := by omega
                          have bw : IntKind.i64.wrap ((k : Int) + 1) = (k : Int) + 1 := IntWalk.i64_in _ (by omega)
                          go_region_held3 (fun w' : World => True) (exact trivial) (first | (refine rows_step (w.heap.size + 2) (by simp [Region.wanted]) (.const (Value.slice none 0 0)) (.tmp 114) 28 3 .i64 8 (by rfl) Try.underlying28 info2 (by decide) (.slice none 0 0) [] (K.take k) (some ⟨g, o, none⟩) k (k + 1) (by rfl) (by rfl) (own_nil _ _ _ _) (hrT.drewN 1) hsz (by simp; omega) ?_; intro v1 w1' ho hg hat; obtain ⟨hf1, ho1, hq2, hB1⟩ := st1.out w1' v1 ho hg hat; have hrD1 := hrD.below hB1; clear ho hg hat) | (refine rows_step (w.heap.size + 2) (by simp [Region.wanted]) (.tmp 115) (.tmp 119) 28 3 .i64 8 (by rfl) Try.underlying28 info2 (by decide) v1 (K.take k) (K.drop (k + 1)) (some ⟨g, o, none⟩) 0 0 (by rfl) (by rfl) ho1 hrD1 hq2 (by simp; omega) ?_; intro v2 w2' ho2 hg2 hat2; have hf2 := hf1.app ho2 hg2 hat2))
                          all_goals clear bw
                          all_goals go_wp2
                          all_goals go_meet
                          all_goals exact hf2
                        · simp only [if_neg hc, Option.map_some, Addr.add, Nat.add_eq_zero_iff, Nat.one_ne_zero, and_false, if_false] at hrD
                          have b1 : (k : Int) ≤ (c8 : Int) := by omega
                          have b3 : (k : Int) + 1 ≤ (K.length : Int) := by omega
                          have b4 : (k : Int) ≤ (K.length : Int) := by omega
                          have b5 : (K.length : Int) ≤ (c8 : Int) := by omega
                          have b6 : (k : Int) + 1 ≤ (c8 : Int) := by omega
                          have bw : IntKind.i64.wrap ((k : Int) + 1) = (k : Int) + 1 := IntWalk.i64_in _ (by omega)
                          go_region_held3 (fun w' : World => True) (exact trivial) (first | (refine rows_step (w.heap.size + 2) (by simp [Region.wanted]) (.const (Value.slice none 0 0)) (.tmp 114) 28 3 .i64 8 (by rfl) Try.underlying28 info2 (by decide) (.slice none 0 0) [] (K.take k) (some ⟨g, o, none⟩) k c8 (by rfl) (by rfl) (own_nil _ _ _ _) (hrT.drewN 1) hsz (by simp; omega) ?_; intro v1 w1' ho hg hat; obtain ⟨hf1, ho1, hq2, hB1⟩ := st1.out w1' v1 ho hg hat; have hrD1 := hrD.below hB1; clear ho hg hat) | (refine rows_step (w.heap.size + 2) (by simp [Region.wanted]) (.tmp 115) (.tmp 119) 28 3 .i64 8 (by rfl) Try.underlying28 info2 (by decide) v1 (K.take k) (K.drop (k + 1)) (some ⟨g, o + (k + 1), none⟩) (K.length - (k + 1)) (c8 - (k + 1)) (by rfl) (by rfl) ho1 hrD1 hq2 (by simp; omega) ?_; intro v2 w2' ho2 hg2 hat2; have hf2 := hf1.app ho2 hg2 hat2))
                          all_goals clear bw
                          all_goals go_wp2
                          all_goals go_meet
                          all_goals exact hf2
                      case rest =>
                        obtain ⟨K', hK'⟩ : ∃ K', K.take k ++ K.drop (k + 1) = K' := ⟨_, rfl⟩
                        rw [hK'] at pk lk hcut
                        have hO2 := hO1.freshK hcut
                        have hB2 : Below W1.heap.size W1 wc := ⟨hcut.keep.os, hcut.keep.tape, hcut.keep.output, hcut.keep.size, fun k hk => hcut.keep.block k hk id⟩
                        have hS2 : SchedAt wc (w.heap.size + 1) w.heap.size (S n R K Y E) := hS1.below hB2
                        have hb2 := hb1.trans (hB2.mono hb1.size)
                        have hc2 := hcH.out _ hb2
                        have hsz2 : w.heap.size + 2 ≤ wc.heap.size := Nat.le_trans hsz hB2.size
                        have hKl := lk.out
                        have hmade2 : R.length + K.length + Y.length + E ≤ 32 := hmade
                        clear hO1 hS1 hb1 hB2 hc0 hcx hrd hrT hrD hK' hcut
                        have HB := tleave hS2 pk.out
                        have hP2 := hP.leave pk.out
                        rw [show R.length + K.length + Y.length + E = R.length + K'.length + (Y ++ [x]).length + E by simp; omega] at hP2
                        go_wp2_with (fail)
                        refine HB.mono ?_
                        rintro e w3 ⟨rfl, hS3, o3⟩
                        have hO3 := hO2.only o3 (fun g h1 _ h2 => by omega)
                        have hb3 := up hb2 (Nat.le_refl _) o3 (fun k h => by omega)
                        have hszA : w.heap.size + 2 ≤ w3.heap.size := Nat.le_trans hsz2 o3.size
                        have hrR := reads_of hO3.y
                        clear HB hO2 hS2 hb2 o3 hc2
                        go_wp2_with (first | ((with_reducible refine gate_builtin (b := .append) (xs := #[.const (Value.slice none 0 0), .tmp 144]) rfl ?_); at_builtin; go_loud (refine print_append_row (w0 := w3) (w.heap.size + 2) rfl (.const (Value.slice none 0 0)) (.tmp 144) 28 3 .i64 8 rfl Try.underlying28 info2 (by decide) (.slice none 0 0) [] Y A9 Y.length c9 rfl rfl (own_nil _ _ _ _) hrR (Below.refl _ _) hszA (by simp; omega) ?_); intro vA wA hoA hbA hgA hatA; simp only [List.nil_append] at hoA; have hfA := (Fresh.nil _ _ _ _).app hoA hgA hatA; have hszB : w.heap.size + 2 ≤ wA.heap.size := Nat.le_trans hszA hbA.size; obtain ⟨AA, cA, rfl⟩ := own_form hoA) | ((with_reducible refine gate_builtin (b := .append) (xs := #[.tmp 145, .tmp 147]) rfl ?_); at_builtin; go_loud (refine print_append_cells (w0 := wA) (w.heap.size + 2) rfl (.tmp 145) (.tmp 147) 28 3 (.int .i64 0) 1 8 rfl Try.underlying28 info2 rfl (by decide) (by decide) (.slice AA Y.length cA) Y.length (nums .i64 Y) [.int .i64 x] rfl rfl rfl (by simp [Value.oneCell']) hoA (Below.refl _ _) hszB (by omega) ?_); intro vB wB hoB hbB hgB hatB; have hfB := hfA.app (zs := Y ++ [x]) (by rw [List.length_append, nums_append]; exact hoB) hgB hatB))
                        go_meet
                        have hO4 := hO3.freshY hfB
                        have hB4 : Below w3.heap.size w3 wB := ⟨hfB.keep.os, hfB.keep.tape, hfB.keep.output, hfB.keep.size, fun k hk => hfB.keep.block k hk id⟩
                        exact ⟨R, K', Y ++ [x], E, rfl, hO4, hS3.below hB4, hP2, hb3.trans (hB4.mono hb3.size)⟩
                  · by_cases hd5 : d0 = 5
                    · as_aux_lemma =>
                      subst hd5
                      by_cases hK0 : K.length = 0
                      · obtain rfl : K = [] := List.length_eq_zero_iff.1 hK0
                        clear hK0
                        go_wp2_with (fail)
                        go_meet
                        exact ⟨R, [], Y, E, rfl, hO1, hS1, hP, hb1⟩
                      · have hKp : 0 < K.length := by omega
                        have hkl := hk hKp
                        have hn0 : ((K.length : Int) == 0) = false := beq_eq_false_iff_ne.2 (by omega)
                        obtain ⟨g, o, rfl, hg2, hgl, hc80, _, _, hcs⟩ := hO1.k.head hKp
                        obtain ⟨x, hx⟩ : ∃ x, K[k]? = some x := ⟨_, List.getElem?_eq_getElem hkl⟩
                        have hcx := hcs k hkl
                        rw [show K.getD k 0 = x by simp [List.getD, hx]] at hcx
                        have pk := hid (perm_at hx)
                        have lk := hid (len_at hx)
                        have hki : (k : Int) < (K.length : Int) := by omega
                        have hrd := reads_of hO1.k
                        have hrT := hrd.take_ k (by omega)
                        have hrD := hrd.drop_ (k + 1) (by omega) hc8
                        have hK32 : K.length ≤ 32 := by omega
                        clear hcs hx hk hK0
                        go_upto_region 31 with (fail)
                        go_cut [8] (fun v8 wx => Fresh W1 wx (w.heap.size + 2) 3 .i64 v8 (K.take k ++ K.drop (k + 1)))
                        case first =>
                          have step1 : ∀ (w1 : World) (v1 : Value), w1.ownsRow (w.heap.size + 2) 3 1 v1 ([] ++ K.take k).length (nums .i64 ([] ++ K.take k)) → (W1.drewN 1).grownBy w1 (Value.slice none 0 0).ownBlock → (v1.ownBlock = (Value.slice none 0 0).ownBlock ∨ ∃ b, v1.ownBlock = some b ∧ (W1.drewN 1).heap.size ≤ b) →
                              Fresh W1 w1 (w.heap.size + 2) 3 .i64 v1 (K.take k) ∧ w1.ownsRow (w.heap.size + 2) 3 1 v1 (K.take k).length (nums .i64 (K.take k)) ∧ w.heap.size + 2 ≤ w1.heap.size ∧ Below W1.heap.size W1 w1 := fun w1 v1 ho hg hat => by
                            have hf := ((Fresh.nil (W1.drewN 1) _ _ _).app ho hg hat).of_drewN
                            exact ⟨hf, by simpa using ho, Nat.le_trans hsz hf.keep.size, ⟨hf.keep.os, hf.keep.tape, hf.keep.output, hf.keep.size, fun k hk => hf.keep.block k hk id⟩⟩
                          have st1 := hid step1
                          clear step1
                          have b0 : (0 : Int) ≤ (k : Int) := by omega
                          have b2 : (0 : Int) ≤ (k : Int) + 1 := by omega
                          by_cases hc : c8 = k + 1
                          · simp only [if_pos hc] at hrD
                            subst hc
                            have hLl : K.length = k + 1 := by omega
                            rw [hLl] at hrD
                            simp only [Nat.sub_self] at hrD
                            have bb : (k : Int) ≤ (k : Int) + 1 := by omega
                            have bw : IntKind.i64.wrap ((k : Int) + 1) = (k : Int) + 1 := IntWalk.i64_in _ (by omega)
                            go_region_held3 (fun w' : World => True) (exact trivial) (first | (refine rows_step (w.heap.size + 2) (by simp [Region.wanted]) (.const (Value.slice none 0 0)) (.tmp 114) 28 3 .i64 8 (by rfl) Try.underlying28 info2 (by decide) (.slice none 0 0) [] (K.take k) (some ⟨g, o, none⟩) k (k + 1) (by rfl) (by rfl) (own_nil _ _ _ _) (hrT.drewN 1) hsz (by simp; omega) ?_; intro v1 w1' ho hg hat; obtain ⟨hf1, ho1, hq2, hB1⟩ := st1.out w1' v1 ho hg hat; have hrD1 := hrD.below hB1; clear ho hg hat) | (refine rows_step (w.heap.size + 2) (by simp [Region.wanted]) (.tmp 115) (.tmp 119) 28 3 .i64 8 (by rfl) Try.underlying28 info2 (by decide) v1 (K.take k) (K.drop (k + 1)) (some ⟨g, o, none⟩) 0 0 (by rfl) (by rfl) ho1 hrD1 hq2 (by simp; omega) ?_; intro v2 w2' ho2 hg2 hat2; have hf2 := hf1.app ho2 hg2 hat2))
                            all_goals clear bw
                            all_goals go_wp2
                            all_goals go_meet
                            all_goals exact hf2
                          · simp only [if_neg hc, Option.map_some, Addr.add, Nat.add_eq_zero_iff, Nat.one_ne_zero, and_false, if_false] at hrD
                            have b1 : (k : Int) ≤ (c8 : Int) := by omega
                            have b3 : (k : Int) + 1 ≤ (K.length : Int) := by omega
                            have b4 : (k : Int) ≤ (K.length : Int) := by omega
                            have b5 : (K.length : Int) ≤ (c8 : Int) := by omega
                            have b6 : (k : Int) + 1 ≤ (c8 : Int) := by omega
                            have bw : IntKind.i64.wrap ((k : Int) + 1) = (k : Int) + 1 := IntWalk.i64_in _ (by omega)
                            go_region_held3 (fun w' : World => True) (exact trivial) (first | (refine rows_step (w.heap.size + 2) (by simp [Region.wanted]) (.const (Value.slice none 0 0)) (.tmp 114) 28 3 .i64 8 (by rfl) Try.underlying28 info2 (by decide) (.slice none 0 0) [] (K.take k) (some ⟨g, o, none⟩) k c8 (by rfl) (by rfl) (own_nil _ _ _ _) (hrT.drewN 1) hsz (by simp; omega) ?_; intro v1 w1' ho hg hat; obtain ⟨hf1, ho1, hq2, hB1⟩ := st1.out w1' v1 ho hg hat; have hrD1 := hrD.below hB1; clear ho hg hat) | (refine rows_step (w.heap.size + 2) (by simp [Region.wanted]) (.tmp 115) (.tmp 119) 28 3 .i64 8 (by rfl) Try.underlying28 info2 (by decide) v1 (K.take k) (K.drop (k + 1)) (some ⟨g, o + (k + 1), none⟩) (K.length - (k + 1)) (c8 - (k + 1)) (by rfl) (by rfl) ho1 hrD1 hq2 (by simp; omega) ?_; intro v2 w2' ho2 hg2 hat2; have hf2 := hf1.app ho2 hg2 hat2))
                            all_goals clear bw
                            all_goals go_wp2
                            all_goals go_meet
                            all_goals exact hf2
                        case rest =>
                          obtain ⟨K', hK'⟩ : ∃ K', K.take k ++ K.drop (k + 1) = K' := ⟨_, rfl⟩
                          rw [hK'] at pk lk hcut
                          have hO2 := hO1.freshK hcut
                          have hB2 : Below W1.heap.size W1 wc := ⟨hcut.keep.os, hcut.keep.tape, hcut.keep.output, hcut.keep.size, fun k hk => hcut.keep.block k hk id⟩
                          have hS2 : SchedAt wc (w.heap.size + 1) w.heap.size (S n R K Y E) := hS1.below hB2
                          have hb2 := hb1.trans (hB2.mono hb1.size)
                          have hc2 := hcH.out _ hb2
                          have hsz2 : w.heap.size + 2 ≤ wc.heap.size := Nat.le_trans hsz hB2.size
                          have hKl := lk.out
                          have hmade2 : R.length + K.length + Y.length + E ≤ 32 := hmade
                          clear hO1 hS1 hb1 hB2 hc0 hcx hrd hrT hrD hK' hcut
                          have HB := tend hS2 pk.out
                          have hP2 := hP.ended pk.out
                          rw [show R.length + K.length + Y.length + E = R.length + K'.length + Y.length + (E + 1) by omega] at hP2
                          go_wp2_with (fail)
                          refine HB.mono ?_
                          rintro e w3 ⟨rfl, hS3, o3⟩
                          have hO3 := hO2.only o3 (fun g h1 _ h2 => by omega)
                          have hb3 := up hb2 (Nat.le_refl _) o3 (fun k h => by omega)
                          clear HB hO2 hS2 hb2 o3 hc2
                          go_wp2_with (fail)
                          go_meet
                          exact ⟨R, K', Y, E + 1, by go_num, hO3, hS3, hP2, hb3⟩
                    · by_cases hd2 : d0 = 2
                      · as_aux_lemma =>
                        subst hd2
                        cases Y with
                        | nil =>
                          go_wp2_with (fail)
                          go_meet
                          exact ⟨R, K, [], E, rfl, hO1, hS1, hP, hb1⟩
                        | cons y ys =>
                          have HB := tpush hS1 hP
                          have hP2 := hP.push
                          have hlen2 : (R ++ [y]).length + K.length + ys.length + E = R.length + K.length + (y :: ys).length + E := by simp; omega
                          rw [← hlen2] at hP2
                          obtain ⟨g, o, rfl, hg2, hgl, hc90, _, hnc, hcs⟩ := hO1.y.head (by simp)
                          have hcy := hcs 0 (by simp)
                          simp only [List.getD_cons_zero, Nat.add_zero] at hcy
                          have hy0 : (0 : Int) < (ys.length : Int) + 1 := by omega
                          clear hcs hlen2 hc0
                          go_wp2_with (fail)
                          refine HB.mono ?_
                          rintro e w3 ⟨rfl, hS3, o3⟩
                          have hO3 := hO1.only o3 (fun g h1 _ h2 => by omega)
                          have hb3 := up hb1 (Nat.le_refl _) o3 (fun k h => by omega)
                          have hszA : w.heap.size + 2 ≤ w3.heap.size := Nat.le_trans hsz o3.size
                          have hcy3 : w3.cell? ⟨g, o, none⟩ = some (.int .i64 y) := by rw [← hcy]; exact cell_same (o3.block g hgl (by omega))
                          have hgl3 : g < w3.heap.size := Nat.lt_of_lt_of_le hgl o3.size
                          have hrR := (reads_of hO3.r).drewN 1
                          have hrR2 := hrR.below ((Below.refl _ _).alloc (Nat.le_refl _) (.cells #[.int .i64 y] 3))
                          have st1 := hid (push_step (w3 := w3) (B := w.heap.size + 2) (R := R) hszA hcy3 hgl3)
                          have hR32 : R.length ≤ 32 := by omega
                          have hyI := hO3.y
                          have hO3H := hid hO3
                          have hPH := hid hP2
                          clear HB hO1 hS1 hb1 o3 hcy hO3 hP2 hP
                          go_wp2_with (fail)
                          go_region_held3 (fun w' : World => w'.cell? ⟨g, o, none⟩ = some (.int .i64 y)) (first | assumption | go_keep) (first | (refine rows_step (w.heap.size + 2) (by simp [Region.wanted]) (.const (Value.slice none 0 0)) (.tmp 162) 28 3 .i64 8 (by rfl) Try.underlying28 info2 (by decide) (.slice none 0 0) [] R A7 R.length c7 (by rfl) (by rfl) (own_nil _ _ _ _) (by first | exact hrR | exact hrR2) (by first | exact hszA | (simp; omega)) (by simp; omega) ?_; intro v1 w1' ho hg hat; obtain ⟨hf1, ho1, hq2, hk1, hA1⟩ := st1.out _ w1' v1 ho hg hat (by first | exact .inl rfl | exact .inr rfl); clear ho hg hat) | (refine rows_step (w.heap.size + 2) (by simp [Region.wanted]) (.tmp 163) (.tmp 167) 28 3 .i64 8 (by rfl) Try.underlying28 info2 (by decide) v1 R [y] (some ⟨_, 0, none⟩) 1 1 (by rfl) (by rfl) (ho1.alloc _) (reads_one ((Blk.new w1' 3 [.int .i64 y]).cell 0)) (by simp; omega) (by omega) ?_; intro v2 w2' ho2 hg2 hat2; have hf2 := (Fresh.to_alloc hf1 (.cells #[.int .i64 y] 3)).app ho2 hg2 hat2; have hk2 : w2'.cell? ⟨g, o, none⟩ = some (.int .i64 y) := (by rw [← hcy3]; exact cell_same (hf2.keep.block g hgl3 id))) | (refine rows_step (w.heap.size + 2) (by simp [Region.wanted]) (.tmp 163) (.tmp 167) 28 3 .i64 8 (by rfl) Try.underlying28 info2 (by decide) v1 R [y] (some ⟨_, 0, none⟩) 1 1 (by rfl) (by rfl) ho1 (hA1 rfl) hq2 (by omega) ?_; intro v2 w2' ho2 hg2 hat2; have hf2 := hf1.app ho2 hg2 hat2; have hk2 : w2'.cell? ⟨g, o, none⟩ = some (.int .i64 y) := (by rw [← hcy3]; exact cell_same (hf2.keep.block g hgl3 id))))
                          all_goals
                            have hO4 := hO3H.out.freshR hf2
                            have hB4 : Below w3.heap.size w3 w2' := ⟨hf2.keep.os, hf2.keep.tape, hf2.keep.output, hf2.keep.size, fun k hk => hf2.keep.block k hk id⟩
                            have hS4 := hS3.below hB4
                            have hb4 := hb3.trans (hB4.mono hb3.size)
                            by_cases hc : c9 = 1
                            · subst hc
                              obtain ⟨rfl, hI4⟩ := hO4.y.tail0
                              have hO5 := hO4.partY hI4 (fun g h => h)
                              clear hO4 hI4
                              go_wp2_with (fail)
                              go_meet
                              exact ⟨R ++ [y], K, [], E, rfl, hO5, hS4, hPH.out, hb4⟩
                            · have hI4 := hO4.y.tail1 hc
                              have hO5 := hO4.partY hI4 (fun g h => h)
                              clear hO4 hI4
                              go_wp2_with (fail)
                              go_meet
                              exact ⟨R ++ [y], K, ys, E, rfl, hO5, hS4, hPH.out, hb4⟩
                      · go_wp2_with (fail)
                        go_meet
                        exact ⟨R, K, Y, E, rfl, hO1, hS1, hP, hb1⟩
          case rest =>
            clear hO1 hS1 hP hb1 hc0 hmade hsz hcH hk
            obtain ⟨R, K, Y, E, rfl, hO, hS, hP, hb⟩ := hcut
            obtain ⟨A7, c7, rfl, hc7⟩ := hO.r.form
            obtain ⟨A8, c8, rfl, hc8⟩ := hO.k.form
            obtain ⟨A9, c9, rfl, hc9⟩ := hO.y.form
            have hmade : R.length + K.length + Y.length + E ≤ 32 := by
              have h1 : R.length + K.length + Y.length + E ≤ n := hS.ok.made
              omega
            have H1 : Calls Try.prog 15 #[.pointer (some ⟨w.heap.size + 1, 0, none⟩)] wc fun e w' => e = .returned (.int .i64 (K.length : Int)) ∧ w' = wc := busy_at hS
            have H2 : Calls Try.prog 16 #[.pointer (some ⟨w.heap.size + 1, 0, none⟩)] wc fun e w' => e = .returned (.int .i64 ((R.length + K.length + Y.length : Nat) : Int)) ∧ w' = wc := live_at hS
            have H3 : Calls Try.prog 17 #[.pointer (some ⟨w.heap.size + 1, 0, none⟩)] wc fun e w' => e = .returned (.int .i64 ((R.length + K.length + Y.length + E : Nat) : Int)) ∧ w' = wc := made_at hS
            have H4 := slist_at hS
            have hN := hO.r.nums
            have hl32 := hid (show R.length ≤ 140737488355328 by omega)
            have hOH := hid hO
            have hSH := hid hS
            have hPH := hid hP
            rw [Int.natCast_add, Int.natCast_add] at H2
            rw [Int.natCast_add, Int.natCast_add, Int.natCast_add] at H3
            have b1 : (R.length : Int) + K.length ≤ 32 := by omega
            have b2 : (R.length : Int) + K.length + Y.length ≤ 32 := by omega
            have b3 : (R.length : Int) + K.length + Y.length + E ≤ 32 := by omega
            have z1 : (0 : Int) ≤ (R.length : Int) + K.length := by omega
            have z2 : (0 : Int) ≤ (R.length : Int) + K.length + Y.length := by omega
            have z3 : (0 : Int) ≤ (R.length : Int) + K.length + Y.length + E := by omega
            clear hO hS hP hc7 hc8 hc9
            go_wp2_with (fail)
            refine H1.mono ?_
            rintro e w2 ⟨rfl, hw⟩
            obtain rfl : wc = w2 := hw.symm
            go_wp2_with (fail)
            refine H2.mono ?_
            rintro e w2 ⟨rfl, hw⟩
            obtain rfl : wc = w2 := hw.symm
            go_wp2_with (fail)
            refine H3.mono ?_
            rintro e w2 ⟨rfl, hw⟩
            obtain rfl : wc = w2 := hw.symm
            go_wp2_with (fail)
            refine H2.mono ?_
            rintro e w2 ⟨rfl, hw⟩
            obtain rfl : wc = w2 := hw.symm
            go_wp2_with (fail)
            refine H4.mono ?_
            rintro e w4 ⟨A4, c4, rfl, hN4, hB4⟩
            have hN5 := hN.below hB4
            go_wp2_with (fail)
            refine (SameInts.same_eq A4 A7 c4 c7 R w4 hN4 hN5 hl32.out).mono ?_
            rintro e w5 ⟨rfl, n5, rfl⟩
            have hbw : Below wc.heap.size wc (w4.drewN n5) := ⟨hB4.os, hB4.tape, hB4.output, hB4.size, hB4.block⟩
            have hO6 := hOH.out.below hbw
            have hS6 := hSH.out.below hbw
            have hb6 := hb.trans (hbw.mono hb.size)
            clear hN hN4 hN5 hB4 hbw H1 H2 H3 H4
            go_wp2_with (fail)
            go_roundg k1
            case measure => omega
            case rel => exact ⟨i + 1, R, K, Y, E, by omega, by go_num, rfl, hO6, hS6, hPH.out, hb6⟩
end Go.Proofs.Ytmhnfcodppfaiaf.SchedTurns
