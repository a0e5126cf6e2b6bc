
/- The law LocksCover: the walk. -/
import Derived.Test.YtabcodjalacdjadLocksLaw
namespace Go.Proofs.Ytabcodjalacdjad.LocksCode
open Go Go.RowKit Go.Shelf Go.Maps Go.Proofs.Ytabcodjalacdjad.Obj Go.Proofs.Ytabcodjalacdjad.Iter Go.Proofs.YtabcodjalacdjadW.PrintWords Go.Proofs.YtabcodjalacdjadW.PrintLast Go.Proofs.YtabcodjalacdjadW.PrintMore
set_option linter.unusedVariables false
set_option linter.unusedSimpArgs false
set_option maxRecDepth 100000
def bools (L : List Bool) : List Value := L.map Value.bool
theorem bool_info : (Try.prog.info? 4).map (fun i => (i.zero, i.size, i.bytes)) = some (some (.bool false), 1, 1) := by kernel_rfl
theorem made_bools (m : Nat) (hm : m ≤ 64) (W : World) : (Instr.makeSlice 29 (.int .i64 (m : Int)) (.int .i64 (m : Int))).run Try.prog W = .ok (.slice (some ⟨W.heap.size, 0, none⟩) m m) (W.alloc (.cells (bools (List.replicate m false)).toArray 4)) := by
  obtain ⟨i0, hi, hz⟩ := Option.map_eq_some_iff.1 bool_info
  simp only [Prod.mk.injEq] at hz
  obtain ⟨h1, h2, h3⟩ := hz
  have := run_make (P := Try.prog) W 29 4 i0 (.bool false) Try.underlying29 hi h1 .i64 .i64 m m (by omega) (by omega) (by rw [h3]; omega) (by omega)
  have e : madeCells #[Value.bool false] m = (bools (List.replicate m false)).toArray := by
    apply Array.ext'
    apply List.ext_getElem?
    intro i
    unfold madeCells
    by_cases h : i < m
    · simp [h, bools, Nat.mod_one]
    · simp [h, bools]
  rw [← e]
  simpa [h2, Value.cells] using this
theorem bl_get {w : World} {b i : Nat} {B : List Bool} (h : Blk w b 4 (bools B)) (hi : i < B.length) : w.cell? ⟨b, i, none⟩ = some (.bool (B.getD i false)) := by
  rw [h.cell i, bools, List.getElem?_map, List.getD_eq_getElem?_getD, List.getElem?_eq_getElem hi]; rfl
theorem bl_set {w : World} {b : Nat} {B : List Bool} (h : Blk w b 4 (bools B)) (i : Nat) (v : Bool) : Blk (w.setCell ⟨b, i, none⟩ (.bool v)) b 4 (bools (B.set i v)) := by
  have := h.set i (.bool v)
  rw [show (bools B).set i (.bool v) = bools (B.set i v) by rw [bools, bools, List.map_set]] at this
  exact this
theorem cnt_zero {cs : List Cs} {n : Nat} : cnt cs n [] = 0 := by
  unfold cnt
  rw [List.countP_eq_zero]
  intro k _
  simp
theorem ord_len {cs : List Cs} {L : List Int} (h : Ord cs L) (ho : IsOrd cs L) (hm : MayB cs) : L.length ≤ 64 := by
  have key : ∀ j, j < L.length → (j : Int) ≤ L.getD j 0 := by
    intro j
    induction j with
    | zero => intro hj; exact h.pos 0 hj
    | succ j ih =>
      intro hj
      have h1 := ih (by omega)
      have h2 := rise_getI h.rise (i := j) (j := j + 1) (by omega) hj
      omega
  rcases Nat.lt_or_ge 64 L.length with h1 | h1
  · exfalso
    have h2 := key 64 h1
    have hmem : L.getD 64 0 ∈ L := by rw [List.getD_eq_getElem?_getD, List.getElem?_eq_getElem h1]; exact List.getElem_mem h1
    obtain ⟨_, i, hi, h3⟩ := chL_mem.1 ((ho.mem _).1 hmem)
    have := (hm.1 i hi).2
    unfold chN at h3
    omega
  · exact h1
/-- From round to round: D is the block of those that are seen; what lay below it lies as in w0. -/
structure Rn (w0 w : World) (D : Nat) (cs : List Cs) (L : List Int) (j : Nat) : Prop where
  seen : Blk w D 4 (bools (seenOf cs cs.length ((chs L).take j) []))
  below : Below D w0 w
theorem bl_drewN {w w' : World} {B n : Nat} (h : Below B w w') : Below B w (w'.drewN n) := ⟨h.os, h.tape, h.output, h.size, h.block⟩
theorem Rn.drewN {w0 w : World} {D : Nat} {cs : List Cs} {L : List Int} {j : Nat} (h : Rn w0 w D cs L j) (n : Nat) : Rn w0 (w.drewN n) D cs L j := ⟨h.seen, bl_drewN h.below⟩
theorem row_set {w : World} {D k m n : Nat} {v : Value} {xs : List Value} {b : Value} (h : w.ownsRow (D + 1) 3 1 v n xs) : ((w.drewN m).setCell ⟨D, k, none⟩ b).ownsRow (D + 1) 3 1 v n xs :=
  own_only (w := w.drewN m) h (Only.setCell (S := fun u => u = D) _ ⟨D, k, none⟩ _ rfl) (fun u hu e => by have := (own_block_ge h hu).1; omega)
theorem bel_set {w0 w : World} {D k m : Nat} {b : Value} (h : Below D w0 w) : Below D w0 ((w.drewN m).setCell ⟨D, k, none⟩ b) := (bl_drewN h).setCell (p := ⟨D, k, none⟩) (Nat.le_refl _) _
/-- The worlds that come of w by what is quiet below its end. -/
structure Later (w : World) where
  val : World
  property : Below w.heap.size w val
instance (w : World) : Nonempty (Later w) := ⟨⟨w, Below.refl _ w⟩⟩
theorem wp_region_later {id : Nat} {Q : Exit → Act → World → Prop} {a : Act} {w : World} {l : List Oper} (hm : Try.prog.follows .mixedOrders = true) (hB : Region.lexB .any l.toArray = true)
    (h : wpQuiet Try.prog l.toArray (fun w' => ∃ x : Later w, w' = x.val) (fun a' => ∀ w', (∃ x : Later w, w' = x.val) → Q .normal a' w') l a) : (Code.region id l.toArray true).wp Try.prog Q a w :=
  wp_region_quiet (C := fun w' => ∃ x : Later w, w' = x.val) hm hB ⟨⟨w.drewN 1, bl_drewN (Below.refl _ w)⟩, rfl⟩ (by simpa using h)
theorem later_cell {w : World} {b o : Nat} {v : Value} (h : w.cell? ⟨b, o, none⟩ = some v) : ∀ x : Later w, x.val.cell? ⟨b, o, none⟩ = some v := fun x => by
  rw [← h]; exact x.property.cell (p := ⟨b, o, none⟩) (cell_lt h)
theorem bit_no {s k : Nat} (h : s.testBit k = true) : (((s : Int) / 2 ^ k).tmod 2 == 0) = false := by
  have e1 : ((s : Int) / 2 ^ k) = ((s / 2 ^ k : Nat) : Int) := by simp
  rw [Nat.testBit_eq_decide_div_mod_eq, decide_eq_true_iff] at h
  rw [e1]
  generalize s / 2 ^ k = q at *
  rw [beq_eq_false_iff_ne, Int.tmod_eq_emod_of_nonneg (by omega)]
  omega
set_option maxHeartbeats 8000000 in
theorem cover_walk (a : Option Addr) (len cap : Nat) (d : Bool) (w : World) (ha : Obj.Rows w [.bool, .int .i64, .int .i64, .int .i64] a len cap) :
    Calls Try.prog 3 #[.agg #[.slice a len cap, .bool d]] w fun e w' => e = .returned (.bool true) ∧ Below w.heap.size w w' := by
  obtain ⟨cs, rfl, hC⟩ := rows_cs ha
  obtain ⟨hcap, hmx⟩ := rows_cap ha
  clear ha
  have hmxH := hid hmx
  clear hmx
  have hB0 : Below w.heap.size w (w.alloc (.cells #[.slice a cs.length cap, .bool d] 24)) := (Below.refl _ w).alloc (Nat.le_refl _) _
  have hS0 := Blk.new w 24 [.slice a cs.length cap, .bool d]
  have hC0 := hid (fun W (hb : Below w.heap.size w W) => (hC.below hb).up hb.size)
  by_cases hM : MayB cs
  · have hMay := may_at (d := d) (hC0.out _ hB0) hcap hmxH.out true ⟨fun _ => hM, fun _ => rfl⟩
    have hl64 : cs.length ≤ 64 := hM.2
    have hMH := hid hM
    clear hM
    go_enter Try.func3, Try.ntmps3
    go_wp2_with (fail)
    refine hMay.mono ?_
    rintro e w1 ⟨rfl, hb1⟩
    have k1 := hB0.trans (hb1.mono hB0.size)
    have hS1 := hS0.same (hb1.block _ hS0.lt)
    have c1 : w1.cell? ⟨w.heap.size, 0, none⟩ = some (.slice a cs.length cap) := hS1.cell 0
    have d1 : w1.cell? ⟨w.heap.size, 1, none⟩ = some (.bool d) := hS1.cell 1
    have hOf := lof_at (d := d) (cap := cap) (hC0.out w1 k1) (by omega) hcap
    clear hMay hb1 hS0 hB0
    go_wp2_with (fail)
    refine hOf.mono ?_
    rintro e w2 ⟨v, L, rfl, hrow, hord, hb2⟩
    obtain ⟨A1, n1, rfl⟩ := own_form hrow
    have hO := ord_of hord hMH.out
    have hN := own_nums hrow
    have k2 := k1.trans (hb2.mono k1.size)
    have hS2 := hS1.same (hb2.block _ hS1.lt)
    have c2 : w2.cell? ⟨w.heap.size, 0, none⟩ = some (.slice a cs.length cap) := hS2.cell 0
    have hmk := made_bools cs.length hl64 w2
    have hb3 := (Below.refl _ w2).alloc (Nat.le_refl _) (.cells (bools (List.replicate cs.length false)).toArray 4)
    have hDn := Blk.new w2 4 (bools (List.replicate cs.length false))
    obtain ⟨w3, hw3⟩ : ∃ w3, w3 = w2.alloc (.cells (bools (List.replicate cs.length false)).toArray 4) := ⟨_, rfl⟩
    obtain ⟨D, hD⟩ : ∃ D, D = w2.heap.size := ⟨_, rfl⟩
    rw [← hw3, ← hD] at hmk
    rw [← hw3, ← hD] at hb3 hDn
    have hR0 : Rn w2 w3 D cs L 0 := ⟨by rw [List.take_zero, seenOf_none]; exact hDn, hb3⟩
    have hDH := hid hD
    have hOH := hid hO
    have hNH := hid hN
    have k2H := hid k2
    have hS2H := hid hS2
    have hlL : L.length ≤ 64 := ord_len hO hord hMH.out
    clear hOf hb2 hS1 k1 c1 d1 hrow hord hw3 hD hO hN k2 hb3 hDn hS2
    go_wp2_with (fail)
    go_loopg [5, 6] (L.length + 1) (fun kq v5 v6 w' => ∃ (j : Nat) (t : Int), kq + j = L.length + 1 ∧ v6 = .int .i64 t ∧ t = (j : Int) - 1 ∧ v5 = .int .i64 (cnt cs cs.length ((chs L).take j) : Int) ∧ Rn w2 w' D cs L j)
    case atStart => exact ⟨0, -1, by omega, rfl, rfl, by rw [List.take_zero]; exact congrArg (Value.int .i64) (by rw [cnt_zero]; rfl), hR0⟩
    case round =>
      clear hR0
      obtain ⟨j, t, hj, rfl, ht, rfl, hR⟩ := hrel
      cases gk with
      | zero =>
        have hin : ¬ (t < (L.length : Int)) := by omega
        clear ht
        have hcnt : cnt cs cs.length ((chs L).take j) = cs.length := by
          rw [List.take_of_length_le (by simp only [chs, List.length_cons]; omega)]
          exact cnt_all hOH.out.all
        rw [hcnt]
        have hSr := hS2H.out.same (hR.below.block _ (by rw [hDH.out]; exact hS2H.out.lt))
        have cr : wr.cell? ⟨w.heap.size, 0, none⟩ = some (.slice a cs.length cap) := hSr.cell 0
        go_wp2_with (fail)
        refine (alive_at _).mono ?_
        rintro e w9 ⟨rfl, hb9⟩
        go_wp2_with (fail)
        go_ret
        have k9 := (k2H.out.trans (hR.below.mono (by rw [hDH.out]; exact k2H.out.size))).trans (hb9.mono (by exact Nat.le_trans k2H.out.size hR.below.size))
        exact ⟨rfl, k9⟩
      | succ k1 =>
        have hin : t < (L.length : Int) := by omega
        obtain ⟨Ds, hDs⟩ : ∃ Ds, Ds = (chs L).take j := ⟨_, rfl⟩
        have hsn := hR.seen
        have hbn := hR.below
        rw [← hDs] at hsn ⊢
        obtain ⟨N0, hN0⟩ : ∃ N0, N0 = cnt cs cs.length Ds := ⟨_, rfl⟩
        rw [← hN0]
        have hDsH := hid hDs
        have hN0H := hid hN0
        have hsz2 : w.heap.size ≤ D := by rw [hDH.out]; exact Nat.le_of_lt hS2H.out.lt
        have hN0l : N0 ≤ cs.length := by rw [hN0]; exact cnt_le
        clear hDs hN0 hR
        cases j with
        | zero =>
          have hi0 : ¬ (0 : Int) ≤ t := by omega
          have htH := hid ht
          clear ht
          go_wp2_with (fail)
          go_upto_region 12 with (fail)
          go_cut [55] (fun v55 wx => v55 = .bool false ∧ ∃ m, wx = wr.drewN m)
          case first =>
            as_aux_lemma =>
              have q1 : decide ((0 : Int) < t) = false := decide_eq_false (by omega)
              have q2 : (t == (0 : Int)) = false := by rw [beq_eq_false_iff_ne]; omega
              go_wp2_with (go_quiet (fail))
              go_meet
              exact ⟨rfl, _, rfl⟩
          case rest =>
            as_aux_lemma =>
              obtain ⟨rfl, m, rfl⟩ := hcut
              have hsn2 : Blk (wr.drewN m) D 4 (bools (seenOf cs cs.length Ds [])) := hsn
              have hbn2 := bl_drewN (n := m) hbn
              clear hsn hbn
              generalize wr.drewN m = wn at *
              have kn := k2H.out.trans (hbn2.mono hsz2)
              have hSn := hS2H.out.same (hbn2.block _ (by rw [hDH.out]; exact hS2H.out.lt))
              have cn : wn.cell? ⟨w.heap.size, 0, none⟩ = some (.slice a cs.length cap) := hSn.cell 0
              have dn : wn.cell? ⟨w.heap.size, 1, none⟩ = some (.bool d) := hSn.cell 1
              have hCv := cover_at (d := d) (cap := cap) (-1) (hC0.out wn kn) (by omega) hcap
              rw [coverL_eq] at hCv
              have hchj : (chs L).getD 0 0 = (-1) := rfl
              have hjl : 0 < (chs L).length := by simp [chs]
              have hmore := cnt_more (cs := cs) (n := cs.length) (hOH.out.notin hjl)
              have htk := take_chs hjl
              rw [hchj] at hmore htk
              rw [← hDsH.out] at hmore htk
              rw [← hN0H.out] at hmore
              have hC64 : (covN cs cs.length (-1)).length ≤ 64 := Nat.le_trans (by unfold covN; exact List.length_filter_le _ _) (by rw [List.length_range]; exact hl64)
              obtain ⟨C, hCe⟩ : ∃ C, C = covN cs cs.length (-1) := ⟨_, rfl⟩
              have hmemC : ∀ q, q < C.length → C.getD q 0 < cs.length ∧ chN cs (C.getD q 0) = (-1) := fun q hq => by rw [hCe] at hq ⊢; exact covN_get hq
              have hriseC : C.Pairwise (· < ·) := by rw [hCe]; exact covN_rise
              have hfull : seenOf cs cs.length Ds C = seenOf cs cs.length (Ds ++ [(-1)]) [] := by rw [hCe]; exact seenOf_full
              rw [← hCe] at hCv hmore hC64
              have hmemCH := hid hmemC
              have hriseCH := hid hriseC
              have hfullH := hid hfull
              have hmoreH := hid hmore
              have htkH := hid htk
              have hnotinH := hid (show (-1) ∉ Ds by have := hOH.out.notin hjl; rw [hchj, ← hDsH.out] at this; exact this)
              have hDl := hsn2.lt
              clear hCe hchj hjl hmemC hriseC hfull hmore htk
              go_wp2_with (fail)
              refine hCv.mono ?_
              rintro e w4 ⟨v, rfl, hrow, hb4⟩
              rw [List.length_map] at hrow
              obtain ⟨A2, n2, rfl⟩ := own_form hrow
              have hsn4 := hsn2.same (hb4.block _ hDl)
              have hbn4 := hbn2.trans (hb4.mono (Nat.le_of_lt hDl))
              have hrow4 := own_lower hrow (b' := D + 1) hDl
              clear hCv hsn2 hbn2 hrow hb4 hSn cn dn kn
              cases hz : ((C.length : Int) == 0) with
              | true =>
                go_wp2_with (fail)
                go_loopg [5, 9] C.length (fun kq v5 v9 w' => ∃ q : Nat, kq + q = C.length ∧ v9 = .int .i64 (q : Int) ∧ v5 = .int .i64 ((N0 + q : Nat) : Int) ∧ Blk w' D 4 (bools (seenOf cs cs.length Ds (C.take q))) ∧ w'.ownsRow (D + 1) 3 1 (.slice A2 C.length n2) C.length (List.map (Value.int .i64) (C.map fun k : Nat => (k : Int))) ∧ Below D w2 w')
                case atStart => exact ⟨0, by omega, rfl, rfl, by rw [List.take_zero]; exact hsn4, hrow4, hbn4⟩
                case round =>
                  clear hsn4 hrow4 hbn4
                  obtain ⟨q, hq, rfl, rfl, hsn, hrow, hbn⟩ := hrel
                  cases gk with
                  | zero =>
                    as_aux_lemma =>
                      have hin3 : ¬ ((q : Int) < (C.length : Int)) := by omega
                      have hqC : q = C.length := by omega
                      rw [hqC, List.take_length, hfullH.out] at hsn
                      have hwt : IntKind.i64.wrap (t + 1) = t + 1 := IntWalk.i64_in _ (by have := htH.out; omega)
                      go_wp2_with (fail)
                      go_roundg k1
                      case measure => omega
                      case rel =>
                        refine ⟨0 + 1, t + 1, by omega, by first | rfl | (congr 1; omega), by have := htH.out; omega, ?_, ⟨?_, hbn⟩⟩
                        · rw [htkH.out, hmoreH.out]; congr 1
                        · rw [htkH.out]; exact hsn
                  | succ k2 =>
                    as_aux_lemma =>
                      have hin3 : ((q : Int) < (C.length : Int)) := by omega
                      have hqC : q < C.length := by omega
                      obtain ⟨hkn, hkc⟩ := hmemCH.out q hqC
                      obtain ⟨b2, o2, rfl, hb2, hcq⟩ := (own_nums hrow).at q (by rw [List.length_map]; exact hqC)
                      obtain ⟨k, hk⟩ : ∃ k, k = C.getD q 0 := ⟨_, rfl⟩
                      have hkq : (C.map fun k : Nat => (k : Int)).getD q 0 = (k : Int) := by
                        rw [hk, List.getD_eq_getElem?_getD, List.getD_eq_getElem?_getD, List.getElem?_map, List.getElem?_eq_getElem hqC]; rfl
                      rw [hkq] at hcq
                      rw [← hk] at hkn hkc
                      have hktake : k ∉ C.take q := by
                        intro hm
                        obtain ⟨u, hu, he⟩ := List.mem_iff_getElem.mp hm
                        rw [List.length_take] at hu
                        have := rise_get hriseCH.out (i := u) (j := q) (by omega) hqC
                        rw [← hk, List.getD_eq_getElem?_getD, List.getElem?_eq_getElem (by omega)] at this
                        rw [List.getElem_take] at he
                        simp only [Option.getD_some] at this
                        omega
                      have hsc := bl_get hsn (i := k) (by rw [seenOf_len]; exact hkn)
                      rw [seenOf_get hkn, decide_eq_false (by rw [hkc]; rintro (h | h); exact hnotinH.out h; exact hktake h)] at hsc
                      have hsf := hsn.frozen k
                      have hset := bl_set hsn k true
                      rw [seenOf_set hkn] at hset
                      have htkC : C.take (q + 1) = C.take q ++ [k] := by rw [List.take_add_one, List.getElem?_eq_getElem hqC, hk, List.getD_eq_getElem?_getD, List.getElem?_eq_getElem hqC]; rfl
                      rw [← htkC] at hset
                      obtain ⟨b5, o5, rfl, hb5, _, hcc, _, _⟩ := hC k hkn
                      rw [show (cs.getD k default).ch = (-1) from hkc] at hcc
                      have hwb : Below w.heap.size w wr := k2H.out.trans (hbn.mono hsz2)
                      rw [← hwb.cell (p := ⟨b5, _, none⟩) hb5] at hcc
                      have hSr := hS2H.out.same (hbn.block _ (by rw [hDH.out]; exact hS2H.out.lt))
                      have cr : wr.cell? ⟨w.heap.size, 0, none⟩ = some (.slice (some ⟨b5, o5, none⟩) cs.length cap) := hSr.cell 0
                      have dr : wr.cell? ⟨w.heap.size, 1, none⟩ = some (.bool d) := hSr.cell 1
                      have hkl : (k : Int) < (cs.length : Int) := by omega
                      have hk0 : (0 : Int) ≤ (k : Int) := by omega
                      have q1 : decide ((k : Int) < 0) = false := decide_eq_false (by omega)
                      have q2 : decide (cs.length ≤ k) = false := decide_eq_false (by omega)
                      have q2i : decide ((cs.length : Int) ≤ (k : Int)) = false := decide_eq_false (by omega)
                      have hsetH := hid hset
                      have hsnH := hid hsn
                      have hrowH := hid hrow
                      have hbnH := hid hbn
                      have htkCH := hid htkC
                      have hkH := hid hk
                      clear hkq hktake hset htkC hwb hSr hsn hrow hbn hk c2
                      have hcapH := hid hcap
                      clear hcap
                      have q5 : decide (t < 0) = true := decide_eq_true (by have := htH.out; omega)
                      have hxs := later_cell hsc
                      have hxc := later_cell hcc
                      have hxr := later_cell cr
                      have hxd := later_cell dr
                      have hnb := cover_bit (cs := cs) (n := cs.length) (-1) hl64 k
                      rw [decide_eq_true hkn, Bool.true_and, show ((cs.getD k default).ch == -1) = true by rw [beq_iff_eq]; exact hkc] at hnb
                      have hNl := fun x : Later wr => (lnil_at (d := d) (cap := cap) (hC0.out x.val ((k2H.out.trans (hbnH.out.mono hsz2)).trans (x.property.mono (Nat.le_trans k2H.out.size hbnH.out.size)))) (by omega) (by have := hcapH.out; omega)).mono (R' := fun e w'' => e = .returned (.int .u64 (ofN (coverL (-1) (kcs cs cs.length)) : Int)) ∧ ∃ y : Later wr, w'' = y.val) (fun e w'' h => ⟨h.1, ⟨w'', x.property.trans (h.2.mono x.property.size)⟩, rfl⟩)
                      obtain ⟨nv, hnv⟩ : ∃ nv, nv = ofN (coverL (-1) (kcs cs cs.length)) := ⟨_, rfl⟩
                      rw [← hnv] at hNl hnb
                      have q6 := bit_no hnb
                      have q11 : IntKind.u64.wrap (k : Int) = (k : Int) := u64_id _ (by omega) (by omega)
                      clear hnv hnb
                      go_upto_region 20 with (fail)
                      go_cut [139] (fun v139 wx => v139 = .bool false ∧ Below wr.heap.size wr wx)
                      case first =>
                        as_aux_lemma =>
                          clear hsc hcc cr dr
                          rcases Nat.eq_zero_or_pos q with h0 | h0
                          · subst h0
                            rw [Nat.add_zero] at hcq
                            have hxq := later_cell hcq
                            have q3 : decide ((0 : Int) < ((0 : Nat) : Int)) = false := rfl
                            clear hcq
                            go_wp2_with (fail)
                            simp only [List.append_eq, List.cons_append, List.nil_append]
                            refine wp_region_later (by kernel_rfl) (by kernel_rfl) ?_
                            repeat (go_big_quiet_step ((refine (hNl _).mono ?_; rintro e w7 ⟨rfl, y, rfl⟩; exact ⟨rfl, y, rfl⟩)))
                            refine wpQuiet_nil ?_
                            rintro _ ⟨y, rfl⟩
                            go_wp2_with (fail)
                            go_meet
                            exact ⟨rfl, y.property⟩
                          · have q3i : decide ((0 : Int) < (q : Int)) = true := decide_eq_true (by omega)
                            have q3n : decide (0 < q) = true := decide_eq_true h0
                            obtain ⟨q', hq'⟩ : ∃ q', q = q' + 1 := ⟨q - 1, by omega⟩
                            obtain ⟨b6, o6, e6, _, hcp⟩ := (own_nums hrowH.out).at q' (by rw [List.length_map]; omega)
                            simp only [Option.some.injEq, Addr.mk.injEq] at e6
                            obtain ⟨rfl, rfl, _⟩ := e6
                            obtain ⟨k', hk'⟩ : ∃ k', k' = C.getD q' 0 := ⟨_, rfl⟩
                            have hkq' : (C.map fun k : Nat => (k : Int)).getD q' 0 = (k' : Int) := by
                              rw [hk', List.getD_eq_getElem?_getD, List.getD_eq_getElem?_getD, List.getElem?_map, List.getElem?_eq_getElem (by omega)]; rfl
                            rw [hkq'] at hcp
                            have hlt := rise_get hriseCH.out (i := q') (j := q) (by omega) hqC
                            rw [← hk', ← hkH.out] at hlt
                            have q7 : decide ((k : Int) ≤ (k' : Int)) = false := decide_eq_false (by omega)
                            have q7n : decide (k ≤ k') = false := decide_eq_false (by omega)
                            have q8 : IntKind.i64.wrap ((q : Int) - 1) = (q' : Int) := by rw [IntWalk.i64_in _ (by omega)]; omega
                            have q9 : (q' : Int) < (C.length : Int) := by omega
                            have q10 : (0 : Int) ≤ (q' : Int) := by omega
                            clear hkq' hk' hq' hlt hq h0
                            have hxq := later_cell hcq
                            have hxp := later_cell hcp
                            clear hcq hcp
                            go_wp2_with (fail)
                            simp only [List.append_eq, List.cons_append, List.nil_append]
                            refine wp_region_later (by kernel_rfl) (by kernel_rfl) ?_
                            repeat (go_big_quiet_step ((refine (hNl _).mono ?_; rintro e w7 ⟨rfl, y, rfl⟩; exact ⟨rfl, y, rfl⟩)))
                            refine wpQuiet_nil ?_
                            rintro _ ⟨y, rfl⟩
                            go_wp2_with (fail)
                            go_meet
                            exact ⟨rfl, y.property⟩
                      case rest =>
                        as_aux_lemma =>
                          obtain ⟨rfl, hbx⟩ := hcut
                          have hcq2 : wc.cell? ⟨b2, o2 + q, none⟩ = some (.int .i64 (k : Int)) := by rw [← hcq]; exact hbx.cell (p := ⟨_, _, none⟩) (cell_lt hcq)
                          have hsn2 := hsnH.out.same (hbx.block _ hsnH.out.lt)
                          have hsc2 := bl_get hsn2 (i := k) (by rw [seenOf_len]; exact hkn)
                          have hsc3 : wc.cell? ⟨D, k, none⟩ = some (.bool false) := by rw [← hsc]; exact hbx.cell (p := ⟨_, _, none⟩) (cell_lt hsc)
                          have hsf2 := hsn2.frozen k
                          have hset2 := bl_set hsn2 k true
                          rw [seenOf_set hkn, ← htkCH.out] at hset2
                          have hrow2 := own_only hrowH.out (Only.none_of_below hbx) (fun _ _ => id)
                          have hbn2 := hbnH.out.trans (hbx.mono (Nat.le_of_lt hsnH.out.lt))
                          have hfin := hid (show _ ∧ _ ∧ _ from ⟨hset2, row_set (m := 0) (k := k) (b := .bool true) hrow2, bel_set (m := 0) (k := k) (b := .bool true) hbn2⟩)
                          clear hcq hsc hsf hcc cr dr q1 q2 q2i hxs hxc hxr hxd hNl hsc2 hset2 hrow2 hbn2 hsn2
                          go_wp2_with (fail)
                          go_roundg k2
                          case measure => omega
                          case rel => exact ⟨q + 1, by omega, by first | rfl | (congr 1; omega), by first | rfl | (congr 1; omega), hfin.out.1, hfin.out.2.1, hfin.out.2.2⟩
              | false =>
                go_wp2_with (fail)
                go_loopg [5, 9] C.length (fun kq v5 v9 w' => ∃ q : Nat, kq + q = C.length ∧ v9 = .int .i64 (q : Int) ∧ v5 = .int .i64 ((N0 + q : Nat) : Int) ∧ Blk w' D 4 (bools (seenOf cs cs.length Ds (C.take q))) ∧ w'.ownsRow (D + 1) 3 1 (.slice A2 C.length n2) C.length (List.map (Value.int .i64) (C.map fun k : Nat => (k : Int))) ∧ Below D w2 w')
                case atStart => exact ⟨0, by omega, rfl, rfl, by rw [List.take_zero]; exact hsn4, hrow4, hbn4⟩
                case round =>
                  clear hsn4 hrow4 hbn4
                  obtain ⟨q, hq, rfl, rfl, hsn, hrow, hbn⟩ := hrel
                  cases gk with
                  | zero =>
                    as_aux_lemma =>
                      have hin3 : ¬ ((q : Int) < (C.length : Int)) := by omega
                      have hqC : q = C.length := by omega
                      rw [hqC, List.take_length, hfullH.out] at hsn
                      have hwt : IntKind.i64.wrap (t + 1) = t + 1 := IntWalk.i64_in _ (by have := htH.out; omega)
                      go_wp2_with (fail)
                      go_roundg k1
                      case measure => omega
                      case rel =>
                        refine ⟨0 + 1, t + 1, by omega, by first | rfl | (congr 1; omega), by have := htH.out; omega, ?_, ⟨?_, hbn⟩⟩
                        · rw [htkH.out, hmoreH.out]; congr 1
                        · rw [htkH.out]; exact hsn
                  | succ k2 =>
                    as_aux_lemma =>
                      have hin3 : ((q : Int) < (C.length : Int)) := by omega
                      have hqC : q < C.length := by omega
                      obtain ⟨hkn, hkc⟩ := hmemCH.out q hqC
                      obtain ⟨b2, o2, rfl, hb2, hcq⟩ := (own_nums hrow).at q (by rw [List.length_map]; exact hqC)
                      obtain ⟨k, hk⟩ : ∃ k, k = C.getD q 0 := ⟨_, rfl⟩
                      have hkq : (C.map fun k : Nat => (k : Int)).getD q 0 = (k : Int) := by
                        rw [hk, List.getD_eq_getElem?_getD, List.getD_eq_getElem?_getD, List.getElem?_map, List.getElem?_eq_getElem hqC]; rfl
                      rw [hkq] at hcq
                      rw [← hk] at hkn hkc
                      have hktake : k ∉ C.take q := by
                        intro hm
                        obtain ⟨u, hu, he⟩ := List.mem_iff_getElem.mp hm
                        rw [List.length_take] at hu
                        have := rise_get hriseCH.out (i := u) (j := q) (by omega) hqC
                        rw [← hk, List.getD_eq_getElem?_getD, List.getElem?_eq_getElem (by omega)] at this
                        rw [List.getElem_take] at he
                        simp only [Option.getD_some] at this
                        omega
                      have hsc := bl_get hsn (i := k) (by rw [seenOf_len]; exact hkn)
                      rw [seenOf_get hkn, decide_eq_false (by rw [hkc]; rintro (h | h); exact hnotinH.out h; exact hktake h)] at hsc
                      have hsf := hsn.frozen k
                      have hset := bl_set hsn k true
                      rw [seenOf_set hkn] at hset
                      have htkC : C.take (q + 1) = C.take q ++ [k] := by rw [List.take_add_one, List.getElem?_eq_getElem hqC, hk, List.getD_eq_getElem?_getD, List.getElem?_eq_getElem hqC]; rfl
                      rw [← htkC] at hset
                      obtain ⟨b5, o5, rfl, hb5, _, hcc, _, _⟩ := hC k hkn
                      rw [show (cs.getD k default).ch = (-1) from hkc] at hcc
                      have hwb : Below w.heap.size w wr := k2H.out.trans (hbn.mono hsz2)
                      rw [← hwb.cell (p := ⟨b5, _, none⟩) hb5] at hcc
                      have hSr := hS2H.out.same (hbn.block _ (by rw [hDH.out]; exact hS2H.out.lt))
                      have cr : wr.cell? ⟨w.heap.size, 0, none⟩ = some (.slice (some ⟨b5, o5, none⟩) cs.length cap) := hSr.cell 0
                      have dr : wr.cell? ⟨w.heap.size, 1, none⟩ = some (.bool d) := hSr.cell 1
                      have hkl : (k : Int) < (cs.length : Int) := by omega
                      have hk0 : (0 : Int) ≤ (k : Int) := by omega
                      have q1 : decide ((k : Int) < 0) = false := decide_eq_false (by omega)
                      have q2 : decide (cs.length ≤ k) = false := decide_eq_false (by omega)
                      have q2i : decide ((cs.length : Int) ≤ (k : Int)) = false := decide_eq_false (by omega)
                      have hsetH := hid hset
                      have hsnH := hid hsn
                      have hrowH := hid hrow
                      have hbnH := hid hbn
                      have htkCH := hid htkC
                      have hkH := hid hk
                      clear hkq hktake hset htkC hwb hSr hsn hrow hbn hk c2
                      have hcapH := hid hcap
                      clear hcap
                      have q5 : decide (t < 0) = true := decide_eq_true (by have := htH.out; omega)
                      have hxs := later_cell hsc
                      have hxc := later_cell hcc
                      have hxr := later_cell cr
                      have hxd := later_cell dr
                      have hnb := cover_bit (cs := cs) (n := cs.length) (-1) hl64 k
                      rw [decide_eq_true hkn, Bool.true_and, show ((cs.getD k default).ch == -1) = true by rw [beq_iff_eq]; exact hkc] at hnb
                      have hNl := fun x : Later wr => (lnil_at (d := d) (cap := cap) (hC0.out x.val ((k2H.out.trans (hbnH.out.mono hsz2)).trans (x.property.mono (Nat.le_trans k2H.out.size hbnH.out.size)))) (by omega) (by have := hcapH.out; omega)).mono (R' := fun e w'' => e = .returned (.int .u64 (ofN (coverL (-1) (kcs cs cs.length)) : Int)) ∧ ∃ y : Later wr, w'' = y.val) (fun e w'' h => ⟨h.1, ⟨w'', x.property.trans (h.2.mono x.property.size)⟩, rfl⟩)
                      obtain ⟨nv, hnv⟩ : ∃ nv, nv = ofN (coverL (-1) (kcs cs cs.length)) := ⟨_, rfl⟩
                      rw [← hnv] at hNl hnb
                      have q6 := bit_no hnb
                      have q11 : IntKind.u64.wrap (k : Int) = (k : Int) := u64_id _ (by omega) (by omega)
                      clear hnv hnb
                      go_upto_region 20 with (fail)
                      go_cut [139] (fun v139 wx => v139 = .bool false ∧ Below wr.heap.size wr wx)
                      case first =>
                        as_aux_lemma =>
                          clear hsc hcc cr dr
                          rcases Nat.eq_zero_or_pos q with h0 | h0
                          · subst h0
                            rw [Nat.add_zero] at hcq
                            have hxq := later_cell hcq
                            have q3 : decide ((0 : Int) < ((0 : Nat) : Int)) = false := rfl
                            clear hcq
                            go_wp2_with (fail)
                            simp only [List.append_eq, List.cons_append, List.nil_append]
                            refine wp_region_later (by kernel_rfl) (by kernel_rfl) ?_
                            repeat (go_big_quiet_step ((refine (hNl _).mono ?_; rintro e w7 ⟨rfl, y, rfl⟩; exact ⟨rfl, y, rfl⟩)))
                            refine wpQuiet_nil ?_
                            rintro _ ⟨y, rfl⟩
                            go_wp2_with (fail)
                            go_meet
                            exact ⟨rfl, y.property⟩
                          · have q3i : decide ((0 : Int) < (q : Int)) = true := decide_eq_true (by omega)
                            have q3n : decide (0 < q) = true := decide_eq_true h0
                            obtain ⟨q', hq'⟩ : ∃ q', q = q' + 1 := ⟨q - 1, by omega⟩
                            obtain ⟨b6, o6, e6, _, hcp⟩ := (own_nums hrowH.out).at q' (by rw [List.length_map]; omega)
                            simp only [Option.some.injEq, Addr.mk.injEq] at e6
                            obtain ⟨rfl, rfl, _⟩ := e6
                            obtain ⟨k', hk'⟩ : ∃ k', k' = C.getD q' 0 := ⟨_, rfl⟩
                            have hkq' : (C.map fun k : Nat => (k : Int)).getD q' 0 = (k' : Int) := by
                              rw [hk', List.getD_eq_getElem?_getD, List.getD_eq_getElem?_getD, List.getElem?_map, List.getElem?_eq_getElem (by omega)]; rfl
                            rw [hkq'] at hcp
                            have hlt := rise_get hriseCH.out (i := q') (j := q) (by omega) hqC
                            rw [← hk', ← hkH.out] at hlt
                            have q7 : decide ((k : Int) ≤ (k' : Int)) = false := decide_eq_false (by omega)
                            have q7n : decide (k ≤ k') = false := decide_eq_false (by omega)
                            have q8 : IntKind.i64.wrap ((q : Int) - 1) = (q' : Int) := by rw [IntWalk.i64_in _ (by omega)]; omega
                            have q9 : (q' : Int) < (C.length : Int) := by omega
                            have q10 : (0 : Int) ≤ (q' : Int) := by omega
                            clear hkq' hk' hq' hlt hq h0
                            have hxq := later_cell hcq
                            have hxp := later_cell hcp
                            clear hcq hcp
                            go_wp2_with (fail)
                            simp only [List.append_eq, List.cons_append, List.nil_append]
                            refine wp_region_later (by kernel_rfl) (by kernel_rfl) ?_
                            repeat (go_big_quiet_step ((refine (hNl _).mono ?_; rintro e w7 ⟨rfl, y, rfl⟩; exact ⟨rfl, y, rfl⟩)))
                            refine wpQuiet_nil ?_
                            rintro _ ⟨y, rfl⟩
                            go_wp2_with (fail)
                            go_meet
                            exact ⟨rfl, y.property⟩
                      case rest =>
                        as_aux_lemma =>
                          obtain ⟨rfl, hbx⟩ := hcut
                          have hcq2 : wc.cell? ⟨b2, o2 + q, none⟩ = some (.int .i64 (k : Int)) := by rw [← hcq]; exact hbx.cell (p := ⟨_, _, none⟩) (cell_lt hcq)
                          have hsn2 := hsnH.out.same (hbx.block _ hsnH.out.lt)
                          have hsc2 := bl_get hsn2 (i := k) (by rw [seenOf_len]; exact hkn)
                          have hsc3 : wc.cell? ⟨D, k, none⟩ = some (.bool false) := by rw [← hsc]; exact hbx.cell (p := ⟨_, _, none⟩) (cell_lt hsc)
                          have hsf2 := hsn2.frozen k
                          have hset2 := bl_set hsn2 k true
                          rw [seenOf_set hkn, ← htkCH.out] at hset2
                          have hrow2 := own_only hrowH.out (Only.none_of_below hbx) (fun _ _ => id)
                          have hbn2 := hbnH.out.trans (hbx.mono (Nat.le_of_lt hsnH.out.lt))
                          have hfin := hid (show _ ∧ _ ∧ _ from ⟨hset2, row_set (m := 0) (k := k) (b := .bool true) hrow2, bel_set (m := 0) (k := k) (b := .bool true) hbn2⟩)
                          clear hcq hsc hsf hcc cr dr q1 q2 q2i hxs hxc hxr hxd hNl hsc2 hset2 hrow2 hbn2 hsn2
                          go_wp2_with (fail)
                          go_roundg k2
                          case measure => omega
                          case rel => exact ⟨q + 1, by omega, by first | rfl | (congr 1; omega), by first | rfl | (congr 1; omega), hfin.out.1, hfin.out.2.1, hfin.out.2.2⟩
        | succ i =>
          obtain rfl : t = (i : Int) := by omega
          have hiL : i < L.length := by omega
          obtain ⟨b0, o0, rfl, hb0, hc0⟩ := hNH.out.at i hiL
          rw [← hbn.cell (p := ⟨b0, o0 + i, none⟩) (by rw [hDH.out]; exact hb0)] at hc0
          have hi0 : (0 : Int) ≤ (i : Int) := by omega
          clear ht
          have hxr := hOH.out.pos i hiL
          obtain ⟨x, hx⟩ : ∃ x, x = L.getD i 0 := ⟨_, rfl⟩
          rw [← hx] at hc0 hxr
          have hxH := hid hx
          clear hx
          go_wp2_with (fail)
          go_upto_region 12 with (fail)
          go_cut [55] (fun v55 wx => v55 = .bool false ∧ ∃ m, wx = wr.drewN m)
          case first =>
            as_aux_lemma =>
              rcases Nat.eq_zero_or_pos i with h0 | h0
              · subst h0
                rw [Nat.add_zero] at hc0
                have q1 : decide ((0 : Int) < ((0 : Nat) : Int)) = false := rfl
                have q2 : (((0 : Nat) : Int) == (0 : Int)) = true := rfl
                have q3 : decide (x < (0 : Int)) = false := decide_eq_false (by omega)
                go_wp2_with (go_quiet (fail))
                go_meet
                exact ⟨rfl, _, rfl⟩
              · have q1 : decide ((0 : Int) < (i : Int)) = true := decide_eq_true (by omega)
                have q2 : ((i : Int) == (0 : Int)) = false := by rw [beq_eq_false_iff_ne]; omega
                obtain ⟨i', hi'⟩ : ∃ i', i = i' + 1 := ⟨i - 1, by omega⟩
                obtain ⟨b1, o1, e1, _, hc1⟩ := hNH.out.at i' (by omega)
                simp only [Option.some.injEq, Addr.mk.injEq] at e1
                obtain ⟨rfl, rfl, _⟩ := e1
                rw [← hbn.cell (p := ⟨b0, o0 + i', none⟩) (by rw [hDH.out]; exact hb0)] at hc1
                have hlt := rise_getI hOH.out.rise (i := i') (j := i) (by omega) hiL
                rw [← hxH.out] at hlt
                obtain ⟨y, hy⟩ : ∃ y, y = L.getD i' 0 := ⟨_, rfl⟩
                rw [← hy] at hc1 hlt
                have q3 : decide (x ≤ y) = false := decide_eq_false (by omega)
                have q4 : IntKind.i64.wrap ((i : Int) - 1) = (i' : Int) := by rw [IntWalk.i64_in _ (by omega)]; omega
                have q5 : (i' : Int) < (L.length : Int) := by omega
                have q6 : (0 : Int) ≤ (i' : Int) := by omega
                have q1n : decide (0 < i) = true := decide_eq_true (by omega)
                have q2n : (i == 0) = false := by rw [beq_eq_false_iff_ne]; omega
                clear hy hi' hi0 hj h0
                go_wp2_with (go_quiet (fail))
                go_meet
                exact ⟨rfl, _, rfl⟩
          case rest =>
            as_aux_lemma =>
              obtain ⟨rfl, m, rfl⟩ := hcut
              have hsn2 : Blk (wr.drewN m) D 4 (bools (seenOf cs cs.length Ds [])) := hsn
              have hbn2 := bl_drewN (n := m) hbn
              clear hsn hbn hc0
              generalize wr.drewN m = wn at *
              have kn := k2H.out.trans (hbn2.mono hsz2)
              have hSn := hS2H.out.same (hbn2.block _ (by rw [hDH.out]; exact hS2H.out.lt))
              have cn : wn.cell? ⟨w.heap.size, 0, none⟩ = some (.slice a cs.length cap) := hSn.cell 0
              have dn : wn.cell? ⟨w.heap.size, 1, none⟩ = some (.bool d) := hSn.cell 1
              have hCv := cover_at (d := d) (cap := cap) x (hC0.out wn kn) (by omega) hcap
              rw [coverL_eq] at hCv
              have hchj : (chs L).getD (i + 1) 0 = x := by rw [hxH.out]; simp [chs]
              have hjl : (i + 1) < (chs L).length := by simp [chs]; omega
              have hmore := cnt_more (cs := cs) (n := cs.length) (hOH.out.notin hjl)
              have htk := take_chs hjl
              rw [hchj] at hmore htk
              rw [← hDsH.out] at hmore htk
              rw [← hN0H.out] at hmore
              have hC64 : (covN cs cs.length x).length ≤ 64 := Nat.le_trans (by unfold covN; exact List.length_filter_le _ _) (by rw [List.length_range]; exact hl64)
              have hneC := hOH.out.some i hiL
              rw [← hxH.out] at hneC
              obtain ⟨C, hCe⟩ : ∃ C, C = covN cs cs.length x := ⟨_, rfl⟩
              have hmemC : ∀ q, q < C.length → C.getD q 0 < cs.length ∧ chN cs (C.getD q 0) = x := fun q hq => by rw [hCe] at hq ⊢; exact covN_get hq
              have hriseC : C.Pairwise (· < ·) := by rw [hCe]; exact covN_rise
              have hfull : seenOf cs cs.length Ds C = seenOf cs cs.length (Ds ++ [x]) [] := by rw [hCe]; exact seenOf_full
              rw [← hCe] at hCv hmore hC64 hneC
              have hmemCH := hid hmemC
              have hriseCH := hid hriseC
              have hfullH := hid hfull
              have hmoreH := hid hmore
              have htkH := hid htk
              have hnotinH := hid (show x ∉ Ds by have := hOH.out.notin hjl; rw [hchj, ← hDsH.out] at this; exact this)
              have hDl := hsn2.lt
              clear hCe hchj hjl hmemC hriseC hfull hmore htk
              go_wp2_with (fail)
              refine hCv.mono ?_
              rintro e w4 ⟨v, rfl, hrow, hb4⟩
              rw [List.length_map] at hrow
              obtain ⟨A2, n2, rfl⟩ := own_form hrow
              have hsn4 := hsn2.same (hb4.block _ hDl)
              have hbn4 := hbn2.trans (hb4.mono (Nat.le_of_lt hDl))
              have hrow4 := own_lower hrow (b' := D + 1) hDl
              clear hCv hsn2 hbn2 hrow hb4 hSn cn dn kn
              have hz : ((C.length : Int) == 0) = false := by
                rw [beq_eq_false_iff_ne]
                intro e
                exact hneC (List.length_eq_zero_iff.mp (by omega))
              clear hneC
              go_wp2_with (fail)
              go_loopg [5, 9] C.length (fun kq v5 v9 w' => ∃ q : Nat, kq + q = C.length ∧ v9 = .int .i64 (q : Int) ∧ v5 = .int .i64 ((N0 + q : Nat) : Int) ∧ Blk w' D 4 (bools (seenOf cs cs.length Ds (C.take q))) ∧ w'.ownsRow (D + 1) 3 1 (.slice A2 C.length n2) C.length (List.map (Value.int .i64) (C.map fun k : Nat => (k : Int))) ∧ Below D w2 w')
              case atStart => exact ⟨0, by omega, rfl, rfl, by rw [List.take_zero]; exact hsn4, hrow4, hbn4⟩
              case round =>
                clear hsn4 hrow4 hbn4
                obtain ⟨q, hq, rfl, rfl, hsn, hrow, hbn⟩ := hrel
                cases gk with
                | zero =>
                  as_aux_lemma =>
                    have hin3 : ¬ ((q : Int) < (C.length : Int)) := by omega
                    have hqC : q = C.length := by omega
                    rw [hqC, List.take_length, hfullH.out] at hsn
                    go_wp2_with (fail)
                    go_roundg k1
                    case measure => omega
                    case rel =>
                      refine ⟨(i + 1) + 1, (i : Int) + 1, by omega, by first | rfl | (congr 1; omega), by omega, ?_, ⟨?_, hbn⟩⟩
                      · rw [htkH.out, hmoreH.out]; congr 1
                      · rw [htkH.out]; exact hsn
                | succ k2 =>
                  as_aux_lemma =>
                    have hin3 : ((q : Int) < (C.length : Int)) := by omega
                    have hqC : q < C.length := by omega
                    obtain ⟨hkn, hkc⟩ := hmemCH.out q hqC
                    obtain ⟨b2, o2, rfl, hb2, hcq⟩ := (own_nums hrow).at q (by rw [List.length_map]; exact hqC)
                    obtain ⟨k, hk⟩ : ∃ k, k = C.getD q 0 := ⟨_, rfl⟩
                    have hkq : (C.map fun k : Nat => (k : Int)).getD q 0 = (k : Int) := by
                      rw [hk, List.getD_eq_getElem?_getD, List.getD_eq_getElem?_getD, List.getElem?_map, List.getElem?_eq_getElem hqC]; rfl
                    rw [hkq] at hcq
                    rw [← hk] at hkn hkc
                    have hktake : k ∉ C.take q := by
                      intro hm
                      obtain ⟨u, hu, he⟩ := List.mem_iff_getElem.mp hm
                      rw [List.length_take] at hu
                      have := rise_get hriseCH.out (i := u) (j := q) (by omega) hqC
                      rw [← hk, List.getD_eq_getElem?_getD, List.getElem?_eq_getElem (by omega)] at this
                      rw [List.getElem_take] at he
                      simp only [Option.getD_some] at this
                      omega
                    have hsc := bl_get hsn (i := k) (by rw [seenOf_len]; exact hkn)
                    rw [seenOf_get hkn, decide_eq_false (by rw [hkc]; rintro (h | h); exact hnotinH.out h; exact hktake h)] at hsc
                    have hsf := hsn.frozen k
                    have hset := bl_set hsn k true
                    rw [seenOf_set hkn] at hset
                    have htkC : C.take (q + 1) = C.take q ++ [k] := by rw [List.take_add_one, List.getElem?_eq_getElem hqC, hk, List.getD_eq_getElem?_getD, List.getElem?_eq_getElem hqC]; rfl
                    rw [← htkC] at hset
                    obtain ⟨b5, o5, rfl, hb5, _, hcc, _, _⟩ := hC k hkn
                    rw [show (cs.getD k default).ch = x from hkc] at hcc
                    have hwb : Below w.heap.size w wr := k2H.out.trans (hbn.mono hsz2)
                    rw [← hwb.cell (p := ⟨b5, _, none⟩) hb5] at hcc
                    have hSr := hS2H.out.same (hbn.block _ (by rw [hDH.out]; exact hS2H.out.lt))
                    have cr : wr.cell? ⟨w.heap.size, 0, none⟩ = some (.slice (some ⟨b5, o5, none⟩) cs.length cap) := hSr.cell 0
                    have dr : wr.cell? ⟨w.heap.size, 1, none⟩ = some (.bool d) := hSr.cell 1
                    have hkl : (k : Int) < (cs.length : Int) := by omega
                    have hk0 : (0 : Int) ≤ (k : Int) := by omega
                    have q1 : decide ((k : Int) < 0) = false := decide_eq_false (by omega)
                    have q2 : decide (cs.length ≤ k) = false := decide_eq_false (by omega)
                    have q2i : decide ((cs.length : Int) ≤ (k : Int)) = false := decide_eq_false (by omega)
                    have hsetH := hid hset
                    have hsnH := hid hsn
                    have hrowH := hid hrow
                    have hbnH := hid hbn
                    have htkCH := hid htkC
                    have hkH := hid hk
                    clear hkq hktake hset htkC hwb hSr hsn hrow hbn hk c2
                    have hcapH := hid hcap
                    clear hcap
                    have q5 : decide ((i : Int) < 0) = false := decide_eq_false (by omega)
                    go_upto_region 20 with (fail)
                    go_cut [139] (fun v139 wx => v139 = .bool false ∧ ∃ m, wx = wr.drewN m)
                    case first =>
                      as_aux_lemma =>
                        rcases Nat.eq_zero_or_pos q with h0 | h0
                        · subst h0
                          rw [Nat.add_zero] at hcq
                          have q3 : decide ((0 : Int) < ((0 : Nat) : Int)) = false := rfl
                          go_wp2_with (fail)
                          simp only [List.append_eq, List.cons_append, List.nil_append]
                          go_quiet (fail)
                          go_wp2_with (fail)
                          go_meet
                          exact ⟨rfl, _, rfl⟩
                        · have q3i : decide ((0 : Int) < (q : Int)) = true := decide_eq_true (by omega)
                          have q3n : decide (0 < q) = true := decide_eq_true h0
                          obtain ⟨q', hq'⟩ : ∃ q', q = q' + 1 := ⟨q - 1, by omega⟩
                          obtain ⟨b6, o6, e6, _, hcp⟩ := (own_nums hrowH.out).at q' (by rw [List.length_map]; omega)
                          simp only [Option.some.injEq, Addr.mk.injEq] at e6
                          obtain ⟨rfl, rfl, _⟩ := e6
                          obtain ⟨k', hk'⟩ : ∃ k', k' = C.getD q' 0 := ⟨_, rfl⟩
                          have hkq' : (C.map fun k : Nat => (k : Int)).getD q' 0 = (k' : Int) := by
                            rw [hk', List.getD_eq_getElem?_getD, List.getD_eq_getElem?_getD, List.getElem?_map, List.getElem?_eq_getElem (by omega)]; rfl
                          rw [hkq'] at hcp
                          have hlt := rise_get hriseCH.out (i := q') (j := q) (by omega) hqC
                          rw [← hk', ← hkH.out] at hlt
                          have q7 : decide ((k : Int) ≤ (k' : Int)) = false := decide_eq_false (by omega)
                          have q7n : decide (k ≤ k') = false := decide_eq_false (by omega)
                          have q8 : IntKind.i64.wrap ((q : Int) - 1) = (q' : Int) := by rw [IntWalk.i64_in _ (by omega)]; omega
                          have q9 : (q' : Int) < (C.length : Int) := by omega
                          have q10 : (0 : Int) ≤ (q' : Int) := by omega
                          clear hkq' hk' hq' hlt hq h0
                          go_wp2_with (fail)
                          simp only [List.append_eq, List.cons_append, List.nil_append]
                          go_quiet (fail)
                          go_wp2_with (fail)
                          go_meet
                          exact ⟨rfl, _, rfl⟩
                    case rest =>
                      as_aux_lemma =>
                        obtain ⟨rfl, m, rfl⟩ := hcut
                        have hcq2 : (wr.drewN m).cell? ⟨b2, o2 + q, none⟩ = some (.int .i64 (k : Int)) := hcq
                        have hsc2 : (wr.drewN m).cell? ⟨D, k, none⟩ = some (.bool false) := hsc
                        have hsf2 : (wr.drewN m).frozen? ⟨D, k, none⟩ = false := hsf
                        clear hcq hsc hsf hcc cr dr q1 q2 q2i
                        go_wp2_with (fail)
                        go_roundg k2
                        case measure => omega
                        case rel => exact ⟨q + 1, by omega, by first | rfl | (congr 1; omega), by first | rfl | (congr 1; omega), hsetH.out, row_set hrowH.out, bel_set hbnH.out⟩
  · have hMay := may_at (d := d) (hC0.out _ hB0) hcap hmxH.out false ⟨fun h => (by cases h), fun h => absurd h hM⟩
    clear hM
    go_enter Try.func3, Try.ntmps3
    go_wp2_with (fail)
    refine hMay.mono ?_
    rintro e w1 ⟨rfl, hb1⟩
    have k1 := hB0.trans (hb1.mono hB0.size)
    clear hMay hb1 hS0 hB0
    go_wp2_with (fail)
    refine (alive_at _).mono ?_
    rintro e w2 ⟨rfl, hb2⟩
    go_wp2_with (fail)
    go_ret
    exact ⟨rfl, k1.trans (hb2.mono k1.size)⟩
end Go.Proofs.Ytabcodjalacdjad.LocksCode
