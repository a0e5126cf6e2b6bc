
/- bound: least. -/
import Derived.Test.YtabcodjalacdjacBound
import Derived.Test.YtabcodjalacdjacBoundGap
import Derived.Maps.OwnSet
import Derived.Maps.OwnOps
import Derived.Maps.RangeWalk
import Derived.Laws.IdiomStrings
import Derived.Carry
namespace Go.Proofs.Ytabcodjalacdjac.BoundCode
open Go Go.RowKit Go.Maps Go.Proofs.Ytabcodjalacdjac.Obj Go.Proofs.Ytabcodjalacdjac.Row Go.Proofs.Ytabcodjalacdjac.BoundPure Go.Proofs.Ytabcodjalacdjac.BoundGap Go.Proofs.YtabcodjalacdjacW.PrintWords Go.Proofs.YtabcodjalacdjacW.PrintMore
set_option linter.unusedVariables false
set_option maxRecDepth 100000
theorem law3 : Keyed Try.prog 3 := int_keyed Try.underlying3
theorem zero3 (w : World) : (zeroValue 3).run Try.prog w = .ok (.int .i64 0) w := by kernel_rfl
/-- Which one was picked. -/
def rs (s : ByteArray) (p : Nat) (i : Nat) : Nat := ((s.data[i]?).map (·.toNat)).getD 0 % p
theorem rs_lt (s : ByteArray) {p : Nat} (hp : 1 ≤ p) (i : Nat) : rs s p i < p := Nat.mod_lt _ hp
/-- A map of m numbers: at k stands g k. -/
def LMap (w : World) (b n m : Nat) (g : Nat → Int) : Prop := ∃ D : DataW Unit, w.ownsMap Try.prog 3 (plainElem Try.prog 3) b n D ∧
  (∀ j : Int, Maps.has D (.int .i64 j) = decide (0 ≤ j ∧ j < (m : Int))) ∧ ∀ k : Nat, k < m → ∀ z, D.atKey (.int .i64 (k : Int)) z = .lit (.int .i64 (g k))
theorem keyL (k : Int) : WideAt.IsKeyLit (.int .i64 k) := trivial
theorem lit_ne {j k : Int} (h : j ≠ k) : (Lit.int .i64 j) ≠ (Lit.int .i64 k) := fun e => h (by simpa using e)
theorem lmap_new (w : World) (g : Nat → Int) : LMap (w.alloc (.map #[] 0)) w.heap.size 0 0 g := ⟨_, World.ownsMap_made w _ _ _, fun j => by
  rw [decide_eq_false (by omega)]; rfl, fun k h => by omega⟩
theorem LMap.put {w : World} {b n n' m m' : Nat} {g g' : Nat → Int} {D : DataW Unit} {k : Nat} {v : Int} (hw : World.ownsMap w Try.prog 3 (plainElem Try.prog 3) b n' (D.put (.int .i64 (k : Int)) (.lit (.int .i64 v)))) (hD : IsMap D)
    (h2 : ∀ j : Int, Maps.has D (.int .i64 j) = decide (0 ≤ j ∧ j < (m : Int))) (h3 : ∀ k : Nat, k < m → ∀ z, D.atKey (.int .i64 (k : Int)) z = .lit (.int .i64 (g k)))
    (hm : (k < m ∧ m' = m) ∨ (k = m ∧ m' = m + 1)) (hg : ∀ j, j < m' → g' j = if j = k then v else g j) : LMap w b n' m' g' := by
  refine ⟨_, hw, fun j => ?_, fun j hj z => ?_⟩
  · by_cases e : j = (k : Int)
    · subst e
      rw [Maps.has_put_same hD (keyL _), decide_eq_true (by omega)]
    · rw [Maps.has_put_other (lit_ne e), h2]
      congr 1
      rw [eq_iff_iff]
      omega
  · rw [hg j hj]
    by_cases e : j = k
    · subst e
      rw [if_pos rfl]
      exact Maps.atKey_put_same hD (keyL _) _ _
    · rw [if_neg e, Maps.atKey_put_other (lit_ne (by omega))]
      exact h3 j (by omega) z
theorem LMap.get {D : DataW Unit} {m : Nat} {g : Nat → Int} (h3 : ∀ k : Nat, k < m → ∀ z, D.atKey (.int .i64 (k : Int)) z = .lit (.int .i64 (g k))) {k : Nat} (hk : k < m) {z : DataW Unit} {c : Int} (h : D.atKey (.int .i64 (k : Int)) z = .lit (.int .i64 c)) : c = g k := by
  rw [h3 k hk] at h
  simpa using h.symm
set_option maxHeartbeats 4000000 in
theorem least_at (s : ByteArray) (p : Nat) (hp : 1 ≤ p) (hp2 : p ≤ 255) (hs : s.size ≤ 1000) (w : World) : Calls Try.prog 25 #[.string s, .int .i64 (p : Int)] w fun e w' => e = .returned (.int .i64 (leastV (rs s p) s.size p)) ∧ Below w.heap.size w w' := by
  have hmm := @run_makeMap Try.prog
  have hbs : ∀ w : World, _ := fun w => run_bytes_of_string (P := Try.prog) w 9 46 5 s Try.underlying9 Try.underlying46 Try.underlying5
  go_enter Try.func25, Try.ntmps25
  go_wp2
  go_loopg [14] p (fun kq v14 w' => ∃ k : Nat, kq + k = p ∧ v14 = .int .i64 (k : Int) ∧ Below w.heap.size w w' ∧ LMap w' w.heap.size k k (fun _ => -1))
  case atStart => exact ⟨0, by omega, rfl, (Below.refl _ _).alloc (Nat.le_refl _) _, lmap_new w _⟩
  case round =>
    obtain ⟨k, hk, rfl, hb, D, h1, h2, h3⟩ := hrel
    cases gk with
    | succ m =>
      have hin : ((k : Int) < (p : Int)) := by omega
      have hwk : (Lit.int .i64 (k : Int)).wf = true := by
        simp only [Lit.wf, Bool.and_eq_true, decide_eq_true_eq]
        have a1 : IntKind.i64.min = -9223372036854775808 := by decide
        have a2 : IntKind.i64.max = 9223372036854775807 := by decide
        omega
      have hkey : keyOf Try.prog 3 (.int .i64 (k : Int)) = some (.int .i64 (k : Int)) := keyOf_int_mk Try.underlying3 hwk
      go_wp2_with (first
        | (at_mapUpdate; refine wpList_mapUpdate_own _ rfl _ _ _ 48 rfl 3 3 law3 Try.underlying48 _ w.heap.size k _ rfl h1 (by unfold maxLen; omega) _ _ _ rfl rfl hkey _ [] (plainElem_int Try.underlying3 (by decide)) ?_; intro w1 hown1 hgrow1)
        | go_in)
      have hb1 : Below w.heap.size w w1 := hb.grown hgrow1 hb.size (fun j hj => by cases hj; exact Nat.le_refl _)
      have hL1 : LMap w1 w.heap.size (k + 1) (k + 1) (fun _ => -1) := LMap.put (n := k) (g := fun _ => -1) hown1 h1.isMap h2 h3 (.inr ⟨rfl, rfl⟩) (fun j _ => by split <;> rfl)
      clear hb h1 h2 h3 hown1 hgrow1
      go_roundg m
      case measure => omega
      case rel => exact ⟨k + 1, by omega, by go_num, hb1, hL1⟩
    | zero =>
      have hin : ¬ ((k : Int) < (p : Int)) := by omega
      obtain rfl : k = p := by omega
      have hltb := h1.lt
      go_wp2_with (fail)
      obtain ⟨cap, hcap⟩ : ∃ cap, cap = grownCap wr s.size 0 5 := ⟨_, rfl⟩
      rw [← hcap]
      have hcap2 : s.size ≤ cap := by rw [hcap]; exact grownCap_ge _ _ _ _
      generalize hW2 : (wr.alloc (.cells (bytesRow s cap) 5 ((bytesRow s cap).size, (bytesRow s cap).size + 1))).drew = W2
      have hb2 : Below w.heap.size w W2 := by
        rw [← hW2]
        have h := hb.alloc hb.size (.cells (bytesRow s cap) 5 ((bytesRow s cap).size, (bytesRow s cap).size + 1))
        exact ⟨h.os, h.tape, h.output, h.size, h.block⟩
      have hM2 : LMap W2 w.heap.size k k (lastAt (rs s k) 0) := ⟨D, by rw [← hW2]; exact World.ownsMap.drew (h1.alloc _), h2, h3⟩
      have hbb : ∀ (W : World) (i : Nat), W.heap[wr.heap.size]? = W2.heap[wr.heap.size]? → i < s.size → W.cell? ⟨wr.heap.size, i, none⟩ = some (.int .u8 ((((s.data[i]?).map (·.toNat)).getD 0 : Nat) : Int)) := by
        intro W i hW hi
        have e : W.heap[wr.heap.size]? = some (.cells (bytesRow s cap) 5 ((bytesRow s cap).size, (bytesRow s cap).size + 1)) := by
          rw [hW, ← hW2]; exact heap_alloc_new wr _
        have hi2 : i < s.data.size := hi
        unfold World.cell?
        rw [show W.heap[(⟨wr.heap.size, i, none⟩ : Addr).block]? = _ from e]
        simp only [bytesRow, Array.getElem?_append, Array.size_map]
        rw [if_pos hi2, Array.getElem?_map, Array.getElem?_eq_getElem hi2]
        rfl
      obtain ⟨bb, hbbe⟩ : ∃ bb, bb = wr.heap.size := ⟨_, rfl⟩
      rw [← hbbe] at hbb hltb ⊢
      have hbl : bb < W2.heap.size := by rw [← hW2, hbbe]; simp
      clear hW2 hb h1 h2 h3 hcap hbbe
      have hbbH := hid hbb
      clear hbb
      go_loopg [4, 23] s.size (fun kq v4 v23 w' => ∃ i n : Nat, kq + i = s.size ∧ v23 = .int .i64 (i : Int) ∧ v4 = .int .i64 (gapAt (rs s k) i) ∧ Below w.heap.size w w' ∧ n ≤ k + i ∧ LMap w' w.heap.size n k (lastAt (rs s k) i) ∧ w'.heap[bb]? = W2.heap[bb]? ∧ bb < w'.heap.size)
      case atStart => exact ⟨0, k, by omega, rfl, rfl, hb2, Nat.le_refl _, hM2, rfl, hbl⟩
      case round =>
        clear hb2 hM2 hbl
        obtain ⟨i, n, hi, rfl, rfl, hb, hn, ⟨D, h1, h2, h3⟩, hW, hbl⟩ := hrel
        cases gk with
        | succ m =>
          have hin2 : ((i : Int) < (s.size : Int)) := by omega
          have hcb := hbbH.out wr i hW (by omega)
          have hrs : rs s k i = ((s.data[i]?).map (·.toNat)).getD 0 % k := rfl
          have hgn : gapAt (rs s k) (i + 1) = max (gapAt (rs s k) i) ((i : Int) - lastAt (rs s k) i (rs s k i)) := rfl
          have hll := last_lt (rs s k) (rs s k i) i
          have hlg := last_ge (rs s k) (rs s k i) i
          have hkl := rs_lt s hp i
          have hput := fun j (_ : j < k) => (show lastAt (rs s k) (i + 1) j = if j = rs s k i then (i : Int) else lastAt (rs s k) i j by
            rw [last_succ]; by_cases e : j = rs s k i
            · rw [if_pos e, if_pos e.symm]
            · rw [if_neg e, if_neg (Ne.symm e)])
          have hget := fun c z h => LMap.get (c := c) (z := z) h3 hkl h
          have hcu : ((s.data[i]?).map (·.toNat)).getD 0 ≤ 255 := by
            cases h : s.data[i]? with
            | none => simp
            | some x => simp; have := x.toNat_lt; omega
          generalize hlv : lastAt (rs s k) i (rs s k i) = lv at hgn hll hlg hget
          generalize hkk : rs s k i = kk at *
          generalize ((s.data[i]?).map (·.toNat)).getD 0 = c at *
          have hq0 : (c : Int) % (k : Int) = (kk : Int) := by rw [hrs]; simp
          have hq1 : IntKind.i64.wrap ((i : Int) - lv) = (i : Int) - lv := IntWalk.i64_in _ (by omega)
          have hnz : ((k : Int) == 0) = false := by rw [beq_eq_false_iff_ne]; omega
          have hwk : (Lit.int .i64 (kk : Int)).wf = true := by
            simp only [Lit.wf, Bool.and_eq_true, decide_eq_true_eq]
            have a1 : IntKind.i64.min = -9223372036854775808 := by decide
            have a2 : IntKind.i64.max = 9223372036854775807 := by decide
            omega
          have hwi : (Lit.int .i64 (i : Int)).wf = true := by
            simp only [Lit.wf, Bool.and_eq_true, decide_eq_true_eq]
            have a1 : IntKind.i64.min = -9223372036854775808 := by decide
            have a2 : IntKind.i64.max = 9223372036854775807 := by decide
            omega
          have hkey : keyOf Try.prog 3 (.int .i64 ((c : Int) % (k : Int))) = some (.int .i64 (kk : Int)) := by rw [hq0]; exact keyOf_int_mk Try.underlying3 hwk
          have hrsH := hid hrs
          have hgnH := hid hgn
          have hputH := hid hput
          have hkklH := hid hkl
          clear hrs hgn hput hkk hlv hll hlg hkl hwk hq0
          generalize gapAt (rs s k) i = gv at *
          go_wp2_with (first
            | (at_lookup; refine wpList_lookup_own_int _ rfl _ _ 48 rfl 3 3 .i64 law3 Try.underlying48 Try.underlying3 (zero3 _) w.heap.size n _ rfl h1 _ _ rfl hkey ?_; intro c hat hwc; obtain rfl := hget _ _ hat)
            | (at_mapUpdate; refine wpList_mapUpdate_own _ rfl _ _ _ 48 rfl 3 3 law3 Try.underlying48 _ w.heap.size n _ rfl h1 (by unfold maxLen; omega) _ _ _ rfl rfl hkey _ [] (plainElem_int Try.underlying3 hwi) ?_; intro w1 hown1 hgrow1)
            | go_in)
          all_goals
            have hb1 : Below w.heap.size w w1 := hb.grown hgrow1 hb.size (fun j hj => by cases hj; exact Nat.le_refl _)
            have hL1 : LMap w1 w.heap.size (n + 1) k (lastAt (rs s k) (i + 1)) := LMap.put (n := n) (g := lastAt (rs s k) i) hown1 h1.isMap h2 h3 (.inl ⟨hkklH.out, rfl⟩) hputH.out
            have hW1 : w1.heap[bb]? = W2.heap[bb]? := (hgrow1.block bb hbl (by intro e; injection e; omega)).trans hW
            have hbl1 := Nat.lt_of_lt_of_le hbl hgrow1.size
            clear hb h1 h2 h3 hown1 hgrow1 hputH hget hW hbl
            go_roundg m
          case measure => omega
          case measure => omega
          case rel => exact ⟨i + 1, n + 1, by omega, by go_num, by rw [hgnH.out]; congr 1; omega, hb1, by omega, hL1, hW1, hbl1⟩
          case rel => exact ⟨i + 1, n + 1, by omega, by go_num, by rw [hgnH.out]; congr 1; omega, hb1, by omega, hL1, hW1, hbl1⟩
        | zero =>
          have hin2 : ¬ ((i : Int) < (s.size : Int)) := by omega
          obtain rfl : i = s.size := by omega
          clear hW hbl hbbH hmm hbs
          go_wp2_with (first
            | (at_range; refine wpList_range_own _ rfl _ 48 rfl 3 3 law3 Try.underlying48 _ w.heap.size n _ rfl h1 ?_; intro w0 hrg0 hg0 hs0)
            | go_in)
          have hb0 : Below w.heap.size w w0 := hb.grown hg0 hb.size (fun j hj => by cases hj)
          obtain ⟨r, hr⟩ : ∃ r, r = wr.heap.size := ⟨_, rfl⟩
          rw [← hr] at hrg0 ⊢
          have hrb : w.heap.size ≤ r := by rw [hr]; exact hb.size
          clear hr hb h1 hg0 hs0
          go_loopw [4] (fun v w' => ∃ (left : Lit → Bool) (cnt : Nat) (x : Int), v = .int .i64 x ∧ w'.ranges Try.prog 3 (plainElem Try.prog 3) w.heap.size r n D left cnt ∧ Below w.heap.size w w' ∧ gapAt (rs s k) s.size ≤ x ∧ x ≤ leastV (rs s k) s.size k ∧ ∀ j : Nat, j < k → left (.int .i64 (j : Int)) = false → (s.size : Int) - lastAt (rs s k) s.size j ≤ x)
            (fun _ w' => w'.rangeLeft w.heap.size r)
          case atStart => exact ⟨_, _, _, rfl, hrg0, hb0, Int.le_refl _, gap_least _ _ _, fun j hj hf => by rw [h2, decide_eq_true (by omega)] at hf; cases hf⟩
          case round =>
            clear hrg0 hb0
            obtain ⟨left, cnt, x, rfl, hrg, hb, hx1, hx2, hx3⟩ := hrel
            go_wp2_with (first
              | (at_next; refine wpList_next_ranges_ii _ rfl _ rfl 3 3 .i64 .i64 law3 Try.underlying3 Try.underlying3 w.heap.size r n _ _ _ rfl hrg ?_ ?_)
              | go_in)
            · intro _ hl0
              have he := least_end hx1 hx2 (fun j hj => hx3 j hj (hl0 _))
              go_wp2
              go_ret
              exact ⟨by rw [← he]; rfl, hb⟩
            · intro q c w1 cnt1 hwx hwc hlx hat hrg1 hlt hg1 hs1 hen
              have hq : 0 ≤ q ∧ q < (k : Int) := by
                cases hh : Maps.has D (.int .i64 q) with
                | true => rw [h2] at hh; exact of_decide_eq_true hh
                | false =>
                  have e1 := hat (.lit (.int .i64 0))
                  have e2 := hat (.lit (.int .i64 1))
                  rw [Maps.atKey_of_not_has hh] at e1 e2
                  rw [← e2] at e1
                  simp at e1
              obtain ⟨j, rfl⟩ : ∃ j : Nat, q = (j : Int) := ⟨q.toNat, by omega⟩
              have hc := LMap.get h3 (show j < k by omega) (hat (.lit (.int .i64 0)))
              have hll := last_lt (rs s k) j s.size
              have hlg := last_ge (rs s k) j s.size
              have hup := last_least (rs s k) (n := s.size) (p := k) (k := j) (by omega)
              rw [← hc] at hll hlg hup
              have hq1 : IntKind.i64.wrap ((s.size : Int) - c) = (s.size : Int) - c := IntWalk.i64_in _ (by omega)
              have hb1 : Below w.heap.size w w1 := hb.grown hg1 hb.size (fun j hj => by cases hj; exact hrb)
              have hleft : ∀ x' : Int, x ≤ x' → (s.size : Int) - c ≤ x' → ∀ j' : Nat, j' < k → (left (.int .i64 (j' : Int)) && !(Lit.int .i64 (j' : Int)).sameKey (.int .i64 (j : Int))) = false → (s.size : Int) - lastAt (rs s k) s.size j' ≤ x' := by
                intro x' hx' hc' j' hj' hl'
                by_cases e : j' = j
                · subst e; rw [← hc]; exact hc'
                · have hs : (Lit.int .i64 (j' : Int)).sameKey (.int .i64 (j : Int)) = false := by
                    cases h : (Lit.int .i64 (j' : Int)).sameKey (.int .i64 (j : Int)) with
                    | false => rfl
                    | true => exact absurd h (by simp [Lit.sameKey]; omega)
                  rw [hs] at hl'
                  simp at hl'
                  have := hx3 j' hj' hl'
                  omega
              have hmeas : w1.rangeLeft w.heap.size r < wr.rangeLeft w.heap.size r := by rw [hrg1.left_eq, hrg.left_eq]; exact hlt
              have hleftH := hid hleft
              have hupH := hid hup
              clear hleft hup hll hlg hc hat hx3 hb hlx hlt hg1 hs1 hq hrg
              go_wp2
              have hX : x ≤ (if x < (s.size : Int) - c then (s.size : Int) - c else x) ∧ (s.size : Int) - c ≤ (if x < (s.size : Int) - c then (s.size : Int) - c else x) ∧ (if x < (s.size : Int) - c then (s.size : Int) - c else x) ≤ leastV (rs s k) s.size k := by
                have := hupH.out
                split <;> omega
              exact ⟨⟨_, cnt1, _, rfl, hrg1, hb1, by omega, hX.2.2, hleftH.out _ hX.1 hX.2.1⟩, hmeas⟩
end Go.Proofs.Ytabcodjalacdjac.BoundCode
