/- The walk of PoolKeeps. -/
import Derived.Test.YtghbcdpnngheoadPoolCount
import Derived.Lib.Hide
namespace Go.Proofs.Ytghbcdpnngheoad.PoolCode
open Go Go.RowKit Go.Proofs.YtghbcdpnngheoadW.PrintWords Go.Proofs.YtghbcdpnngheoadW.PrintMore
set_option linter.unusedVariables false
set_option maxRecDepth 100000
/-- Which slots are taken, cell by cell. -/
def IsCells (W : World) (b : Nat) (l : List Slot) : Prop := ∃ C : Array Value, W.heap[b]? = some (.cells C 4 (0, 0)) ∧ C.size = 40 ∧ ∀ k, k < 40 → C[k]? = some (.bool (isAt l k))
/-- What those have that are taken. -/
def HasCells (W : World) (b : Nat) (l : List Slot) : Prop := ∃ (C : Array Value) (g : Nat → Sg), W.heap[b]? = some (.cells C 32 (0, 0)) ∧ C.size = 200 ∧ (∀ k, k < 40 → ∀ j, j < 5 → C[k * 5 + j]? = (g k).cells[j]?) ∧ ∀ k y, l[k]? = some y → y.is = true → g k = y.x
def isZero : Array Value := madeCells #[.bool false] 40
def hasZero : Array Value := madeCells #[.int .i64 0, .int .i64 0, .bool false, .int .i64 0, .int .u64 0] 200
/-- What holds at each round's head. -/
def Keeps (W : World) (p q cp hs is : Nat) (pad : List Value) (m : Nat) (last : Int) : Prop :=
  ∃ l ch, l.length = m ∧ PoolS W p q cp pad l ch ∧ IsCells W is l ∧ HasCells W hs l ∧ (last = -1 ∨ ∃ (r : Nat) (rest : List Nat), ch = r :: rest ∧ last = (r : Int))
theorem make_is (W : World) : (Instr.makeSlice 29 (.int .i64 40) (.int .i64 40)).run Try.prog W = .ok (.slice (some ⟨W.heap.size, 0, none⟩) 40 40) (W.alloc (.cells isZero 4)) := made_bools 40 W (by decide)
theorem info32 : (Try.prog.info? 32).map (fun i => (i.zero, i.size, i.bytes)) = some (some (.agg #[.int .i64 0, .int .i64 0, .bool false, .int .i64 0, .int .u64 0]), 5, 40) := by kernel_rfl
theorem make_has (W : World) : (Instr.makeSlice 28 (.int .i64 40) (.int .i64 40)).run Try.prog W = .ok (.slice (some ⟨W.heap.size, 0, none⟩) 40 40) (W.alloc (.cells hasZero 32)) := by
  obtain ⟨i0, hi, hz⟩ := Option.map_eq_some_iff.1 info32
  simp only [Prod.mk.injEq] at hz
  obtain ⟨h1, h2, h3⟩ := hz
  have := run_make (P := Try.prog) W 28 32 i0 _ Try.underlying28 hi h1 .i64 .i64 40 40 (by omega) (by omega) (by rw [h3]; omega) (by omega)
  rw [this, h2]; rfl
theorem has_zero (k : Nat) (hk : k < 40) (j : Nat) (hj : j < 5) : hasZero[k * 5 + j]? = Sg.zero.cells[j]? := by
  have h : k * 5 + j < 200 := by omega
  unfold hasZero madeCells
  simp only [Array.getElem?_map, Array.getElem?_range, h, if_true, Option.map_some]
  have e : (k * 5 + j) % 5 = j := by omega
  simp only [List.size_toArray, List.length_cons, List.length_nil, Nat.reduceAdd, e]
  match j, hj with
  | 0, _ | 1, _ | 2, _ | 3, _ | 4, _ => rfl
section
variable {W w2 : World} {p q cp hs is m : Nat} {pad : List Value} {last : Int} {l : List Slot}
theorem IsCells.same (h : IsCells W is l) (e : w2.heap[is]? = W.heap[is]?) : IsCells w2 is l := by
  obtain ⟨C, h1, h2⟩ := h; exact ⟨C, e.trans h1, h2⟩
theorem HasCells.same (h : HasCells W hs l) (e : w2.heap[hs]? = W.heap[hs]?) : HasCells w2 hs l := by
  obtain ⟨C, g, h1, h2⟩ := h; exact ⟨C, g, e.trans h1, h2⟩
theorem IsCells.lt (h : IsCells W is l) : is < W.heap.size := heap_lt h.choose_spec.1
theorem HasCells.lt (h : HasCells W hs l) : hs < W.heap.size := heap_lt h.choose_spec.choose_spec.1
theorem PoolS.lp {ch : List Nat} (h : PoolS W p q cp pad l ch) : p < W.heap.size := by obtain ⟨f, n, h1, _⟩ := h; exact h1.lp
theorem PoolS.lq {ch : List Nat} (h : PoolS W p q cp pad l ch) : q < W.heap.size := by obtain ⟨f, n, h1, _⟩ := h; exact h1.lq
theorem Keeps.same (h : Keeps W p q cp hs is pad m last) (e : ∀ k, k < W.heap.size → w2.heap[k]? = W.heap[k]?) : Keeps w2 p q cp hs is pad m last := by
  obtain ⟨l, ch, h1, h2, h3, h4, h5⟩ := h
  exact ⟨l, ch, h1, h2.more (e _ h2.lp) (e _ h2.lq), h3.same (e _ h3.lt), h4.same (e _ h4.lt), h5⟩
/-- What a step may use of a world in which the invariant's parts hold. -/
theorem HasCells.cells (h : HasCells W hs l) (j : Nat) (hj : j < 40) : ∃ x : Sg, W.cell? ⟨hs, j * 5, none⟩ = some (.int .i64 x.t) ∧ W.cell? ⟨hs, j * 5 + 1, none⟩ = some (.int .i64 x.c) ∧ W.cell? ⟨hs, j * 5 + 2, none⟩ = some (.bool x.s) ∧ W.cell? ⟨hs, j * 5 + 3, none⟩ = some (.int .i64 x.v) ∧ W.cell? ⟨hs, j * 5 + 4, none⟩ = some (.int .u64 x.u) ∧
    (∀ i, W.frozen? ⟨hs, i, none⟩ = false) ∧ ∀ y, l[j]? = some y → y.is = true → x = y.x := by
  obtain ⟨C, g, h1, h2, h3, h4⟩ := h
  have e : ∀ i, i < 5 → W.cell? ⟨hs, j * 5 + i, none⟩ = (g j).cells[i]? := fun i hi => (cell_of h1).trans (h3 j hj i hi)
  exact ⟨g j, e 0 (by decide), e 1 (by decide), e 2 (by decide), e 3 (by decide), e 4 (by decide), fun i => frozen_of h1, h4 j⟩
theorem IsCells.cell (h : IsCells W is l) (j : Nat) (hj : j < 40) : W.cell? ⟨is, j, none⟩ = some (.bool (isAt l j)) := by
  obtain ⟨C, h1, h2, h3⟩ := h; exact (cell_of h1).trans (h3 j hj)
theorem IsCells.frozen (h : IsCells W is l) (j : Nat) : W.frozen? ⟨is, j, none⟩ = false := frozen_of h.choose_spec.1
theorem IsCells.put (h : IsCells W is l) (j : Nat) (hj : j < l.length) (hl : l.length ≤ 40) (y : Slot) : IsCells (W.setCell ⟨is, j, none⟩ (.bool y.is)) is (l.set j y) := by
  obtain ⟨C, h1, h2, h3⟩ := h
  refine ⟨_, heap_set h1, by simp [h2], fun k hk => ?_⟩
  by_cases e : j = k
  · subst e
    rw [Array.getElem?_setIfInBounds_self_of_lt (by omega), isAt, List.getElem?_set_self hj]
  · rw [Array.getElem?_setIfInBounds_ne e, h3 k hk, isAt, isAt, List.getElem?_set_ne e]
theorem HasCells.put (h : HasCells W hs l) (j : Nat) (hj : j < 40) (x : Sg) : HasCells (W.setCells hs (j * 5) x.cells) hs (l.set j ⟨true, x, 0⟩) := by
  obtain ⟨C, g, h1, h2, h3, h4⟩ := h
  obtain ⟨C', k1, k2, k3⟩ := setCells_row x.cells (j * 5) W C h1 (by simp only [Sg.cells, List.length_cons, List.length_nil]; omega)
  have h5 : x.cells.length = 5 := rfl
  have hc : ∀ i, C'[i]? = if i < j * 5 then C[i]? else if i < j * 5 + 5 then x.cells[i - j * 5]? else C[i]? := fun i => by
    rw [← Array.getElem?_toList, k3, h5, ← Array.getElem?_toList]
    exact Obj.splice_at C.toList x.cells (j * 5) 5 i h5 (by rw [Array.length_toList]; omega)
  refine ⟨C', fun k => if k = j then x else g k, k1, by rw [k2, h2], fun k hk i hi => ?_, fun k y hy hb => ?_⟩
  · have hck := hc (k * 5 + i)
    by_cases e : k = j
    · subst e
      rw [if_neg (show ¬ (k * 5 + i < k * 5) by omega), if_pos (show k * 5 + i < k * 5 + 5 by omega), show k * 5 + i - k * 5 = i by omega] at hck
      rw [hck]; show x.cells[i]? = (if k = k then x else g k).cells[i]?
      rw [if_pos rfl]
    · have hck2 : C'[k * 5 + i]? = C[k * 5 + i]? := by
        by_cases h6 : k * 5 + i < j * 5
        · rw [if_pos h6] at hck; exact hck
        · rw [if_neg h6, if_neg (show ¬ (k * 5 + i < j * 5 + 5) by omega)] at hck; exact hck
      show _ = (if k = j then x else g k).cells[i]?
      rw [if_neg e, hck2]; exact h3 k hk i hi
  · by_cases e : j = k
    · subst e
      have hjl : j < l.length := by have := (List.getElem?_eq_some_iff.1 hy).1; rwa [List.length_set] at this
      rw [List.getElem?_set_self hjl] at hy
      obtain rfl := Option.some.inj hy
      simp
    · rw [List.getElem?_set_ne e] at hy
      simp only [if_neg (Ne.symm e)]
      exact h4 k y hy hb
theorem HasCells.drop (h : HasCells W hs l) (j : Nat) (y : Slot) (hy : y.is = false) : HasCells W hs (l.set j y) := by
  obtain ⟨C, g, h1, h2, h3, h4⟩ := h
  refine ⟨C, g, h1, h2, h3, fun k z hz hb => ?_⟩
  by_cases e : j = k
  · subst e
    by_cases hjl : j < l.length
    · rw [List.getElem?_set_self hjl] at hz
      obtain rfl := Option.some.inj hz
      rw [hy] at hb; cases hb
    · rw [List.getElem?_eq_none (by rw [List.length_set]; omega)] at hz; cases hz
  · rw [List.getElem?_set_ne e] at hz
    exact h4 k z hz hb
theorem Keeps.alloc (h : Keeps W p q cp hs is pad m last) (o : Obj) : Keeps (W.alloc o) p q cp hs is pad m last := h.same fun k hk => Below.heap_alloc _ _ _ hk
theorem below_setCells {B : Nat} {w0 w : World} (h : Below B w0 w) {b : Nat} (hb : B ≤ b) (i : Nat) (vs : List Value) : Below B w0 (w.setCells b i vs) := by
  have hs := setCells_same b vs i w
  exact h.trans ⟨hs.1, hs.2.1, hs.2.2.1, by rw [hs.2.2.2]; exact Nat.le_refl _, fun k hk => setCells_far _ _ _ (by omega)⟩
theorem Keeps.took {j : Nat} {r : List Nat} {x : Sg} (hP : PoolS W p q cp pad (l.set j ⟨true, x, 0⟩) r) (hI : IsCells W is l) (hH : HasCells W hs l) (hpq : p < hs ∧ q < hs) (hsi : hs < is) (hj : j < l.length) (hl40 : l.length ≤ 40) (hl : l.length = m) :
    Keeps ((W.setCell ⟨is, j, none⟩ (.bool true)).setCells hs (j * 5) x.cells) p q cp hs is pad m (-1) := by
  have far : ∀ k, k ≠ hs → k ≠ is → ((W.setCell ⟨is, j, none⟩ (.bool true)).setCells hs (j * 5) x.cells).heap[k]? = W.heap[k]? := fun k h1 h2 => by
    rw [setCells_far _ _ _ h1, Below.heap_setCell _ _ _ _ h2]
  refine ⟨_, r, by rw [List.length_set, hl], hP.more (far _ (by omega) (by omega)) (far _ (by omega) (by omega)), ?_, ?_, .inl rfl⟩
  · exact (hI.put j hj hl40 ⟨true, x, 0⟩).same (setCells_far _ _ _ (by omega))
  · exact (hH.same (w2 := W.setCell ⟨is, j, none⟩ (.bool true)) (Below.heap_setCell _ _ _ _ (by show hs ≠ is; omega))).put j (by omega) x
theorem Keeps.gave {j : Nat} {r : List Nat} {k : Int} (hP : PoolS W p q cp pad (l.set j ⟨false, Sg.zero, k⟩) (j :: r)) (hI : IsCells W is l) (hH : HasCells W hs l) (hpq : p < hs ∧ q < hs) (hsi : hs < is) (hj : j < l.length) (hl40 : l.length ≤ 40) (hl : l.length = m) :
    Keeps (W.setCell ⟨is, j, none⟩ (.bool false)) p q cp hs is pad m (j : Int) := by
  have far : ∀ k, k ≠ is → (W.setCell ⟨is, j, none⟩ (.bool false)).heap[k]? = W.heap[k]? := fun k h1 => Below.heap_setCell _ _ _ _ h1
  refine ⟨_, _, by rw [List.length_set, hl], hP.more (far _ (by omega)) (far _ (by omega)), hI.put j hj hl40 ⟨false, Sg.zero, k⟩, (hH.drop j ⟨false, Sg.zero, k⟩ rfl).same (far _ (by omega)), .inr ⟨j, r, rfl, rfl⟩⟩
end
theorem neq_same (t c v u : Int) (s : Bool) (W : World) : (binOp .neq 32 (.agg #[.int .i64 t, .int .i64 c, .bool s, .int .i64 v, .int .u64 u]) (.agg #[.int .i64 t, .int .i64 c, .bool s, .int .i64 v, .int .u64 u])).run Try.prog W = Result.ok (.bool false) W := by
  simp [go_sem]
theorem isAt_over {l : List Slot} {k : Nat} (h : l.length ≤ k) : isAt l k = false := by rw [isAt, List.getElem?_eq_none h]
theorem tk_over (l : List Slot) : ∀ d : Nat, tk l (l.length + d) = tk l l.length
  | 0 => rfl
  | d + 1 => by rw [← Nat.add_assoc, tk_no (isAt_over (by omega)), tk_over l d]
set_option maxHeartbeats 4000000 in
theorem keeps_walk (n : Nat) (hn : n < 256) (a : Option Addr) (len cap : Nat) (w : World) (ha : Obj.Rows w [.int .i64, .int .i64, .int .i64, .int .i64, .bool, .int .i64, .int .u64] a len cap) :
    Calls Try.prog 3 #[.int .u8 (n : Int), .slice a len cap] w fun e w' => e = .returned (.bool true) ∧ Below w.heap.size w w' := by
  by_cases h200 : 200 < len
  · go_enter Try.func3, Try.ntmps3
    go_wp2_with (fail)
    refine (alive_at _).mono ?_
    rintro e w2 ⟨rfl, hb2⟩
    go_wp2_with (fail)
    go_ret
    exact ⟨rfl, hb2⟩
  · have hm : 1 ≤ 1 + n % 40 ∧ 1 + n % 40 ≤ 40 := by omega
    obtain ⟨m, hmm⟩ : ∃ m, m = 1 + n % 40 := ⟨_, rfl⟩
    have hmk := make_is
    have hmh := make_has
    go_enter Try.func3, Try.ntmps3
    go_wp2_with (fail)
    rw [show (1 + (n : Int) % 40) = ((1 + n % 40 : Nat) : Int) by omega]
    refine (new_s (1 + n % 40) (by omega) (by omega) w).mono ?_
    rintro e w1 ⟨rfl, hb1, q, cp, pad, hq, h0⟩
    rw [show ((1 + n % 40 : Nat) : Int) = 1 + (n : Int) % 40 by omega]
    have hq1 : q < w1.heap.size := by obtain ⟨f, m, h1, h2⟩ := h0; exact h1.lq
    have hs1 := hb1.size
    have K0 : Keeps ((w1.alloc (.cells hasZero 32)).alloc (.cells isZero 4)) w.heap.size q cp w1.heap.size (w1.heap.size + 1) pad m (-1) := by
      subst hmm
      obtain ⟨f, k, h1, h2⟩ := h0
      have hfr : ∀ k, k < 1 + n % 40 → isAt ((mk (1 + n % 40)).set (1 + n % 40 - 1) ⟨false, Sg.zero, -1⟩) k = false := fun k hk => by
        rw [isAt_free h2 k (by rw [List.length_set, mk_len]; exact hk)]
        simp [List.mem_range']
        omega
      refine ⟨_, _, by rw [List.length_set, mk_len], ⟨f, k, h1.alloc.alloc, h2⟩, ⟨isZero, by simpa using heap_alloc_new (w1.alloc (.cells hasZero 32)) (.cells isZero 4), size_madeCells _ _, fun k hk => ?_⟩, ⟨hasZero, fun _ => Sg.zero, ?_, size_madeCells _ _, fun k hk j hj => ?_, fun k y hy hb => ?_⟩, .inl rfl⟩
      · rw [isZero, made_at 40 k hk]
        by_cases hkm : k < 1 + n % 40
        · rw [hfr k hkm]
        · rw [isAt, List.getElem?_eq_none (by rw [List.length_set, mk_len]; omega)]
      · rw [Below.heap_alloc _ _ _ (by simp)]; exact heap_alloc_new w1 (.cells hasZero 32)
      · exact has_zero k hk j hj
      · have hkl := (List.getElem?_eq_some_iff.1 hy).1
        rw [List.length_set, mk_len] at hkl
        have := hfr k hkl
        rw [isAt, hy] at this
        simp [hb] at this
    have hbA : Below w.heap.size w ((w1.alloc (.cells hasZero 32)).alloc (.cells isZero 4)) := (hb1.alloc hs1 _).alloc (by simp; omega) _
    obtain ⟨hs, hhs⟩ : ∃ hs, hs = w1.heap.size := ⟨_, rfl⟩
    rw [← hhs] at K0 hq1 hs1
    clear h0 hb1
    go_wp2_with (fail)
    rw [← hhs]
    clear hhs
    have hlen : len ≤ 200 := by omega
    go_loopg [9, 10] len (fun kq v9 v10 w' => ∃ (i : Nat) (last : Int), kq + i = len ∧ v10 = .int .i64 (i : Int) ∧ v9 = .int .i64 last ∧ Below w.heap.size w w' ∧ Keeps w' w.heap.size q cp hs (hs + 1) pad m last)
    case atStart => exact ⟨0, -1, rfl, rfl, rfl, hbA, K0⟩
    case round =>
      clear K0 hbA
      obtain ⟨i, last, hi, rfl, rfl, hb, hK⟩ := hrel
      cases gk with
      | zero =>
        have hin : ¬ ((i : Int) < (len : Int)) := by omega
        clear hK
        go_wp2_with (fail)
        refine (alive_at _).mono ?_
        rintro e w2 ⟨rfl, hb2⟩
        have hb3 := hb.trans (hb2.mono hb.size)
        go_wp2_with (fail)
        go_ret
        exact ⟨rfl, hb3⟩
      | succ k1 =>
        have hin : ((i : Int) < (len : Int)) := by omega
        obtain ⟨xb, xo, rfl, hxb, hx⟩ := ha.at (by decide) i (by omega)
        obtain ⟨t0, h0, d0, rfl, wd0⟩ := hx 0 _ rfl
        obtain ⟨t1, h1, d1, rfl, wd1⟩ := hx 1 _ rfl
        obtain ⟨t2, h2, d2, rfl, wd2⟩ := hx 2 _ rfl
        obtain ⟨t3, h3, d3, rfl, wd3⟩ := hx 3 _ rfl
        obtain ⟨t4, h4, d4, rfl⟩ := hx 4 _ rfl
        obtain ⟨t5, h5, d5, rfl, wd5⟩ := hx 5 _ rfl
        obtain ⟨t6, h6, d6, rfl, wd6⟩ := hx 6 _ rfl
        simp only [List.length_cons, List.length_nil, Nat.reduceAdd, Nat.add_zero] at h0 h1 h2 h3 h4 h5 h6
        rw [← hb.cell (p := ⟨_, _, none⟩) hxb] at h0 h1 h2 h3 h4 h5 h6
        clear hx
        go_upto_block 2 with (fail)
        have hK2 := hK.alloc (.cells #[.int .i64 d0, .int .i64 d1, .int .i64 d2, .int .i64 d3, .bool d4, .int .i64 d5, .int .u64 d6] 34)
        have hb2 := hb.alloc hb.size (.cells #[.int .i64 d0, .int .i64 d1, .int .i64 d2, .int .i64 d3, .bool d4, .int .i64 d5, .int .u64 d6] 34)
        have hwr := hb.size
        have hqr : q < wr.heap.size := by obtain ⟨l, ch, _, hP, _⟩ := hK; exact hP.lq
        have hsr : hs + 1 < wr.heap.size := by obtain ⟨l, ch, _, _, hI, _⟩ := hK; exact hI.lt
        clear hK hb h0 h1 h2 h3 h4 h5 h6
        go_cut [9] (fun v9 wx => ∃ last : Int, v9 = .int .i64 last ∧ Below w.heap.size w wx ∧ Keeps wx w.heap.size q cp hs (hs + 1) pad m last)
        case first =>
          by_cases hd0 : d0 = 0
          · subst hd0
            obtain ⟨l, ch, hl, hP, hI, hH, hL⟩ := hK2
            cases ch with
            | nil =>
              go_wp2_with (fail)
              refine (full_s hP ⟨d2, d3, d4, d5, d6⟩).mono ?_
              rintro e w2 ⟨rfl, hP2, he⟩
              go_wp2_with (fail)
              refine (free_s hP2 (by omega)).mono ?_
              rintro e w3 ⟨rfl, k, hw3⟩
              subst hw3
              have hK3 : Keeps (w2.drewN k) w.heap.size q cp hs (hs + 1) pad m last :=
                ⟨l, [], hl, hP2.more rfl rfl, hI.same (he.block _ hI.lt (by omega) (by omega)), hH.same (he.block _ hH.lt (by omega) (by omega)), hL⟩
              have hb3 : Below w.heap.size w w2 := he.below hb2 hb2.size (Nat.le_refl _) (by omega)
              rw [show (([] : List Nat).length : Int) = 0 from rfl]
              clear hl hP hI hH hL hP2 he
              go_wp2_with (fail)
              go_meet
              exact ⟨last, rfl, ⟨hb3.os, hb3.tape, hb3.output, hb3.size, hb3.block⟩, hK3⟩
            | cons j r =>
              go_wp2_with (fail)
              refine (take_s hP (by omega) ⟨d2, d3, d4, d5, d6⟩).mono ?_
              rintro e w2 ⟨rfl, hP2, he⟩
              obtain ⟨f0, n0, P1, P2⟩ := hP
              have hjl : j < l.length := P2.chain.lt j (List.mem_cons_self ..)
              have hjf : isAt l j = false := by rw [isAt_free P2 j hjl]; simp
              clear P1 P2
              have hjm : (j : Int) ≤ (n : Int) % 40 := by omega
              have hj40 : (j : Int) < 40 := by omega
              have hI2 : IsCells w2 (hs + 1) l := hI.same (he.block _ hI.lt (by omega) (by omega))
              have hH2 : HasCells w2 hs l := hH.same (he.block _ hH.lt (by omega) (by omega))
              have c0 := hI2.cell j (by omega)
              rw [hjf] at c0
              have z0 := hI2.frozen j
              obtain ⟨x, c1, c2, c3, c4, c5, z1, _⟩ := hH2.cells j (by omega)
              have hsb : w2.heap[wr.heap.size]? = some (.cells #[.int .i64 0, .int .i64 d1, .int .i64 d2, .int .i64 d3, .bool d4, .int .i64 d5, .int .u64 d6] 34 (0, 0)) := by
                rw [he.block _ (by simp) (by omega) (by omega)]; exact heap_alloc_new _ _
              have s2 : w2.cell? ⟨wr.heap.size, 2, none⟩ = some (.int .i64 d2) := cell_of hsb
              have s3 : w2.cell? ⟨wr.heap.size, 3, none⟩ = some (.int .i64 d3) := cell_of hsb
              have s4 : w2.cell? ⟨wr.heap.size, 4, none⟩ = some (.bool d4) := cell_of hsb
              have s5 : w2.cell? ⟨wr.heap.size, 5, none⟩ = some (.int .i64 d5) := cell_of hsb
              have s6 : w2.cell? ⟨wr.heap.size, 6, none⟩ = some (.int .u64 d6) := cell_of hsb
              have hLL : last < 0 ∨ last = (j : Int) := by
                rcases hL with h | ⟨r', rest, h1, h2⟩
                · omega
                · cases h1; exact .inr h2
              have hb3 : Below w.heap.size w w2 := he.below hb2 hb2.size (Nat.le_refl _) (by omega)
              clear hI hH hL he
              have hK4 : Keeps (((w2.setCell ⟨hs + 1, j, none⟩ (.bool true)).setCells hs (j * 5) [.int .i64 d2, .int .i64 d3, .bool d4, .int .i64 d5, .int .u64 d6])) w.heap.size q cp hs (hs + 1) pad m (-1) :=
                Keeps.took (x := ⟨d2, d3, d4, d5, d6⟩) hP2 hI2 hH2 (by omega) (by omega) hjl (by omega) hl
              have hb4 : Below w.heap.size w ((w2.setCell ⟨hs + 1, j, none⟩ (.bool true)).setCells hs (j * 5) [.int .i64 d2, .int .i64 d3, .bool d4, .int .i64 d5, .int .u64 d6]) :=
                below_setCells (hb3.setCell (by show w.heap.size ≤ hs + 1; omega) _) (by omega) _ _
              simp only [World.setCells, Nat.add_assoc, Nat.reduceAdd] at hK4 hb4
              clear hl hI2 hH2 hP2 hb3
              rcases hLL with hLL | hLL
              all_goals
                try subst hLL
                go_wp2_with (go_quiet (fail))
                go_meet
                exact ⟨-1, rfl, hb4, hK4⟩
          · by_cases hd1 : d0 = 1
            · subst hd1
              obtain ⟨l, ch, hl, hP, hI, hH, hL⟩ := hK2
              by_cases hout : d1 < 0 ∨ d1 ≥ (l.length : Int)
              · have hK2 : Keeps (wr.alloc (.cells #[.int .i64 1, .int .i64 d1, .int .i64 d2, .int .i64 d3, .bool d4, .int .i64 d5, .int .u64 d6] 34)) w.heap.size q cp hs (hs + 1) pad m last := ⟨l, ch, hl, hP, hI, hH, hL⟩
                have hlH := Lib.hid hl
                clear hl hI hH hL
                go_wp2_with (fail)
                refine (give_out_s hP d1 hout).mono ?_
                rintro e w2 ⟨rfl, rfl⟩
                clear hout
                go_wp2_with (fail)
                go_meet
                exact ⟨last, rfl, hb2, hK2⟩
              · obtain ⟨j, rfl⟩ : ∃ j : Nat, d1 = (j : Int) := ⟨d1.toNat, by omega⟩
                have hjl : j < l.length := by omega
                obtain ⟨y, hy⟩ : ∃ y, l[j]? = some y := ⟨l[j], List.getElem?_eq_getElem hjl⟩
                cases hyb : y.is with
                | false =>
                  have hK2 : Keeps (wr.alloc (.cells #[.int .i64 1, .int .i64 j, .int .i64 d2, .int .i64 d3, .bool d4, .int .i64 d5, .int .u64 d6] 34)) w.heap.size q cp hs (hs + 1) pad m last := ⟨l, ch, hl, hP, hI, hH, hL⟩
                  have hyH := Lib.hid hy
                  have hybH := Lib.hid hyb
                  clear hl hI hH hL hy hyb hout hjl
                  go_wp2_with (fail)
                  refine (give_not_s hP hyH.out hybH.out).mono ?_
                  rintro e w2 ⟨rfl, rfl⟩
                  go_wp2_with (fail)
                  go_meet
                  exact ⟨last, rfl, hb2, hK2⟩
                | true =>
                  have hjm : (j : Int) ≤ (n : Int) % 40 := by omega
                  have hj40 : (j : Int) < 40 := by omega
                  have hiy : isAt l j = true := by rw [isAt, hy]; exact hyb
                  have hyH := Lib.hid hy
                  have hybH := Lib.hid hyb
                  have hlH := Lib.hid hl
                  have hiyH := Lib.hid hiy
                  clear hy hyb hl hiy hout
                  go_wp2_with (fail)
                  refine (give_s hP (by have := hlH.out; omega) hyH.out hybH.out).mono ?_
                  rintro e w2 ⟨rfl, ⟨k, hP2⟩, he⟩
                  have hI2 : IsCells w2 (hs + 1) l := hI.same (he.block _ hI.lt (by omega) (by omega))
                  have hH2 : HasCells w2 hs l := hH.same (he.block _ hH.lt (by omega) (by omega))
                  have c0 := hI2.cell j (by omega)
                  rw [hiyH.out] at c0
                  have z0 := hI2.frozen j
                  have hsb : w2.heap[wr.heap.size]? = some (.cells #[.int .i64 1, .int .i64 j, .int .i64 d2, .int .i64 d3, .bool d4, .int .i64 d5, .int .u64 d6] 34 (0, 0)) := by
                    rw [he.block _ (by simp) (by omega) (by omega)]; exact heap_alloc_new _ _
                  have s1 : w2.cell? ⟨wr.heap.size, 1, none⟩ = some (.int .i64 j) := cell_of hsb
                  have hb3 : Below w.heap.size w w2 := he.below hb2 hb2.size (Nat.le_refl _) (by omega)
                  have hK4 : Keeps (w2.setCell ⟨hs + 1, j, none⟩ (.bool false)) w.heap.size q cp hs (hs + 1) pad m (j : Int) :=
                    Keeps.gave hP2 hI2 hH2 (by omega) (by omega) hjl (by have := hlH.out; omega) hlH.out
                  have hb4 : Below w.heap.size w (w2.setCell ⟨hs + 1, j, none⟩ (.bool false)) := hb3.setCell (by show w.heap.size ≤ hs + 1; omega) _
                  clear hI hH hL he hI2 hH2 hP2 hb3 hP hsb hjl
                  go_wp2_with (go_quiet (fail))
                  go_meet
                  exact ⟨(j : Int), rfl, hb4, hK4⟩
            · go_wp2_with (fail)
              go_meet
              exact ⟨last, rfl, hb2, hK2⟩
        case rest =>
          clear hK2 hb2 hqr hsr hwr
          obtain ⟨last', rfl, hb2, l, ch, hl, hP, hI, hH, hL⟩ := hcut
          have hlH := Lib.hid hl
          have hLH := Lib.hid hL
          have hl40 : l.length ≤ 40 := by omega
          have hhs : hs + 1 < wc.heap.size := hI.lt
          clear hl hL
          go_wp2_with (fail)
          go_loopg [14, 15] 40 (fun kq v14 v15 w' => ∃ k : Nat, kq + k = 40 ∧ v15 = .int .i64 (k : Int) ∧ v14 = .int .i64 ((tk l k).length : Int) ∧ Below w.heap.size w w' ∧ PoolS w' w.heap.size q cp pad l ch ∧ IsCells w' (hs + 1) l ∧ HasCells w' hs l)
          case atStart => exact ⟨0, rfl, rfl, rfl, hb2, hP, hI, hH⟩
          case round =>
            have hio := Lib.hid hi
            clear hb2 hP hI hH hhs hi
            obtain ⟨k, hi, rfl, rfl, hb, hP, hI, hH⟩ := hrel
            cases gk with
            | zero =>
              have hin : ¬ ((k : Int) < 40) := by omega
              obtain ⟨f0, n0, P1, P2⟩ := hP
              have hcount := count_taken P2
              have hlen2 : (tk l k).length = (tk l l.length).length := by
                have := tk_over l (k - l.length)
                rw [show l.length + (k - l.length) = k by omega] at this
                rw [this]
              have hP : PoolS wr w.heap.size q cp pad l ch := ⟨f0, n0, P1, P2⟩
              have hK3 : Keeps wr w.heap.size q cp hs (hs + 1) pad m last' := ⟨l, ch, hlH.out, hP, hI, hH, hLH.out⟩
              have e1 : ((l.length : Int) - (ch.length : Int)) = ((tk l k).length : Int) := by rw [hlen2]; omega
              have e2 : ((tk l k).length : Int) + (ch.length : Int) = 1 + (n : Int) % 40 := by rw [hlen2]; have := hlH.out; omega
              have e1H := Lib.hid e1
              have hch : ch.length ≤ 40 := by omega
              have htk := tk_len l k
              have e5 : (((tk l k).length : Int) + (ch.length : Int) != 1 + (n : Int) % 40) = false := bne_eq_false_iff_eq.2 e2
              clear hcount hlen2 e1 e2 P1 P2 hI hH
              go_wp2_with (fail)
              refine (len_s hP).mono ?_
              rintro e w2 ⟨rfl, rfl⟩
              rw [e1H.out]
              go_wp2_with (fail)
              refine (len_s hP).mono ?_
              rintro e w2 ⟨rfl, rfl⟩
              rw [e1H.out]
              go_wp2_with (fail)
              refine (free_s hP (by omega)).mono ?_
              rintro e w2 ⟨rfl, dr, rfl⟩
              go_wp2_with (fail)
              go_roundg k1
              case measure => omega
              case rel => exact ⟨i + 1, last', by have := hio.out; omega, by go_num, rfl, ⟨hb.os, hb.tape, hb.output, hb.size, hb.block⟩, hK3.same (fun _ _ => rfl)⟩
            | succ k2 =>
              have hin : ((k : Int) < 40) := by omega
              have htk := tk_len l k
              by_cases hkl : k < l.length
              · obtain ⟨y, hy⟩ : ∃ y, l[k]? = some y := ⟨l[k], List.getElem?_eq_getElem hkl⟩
                go_wp2_with (fail)
                refine (of_s hP hy).mono ?_
                rintro e w2 ⟨he, hP2, hE⟩
                dsimp only [Sg.val] at he
                subst he
                have hI2 : IsCells w2 (hs + 1) l := hI.same (hE.block _ hI.lt (by omega) (by omega))
                have hH2 : HasCells w2 hs l := hH.same (hE.block _ hH.lt (by omega) (by omega))
                have hsw : hs + 1 < w2.heap.size := hI2.lt
                have hsw2 : hs < w2.heap.size := by omega
                have c0 := hI2.cell k (by omega)
                have z0 := hI2.frozen k
                obtain ⟨x, c1, c2, c3, c4, c5, z1, hx⟩ := hH2.cells k (by omega)
                have hb3 : Below w.heap.size w (w2.alloc (.cells #[.int .i64 y.x.t, .int .i64 y.x.c, .bool y.x.s, .int .i64 y.x.v, .int .u64 y.x.u] 32)) := (hE.below hb hb.size (Nat.le_refl _) (by omega)).alloc (Nat.le_trans hb.size hE.size) _
                have hia : isAt l k = y.is := by rw [isAt, hy]
                rw [hia] at c0
                cases hyb : y.is with
                | false =>
                  rw [hyb] at hia
                  have hRH := Lib.hid (tk_no hia)
                  rw [hyb] at c0
                  clear hI hH hb hP hia hyb hx hy
                  go_wp2_with (go_quiet (fail))
                  go_roundg k2
                  case measure => omega
                  case rel => exact ⟨k + 1, by omega, by go_num, by rw [hRH.out], ⟨hb3.os, hb3.tape, hb3.output, hb3.size, hb3.block⟩, hP2.more (Below.heap_alloc _ _ _ hP2.lp) (Below.heap_alloc _ _ _ hP2.lq), hI2.same (Below.heap_alloc _ _ _ hI2.lt), hH2.same (Below.heap_alloc _ _ _ hH2.lt)⟩
                | true =>
                  rw [hyb] at hia
                  have hRH := Lib.hid (tk_yes hia)
                  rw [hyb] at c0
                  obtain rfl := hx y hy hyb
                  have hsame := fun W => neq_same y.x.t y.x.c y.x.v y.x.u y.x.s W
                  clear hI hH hb hP hia hyb hx hy
                  go_wp2_with (go_quiet (fail))
                  go_roundg k2
                  case measure => omega
                  case rel => exact ⟨k + 1, by omega, by go_num, by rw [hRH.out, List.length_append]; rfl, ⟨hb3.os, hb3.tape, hb3.output, hb3.size, hb3.block⟩, hP2.more (Below.heap_alloc _ _ _ hP2.lp) (Below.heap_alloc _ _ _ hP2.lq), hI2.same (Below.heap_alloc _ _ _ hI2.lt), hH2.same (Below.heap_alloc _ _ _ hH2.lt)⟩
              · go_wp2_with (fail)
                refine (of_out_s hP (k : Int) (.inr (by omega))).mono ?_
                rintro e w2 ⟨he, hP2, hE⟩
                dsimp only [Sg.val, Sg.zero] at he
                subst he
                have hI2 : IsCells w2 (hs + 1) l := hI.same (hE.block _ hI.lt (by omega) (by omega))
                have hH2 : HasCells w2 hs l := hH.same (hE.block _ hH.lt (by omega) (by omega))
                have hsw : hs + 1 < w2.heap.size := hI2.lt
                have hsw2 : hs < w2.heap.size := by omega
                have c0 := hI2.cell k (by omega)
                have z0 := hI2.frozen k
                rw [isAt_over (by omega)] at c0
                obtain ⟨x, c1, c2, c3, c4, c5, z1, _⟩ := hH2.cells k (by omega)
                have hb3 : Below w.heap.size w (w2.alloc (.cells #[.int .i64 0, .int .i64 0, .bool false, .int .i64 0, .int .u64 0] 32)) := (hE.below hb hb.size (Nat.le_refl _) (by omega)).alloc (Nat.le_trans hb.size hE.size) _
                have hR : tk l (k + 1) = tk l k := tk_no (isAt_over (by omega))
                have hRH := Lib.hid hR
                clear hI hH hb hP hR
                go_wp2_with (go_quiet (fail))
                go_roundg k2
                case measure => omega
                case rel => exact ⟨k + 1, by omega, by go_num, by rw [hRH.out], ⟨hb3.os, hb3.tape, hb3.output, hb3.size, hb3.block⟩, hP2.more (Below.heap_alloc _ _ _ hP2.lp) (Below.heap_alloc _ _ _ hP2.lq), hI2.same (Below.heap_alloc _ _ _ hI2.lt), hH2.same (Below.heap_alloc _ _ _ hH2.lt)⟩
theorem poolKeeps_walk (n : Int) (a : Option Addr) (len cap : Nat) (w : World) (hn : (Lit.int .u8 n).wf = true) (ha : Obj.Rows w [.int .i64, .int .i64, .int .i64, .int .i64, .bool, .int .i64, .int .u64] a len cap) :
    Calls Try.prog 3 #[.int .u8 n, .slice a len cap] w fun e w' => e = .returned (.bool true) ∧ Below w.heap.size w w' := by
  have hb := Obj.u8_of hn
  obtain ⟨n, rfl⟩ := Int.eq_ofNat_of_zero_le hb.1
  exact keeps_walk n (by omega) a len cap w ha
end Go.Proofs.Ytghbcdpnngheoad.PoolCode
