
/- The walk of OrderFair. -/
import Derived.Test.YtabcodjalacdjaaOrderAlive
namespace Go.Proofs.Ytabcodjalacdjaa.OrderFair
open Go Go.RowKit Go.Proofs.Ytabcodjalacdjaa.Obj Go.Proofs.Ytabcodjalacdjaa.Row Go.Proofs.Ytabcodjalacdjaa.OrderCode Go.Proofs.YtabcodjalacdjaaW.PrintWords Go.Proofs.YtabcodjalacdjaaW.PrintMore
set_option linter.unusedVariables false
set_option maxRecDepth 100000
theorem info3 : (Try.prog.info? 3).map (fun i => (i.zero, i.size, i.bytes)) = some (some (.int .i64 0), 1, 8) := by kernel_rfl
theorem made_ints (m : Nat) (hm : m ≤ 6) (W : World) : (Instr.makeSlice 28 (.int .i64 (m : Int)) (.int .i64 (m : Int))).run Try.prog W = .ok (.slice (some ⟨W.heap.size, 0, none⟩) m m) (W.alloc (.cells (nums .i64 (List.replicate m 0)).toArray 3)) := by
  obtain ⟨i0, hi, hz⟩ := Option.map_eq_some_iff.1 info3
  simp only [Prod.mk.injEq] at hz
  obtain ⟨h1, h2, h3⟩ := hz
  have := run_make (P := Try.prog) W 28 3 i0 (.int .i64 0) Try.underlying28 hi h1 .i64 .i64 m m (by omega) (by omega) (by rw [h3]; omega) (by omega)
  have e : madeCells #[Value.int .i64 0] m = (nums .i64 (List.replicate m 0)).toArray := by
    apply Array.ext'
    apply List.ext_getElem?
    intro i
    unfold madeCells
    by_cases h : i < m
    · simp [h, nums, Nat.mod_one]
    · simp [h, nums]
  rw [← e]
  simpa [h2, Value.cells] using this
/-- What stands, and how often each one was passed over. -/
structure Keep (w : World) (o pb n : Nat) (L P : List Int) : Prop where
  ord : OrdAt w o L
  full : Full n L
  row : Blk w pb 3 (nums .i64 P)
  len : P.length = n
theorem ints_at {k : IntKind} {w : World} {a : Option Addr} {len cap : Nat} {zs : List Int} (h : Obj.Ints k w a len cap zs) (i : Nat) (hi : i < len) :
    ∃ b o z, a = some ⟨b, o, none⟩ ∧ b < w.heap.size ∧ w.cell? ⟨b, o + i, none⟩ = some (.int k z) ∧ (Lit.int k z).wf = true := by
  rcases h with ⟨_, h0, _⟩ | ⟨x, rfl, h1, h2, h3, h4, h5⟩
  · omega
  · obtain ⟨b, o, e, hb, hc⟩ := (Nums.mk (k := k) (w := w) (a := some x) (l := zs) (fun i hi => ⟨x, rfl, h4 i hi⟩)).at i (by omega)
    have hm : zs.getD i 0 ∈ zs := by simp [List.getD, List.getElem?_eq_getElem (show i < zs.length by omega)]
    exact ⟨b, o, _, e, hb, hc, h5 _ hm⟩
theorem wrap_pow {n : Nat} (hn : n ≤ 6) : IntKind.u64.wrap (IntKind.u64.wrap (2 ^ n) - 1) = ((2 ^ n - 1 : Nat) : Int) := by
  have : n = 0 ∨ n = 1 ∨ n = 2 ∨ n = 3 ∨ n = 4 ∨ n = 5 ∨ n = 6 := by omega
  rcases this with rfl | rfl | rfl | rfl | rfl | rfl | rfl <;> decide
theorem low_bits {n : Nat} (hn : n ≤ 6) {z : Int} (hz : (Lit.int .u64 z).wf = true) : ∃ s : Nat, bits BinOp.and IntKind.u64 z (IntKind.u64.wrap (IntKind.u64.wrap (2 ^ n) - 1)) = (s : Int) ∧ s < 2 ^ n := by
  obtain ⟨h0, h1⟩ := u64_of hz
  rw [wrap_pow hn]
  obtain ⟨x, rfl⟩ : ∃ x : Nat, z = (x : Int) := ⟨z.toNat, by omega⟩
  have hp : (2 : Nat) ^ n ≤ 2 ^ 6 := Nat.pow_le_pow_right (by decide) hn
  have hq := Nat.two_pow_pos n
  rw [(bits_nat .u64 64 (by decide) u64_id x (2 ^ n - 1) (by omega) (by omega)).1]
  refine ⟨_, rfl, ?_⟩
  have := @Nat.and_le_right x (2 ^ n - 1)
  omega
theorem small_full {n : Nat} (hn : n ≤ 6) {L : List Int} (h : Full n L) : Small L := fun x hx => by
  obtain ⟨j, hj, rfl⟩ := h.mem.1 hx
  exact ⟨j, rfl, by omega⟩
theorem bit_no {s k : Nat} (h : s.testBit k = true) : (((s : Int) / 2 ^ k).tmod 2 == 0) = false := by
  rw [Nat.testBit_eq_decide_div_mod_eq, decide_eq_true_eq] at h
  rw [beq_eq_false_iff_ne]
  have e : ((s : Int) / 2 ^ k) = ((s / 2 ^ k : Nat) : Int) := by simp
  rw [e]
  generalize s / 2 ^ k = q at *
  rw [Int.tmod_eq_emod_of_nonneg (by omega)]
  omega
theorem bit_yes1 {s k : Nat} (h : s.testBit k = true) : (((s : Int) / 2 ^ k).tmod 2 == 1) = true := by
  rw [Nat.testBit_eq_decide_div_mod_eq, decide_eq_true_eq] at h
  rw [beq_iff_eq]
  have e : ((s : Int) / 2 ^ k) = ((s / 2 ^ k : Nat) : Int) := by simp
  rw [e]
  generalize s / 2 ^ k = q at *
  rw [Int.tmod_eq_emod_of_nonneg (by omega)]
  omega
theorem bit_no1 {s k : Nat} (h : s.testBit k = false) : (((s : Int) / 2 ^ k).tmod 2 == 1) = false := by
  rw [Nat.testBit_eq_decide_div_mod_eq, decide_eq_false_iff_not] at h
  rw [beq_eq_false_iff_ne]
  have e : ((s : Int) / 2 ^ k) = ((s / 2 ^ k : Nat) : Int) := by simp
  rw [e]
  generalize s / 2 ^ k = q at *
  rw [Int.tmod_eq_emod_of_nonneg (by omega)]
  omega
theorem Keep.below {w w' : World} {o pb n : Nat} {L P : List Int} (h : Keep w o pb n L P) (hb : Below w.heap.size w w') : Keep w' o pb n L P :=
  ⟨h.ord.below hb, h.full, h.row.same (hb.block _ h.row.lt), h.len⟩
theorem Keep.took {w w' : World} {o pb n : Nat} {L P : List Int} {k : Int} (h : Keep w o pb n L P) (hk : k ∈ L) (h2 : OrdAt w' o (tookL L k)) (ho : Only (· = o) w w') (hne : pb ≠ o) : Keep w' o pb n (tookL L k) P :=
  ⟨h2, h.full.took hk, h.row.only ho hne, h.len⟩
theorem nums_set (P : List Int) (i : Nat) (x : Int) : (nums .i64 P).set i (.int .i64 x) = nums .i64 (P.set i x) := by simp [nums, List.map_set]
theorem Keep.set {w : World} {o pb n : Nat} {L P : List Int} (h : Keep w o pb n L P) (hne : pb ≠ o) (i : Nat) (x : Int) : Keep (w.setCell ⟨pb, i, none⟩ (.int .i64 x)) o pb n L (P.set i x) := by
  refine ⟨h.ord.same ?_, h.full, ?_, by rw [List.length_set]; exact h.len⟩
  · exact Below.heap_setCell _ _ _ _ (Ne.symm hne)
  · rw [← nums_set]; exact h.row.set i _
def Sum (n : Nat) (L P : List Int) : Prop := ∀ c : Nat, c < n → 0 ≤ P.getD c 0 ∧ P.getD c 0 + (L.idxOf (c : Int) : Int) ≤ (n : Int) - 1
/-- In the midst of a round: those before c have been counted. -/
def Part (n : Nat) (L : List Int) (k : Int) (c : Nat) (P : List Int) : Prop := ∀ j : Nat, j < n → 0 ≤ P.getD j 0 ∧
  ((c ≤ j ∨ (j : Int) = k) → P.getD j 0 + (L.idxOf (j : Int) : Int) ≤ (n : Int) - 1) ∧ ((j < c ∧ (j : Int) ≠ k) → P.getD j 0 + ((tookL L k).idxOf (j : Int) : Int) ≤ (n : Int) - 1)
theorem Part.start {n : Nat} {L P : List Int} {k : Int} (hS : Sum n L P) : Part n L k 0 P := fun j hj => by
  obtain ⟨h1, h2⟩ := hS j hj
  exact ⟨h1, fun _ => h2, fun h => absurd h.1 (by omega)⟩
theorem Part.le {n : Nat} {L P : List Int} {k : Int} {c : Nat} (h : Part n L k c P) {j : Nat} (hj : j < n) : 0 ≤ P.getD j 0 ∧ P.getD j 0 ≤ (n : Int) - 1 := by
  obtain ⟨h1, h2, h3⟩ := h j hj
  by_cases e : c ≤ j ∨ (j : Int) = k
  · have := h2 e; omega
  · have := h3 (by omega); omega
theorem getD_set {P : List Int} {i j : Nat} {x : Int} (hi : i < P.length) : (P.set i x).getD j 0 = if i = j then x else P.getD j 0 := by
  simp only [List.getD_eq_getElem?_getD, List.getElem?_set]
  by_cases h : i = j
  · subst h; simp [hi]
  · simp [h]
/-- One that is not counted: it is not ready, or it is the one that is taken. -/
theorem Part.pass {n : Nat} {L P : List Int} {k : Int} {c : Nat} (hF : Full n L) (hk : k ∈ L) (h : Part n L k c P) (hc : c < n) : Part n L k (c + 1) P := fun j hj => by
  obtain ⟨h1, h2, h3⟩ := h j hj
  refine ⟨h1, fun h => h2 (by omega), fun ⟨h4, h5⟩ => ?_⟩
  by_cases e : j = c
  · subst e
    have := h2 (.inl (Nat.le_refl _))
    rw [idx_took hF.nodup hk (hF.mem.2 ⟨j, hj, rfl⟩) h5]
    split <;> omega
  · exact h3 ⟨by omega, h5⟩
/-- One that is counted: it stood behind the one that is taken. -/
theorem Part.count {n : Nat} {L P : List Int} {k : Int} {c : Nat} (hF : Full n L) (hk : k ∈ L) (h : Part n L k c P) (hc : c < n) (hl : P.length = n) (hck : (c : Int) ≠ k) (hf : L.idxOf k ≤ L.idxOf (c : Int)) :
    Part n L k (c + 1) (P.set c (P.getD c 0 + 1)) := fun j hj => by
  obtain ⟨h1, h2, h3⟩ := h j hj
  rw [getD_set (by omega)]
  by_cases e : c = j
  · subst e
    rw [if_pos rfl]
    have := h2 (.inl (Nat.le_refl _))
    have hne : L.idxOf k ≠ L.idxOf (c : Int) := fun e => hck (by
      have a1 := List.idxOf_lt_length_iff.2 hk
      have a2 := List.idxOf_lt_length_iff.2 (hF.mem.2 ⟨c, hj, rfl⟩)
      have b1 : L[L.idxOf k] = k := by simp
      have b2 : L[L.idxOf (c : Int)] = (c : Int) := by simp
      rw [← b1, ← b2]
      simp only [e])
    refine ⟨by omega, fun h => by omega, fun _ => ?_⟩
    rw [idx_took hF.nodup hk (hF.mem.2 ⟨c, hj, rfl⟩) hck, if_neg (by omega)]
    omega
  · rw [if_neg e]
    exact ⟨h1, fun h => h2 (by omega), fun ⟨h4, h5⟩ => h3 ⟨by omega, h5⟩⟩
theorem Part.done {n : Nat} {L P : List Int} {k : Nat} (hF : Full n L) (hk : (k : Int) ∈ L) (h : Part n L (k : Int) n P) (hkn : k < n) (hl : P.length = n) : Sum n (tookL L (k : Int)) (P.set k 0) := fun j hj => by
  obtain ⟨h1, h2, h3⟩ := h j hj
  rw [getD_set (by omega)]
  by_cases e : k = j
  · subst e
    rw [if_pos rfl, idx_took_self hF.nodup hk, hF.len]
    omega
  · rw [if_neg e]
    exact ⟨h1, h3 ⟨hj, by omega⟩⟩
set_option maxHeartbeats 16000000 in
theorem fair_walk (m : Int) (a : Option Addr) (len cap : Nat) (zs : List Int) (w : World) (hm : (Lit.int .u8 m).wf = true) (ha : Obj.Ints .u64 w a len cap zs) :
    Calls Try.prog 3 #[.int .u8 m, .slice a len cap] w fun e w' => e = .returned (.bool true) ∧ Below w.heap.size w w' := by
  obtain ⟨hm0, hm1⟩ := u8_of hm
  by_cases h300 : 300 < len
  · go_enter Try.func3, Try.ntmps3
    go_wp2_with (fail)
    refine (alive_at _).mono ?_
    rintro e w2 ⟨rfl, hb2⟩
    go_wp2_with (fail)
    go_ret
    exact ⟨rfl, hb2⟩
  · obtain ⟨n, hn⟩ : ∃ n : Nat, (1 + m % 6) = (n : Int) := ⟨(1 + m % 6).toNat, by omega⟩
    have hn1 : 1 ≤ n := by omega
    have hn2 : n ≤ 6 := by omega
    have hlen : len ≤ 300 := by omega
    go_enter Try.func3, Try.ntmps3
    go_wp2_with (fail)
    clear hn hm
    refine (new_at n hn1 hn2 w).mono ?_
    rintro e w1 ⟨rfl, hb1, h1⟩
    have hmk := made_ints n hn2
    have hs1 := h1.lt
    have K0 : Keep (w1.alloc (.cells (nums .i64 (List.replicate n 0)).toArray 3)) w.heap.size w1.heap.size n (upTo n) (List.replicate n 0) :=
      ⟨h1.below ((Below.refl _ w1).alloc (Nat.le_refl _) _), Full.start n, Blk.new w1 _ _, List.length_replicate⟩
    have k0 : Below w.heap.size w (w1.alloc (.cells (nums .i64 (List.replicate n 0)).toArray 3)) := hb1.alloc hb1.size _
    have S0 : Sum n (upTo n) (List.replicate n 0) := fun c hc => by
      have : (upTo n).idxOf (c : Int) < n := by
        have := List.idxOf_lt_length_iff.2 ((Full.start n).mem.2 ⟨c, hc, rfl⟩)
        rwa [upTo_len] at this
      have e : (List.replicate n (0 : Int)).getD c 0 = 0 := by simp [List.getD, hc]
      rw [e]; omega
    clear h1 hb1
    go_wp2_with (fail)
    obtain ⟨pb, hpb⟩ : ∃ pb, pb = w1.heap.size := ⟨_, rfl⟩
    rw [← hpb] at K0 hs1 ⊢
    clear hpb
    go_loopg [9] len (fun kq v9 w' => ∃ (i : Nat) (L P : List Int), kq + i = len ∧ v9 = .int .i64 (i : Int) ∧ Below w.heap.size w w' ∧ Keep w' w.heap.size pb n L P ∧ Sum n L P)
    case atStart => exact ⟨0, _, _, rfl, rfl, k0, K0, S0⟩
    case round =>
      clear K0 k0 S0
      obtain ⟨i, L, P, hi, rfl, hb, hK, hS⟩ := hrel
      cases gk with
      | zero =>
        have hin : ¬ ((i : Int) < (len : Int)) := by omega
        clear hK hS
        go_wp2_with (fail)
        refine (alive_at _).mono ?_
        rintro e w2 ⟨rfl, hb2⟩
        go_wp2_with (fail)
        go_ret
        exact ⟨rfl, hb.trans (hb2.mono hb.size)⟩
      | succ k1 =>
        have hin : ((i : Int) < (len : Int)) := by omega
        obtain ⟨b0, o0, z, rfl, hb0, hc0, hz⟩ := ints_at ha i (by omega)
        rw [← hb.cell (p := ⟨_, _, none⟩) hb0] at hc0
        obtain ⟨s, hs, hsn⟩ := low_bits hn2 hz
        have hs64 : s < 2 ^ 64 := Nat.lt_of_lt_of_le hsn (Nat.pow_le_pow_right (by decide) (by omega))
        have hp := pick_at hK.ord hs64 (small_full hn2 hK.full)
        go_wp2_with (fail)
        clear hs hc0 hz
        have hpk : (L.filter (rdy s) = [] ∧ s = 0 ∧ pickV L s = 0 ∧ pickB L s = false) ∨ (∃ k : Nat, k < n ∧ pickV L s = (k : Int) ∧ pickB L s = true ∧ (k : Int) ∈ L ∧ s.testBit k = true ∧ s ≠ 0 ∧ ∀ c ∈ L, rdy s c = true → L.idxOf (k : Int) ≤ L.idxOf c) := by
          cases hf : L.filter (rdy s) with
          | nil => exact .inl ⟨rfl, none_ready hK.full hf hsn, by rw [pickV, hf]; rfl, by rw [pickB, hf]; rfl⟩
          | cons x r =>
            obtain ⟨h1, h2, h3⟩ := first_le hf
            obtain ⟨k, hk, rfl⟩ := hK.full.mem.1 h1
            exact .inr ⟨k, hk, by rw [pickV, hf]; rfl, by rw [pickB, hf]; rfl, h1, h2, some_ready (L := L) h2, h3⟩
        generalize pickV L s = pv at *
        generalize pickB L s = pb' at *
        rcases hpk with ⟨hf, rfl, rfl, rfl⟩ | ⟨k, hk, rfl, rfl, hkm, hkb, hs0, hfirst⟩
        · refine hp.mono ?_
          rintro e w2 ⟨rfl, hb2⟩
          go_wp2_with (fail)
          have hb3 := hb.trans (hb2.mono hb.size)
          go_roundg k1
          case measure => omega
          case rel => exact ⟨i + 1, L, P, by omega, by go_num, hb3, hK.below hb2, hS⟩
        · have hsne : ((s : Int) != 0) = true := by rw [bne_iff_ne]; omega
          have hk0 : (0 : Int) ≤ (k : Int) := by omega
          have hkn : ¬ (n ≤ k) := by omega
          have hbit := bit_no hkb
          refine hp.mono ?_
          rintro e w2 ⟨rfl, hb2⟩
          have hb3 := hb.trans (hb2.mono hb.size)
          have hK3 := hK.below hb2
          clear hb hK hp
          go_wp2_with (fail)
          refine (took_yes hK3.ord hkm).mono ?_
          rintro e w3 ⟨rfl, h3, o3⟩
          have hK4 := hK3.took hkm h3 o3 (by omega)
          have hb4 := o3.below hb3 hb3.size (fun k _ h => Nat.le_of_eq h.symm)
          have hfull := hK3.full
          have hC0 : Part n L (k : Int) 0 P := Part.start hS
          clear hK3 hb3 hb2 hbit hS o3 h3
          go_wp2_with (fail)
          go_loopg [13] n (fun kq v13 w' => ∃ (c : Nat) (P : List Int), kq + c = n ∧ v13 = .int .i64 (c : Int) ∧ Below w.heap.size w w' ∧ Keep w' w.heap.size pb n (tookL L (k : Int)) P ∧ Part n L (k : Int) c P)
          case atStart => exact ⟨0, P, rfl, rfl, hb4, hK4, hC0⟩
          case round =>
            clear hb4 hK4 hC0
            obtain ⟨c, P, hc, rfl, hb, hK, hS⟩ := hrel
            cases gk with
            | zero =>
              have hin2 : ¬ ((c : Int) < (n : Int)) := by omega
              obtain rfl : c = n := by omega
              have hB := hK.row
              have hfz := hB.frozen
              have hkl : k < P.length := by rw [hK.len]; omega
              obtain ⟨y, hy⟩ : ∃ y, wr.cell? ⟨pb, k, none⟩ = some y := ⟨_, (hB.cell k).trans (List.getElem?_eq_getElem (by rw [OrderCode.nums_length]; exact hkl))⟩
              have hset := hK.set (by omega) k (0 : Int)
              have hb5 := hb.setCell (p := ⟨pb, k, none⟩) (Nat.le_of_lt hs1) (.int .i64 0)
              have hD := Part.done hfull hkm hS hk hK.len
              clear hK hS hb hB
              go_wp2_with (fail)
              go_roundg k1
              case measure => omega
              case rel => exact ⟨i + 1, _, _, by omega, by go_num, hb5, hset, hD⟩
            | succ k2 =>
              have hin2 : ((c : Int) < (n : Int)) := by omega
              have hcn : c < n := by omega
              have hB := hK.row
              have hfz := hB.frozen
              have hcl : c < P.length := by rw [hK.len]; exact hcn
              obtain ⟨x, hx⟩ : ∃ x, x = P.getD c 0 := ⟨_, rfl⟩
              have hcx : wr.cell? ⟨pb, c, none⟩ = some (.int .i64 x) := by
                rw [hB.cell c, nums, List.getElem?_map, List.getElem?_eq_getElem hcl, hx, List.getD_eq_getElem?_getD, List.getElem?_eq_getElem hcl]; rfl
              have hx0 := hS.le hcn
              rw [← hx] at hx0
              obtain ⟨hx1, hx2⟩ := hx0
              by_cases hcb : s.testBit c = true ∧ c ≠ k
              · obtain ⟨hcb, hck⟩ := hcb
                have hset := hK.set (by omega) c (x + 1)
                have hP2 := Part.count hfull hkm hS hcn hK.len (by omega) (hfirst _ (hfull.mem.2 ⟨c, hcn, rfl⟩) hcb)
                rw [← hx] at hP2
                have hq := hP2.le hcn
                rw [getD_set hcl, if_pos rfl] at hq
                have hbit := bit_yes1 hcb
                have hck1 : ¬ ((c : Int) = (k : Int)) := by omega
                have hck2 : ((c : Int) != (k : Int)) = true := by rw [bne_iff_ne]; exact hck1
                have hb5 := hb.setCell (p := ⟨pb, c, none⟩) (Nat.le_of_lt hs1) (.int .i64 (x + 1))
                clear hK hS hb hB hcb hfirst hx
                go_wp2_with (fail)
                go_roundg k2
                case measure => omega
                case rel => exact ⟨c + 1, _, by omega, by go_num, hb5, hset, hP2⟩
              · have hP2 := Part.pass hfull hkm hS hcn
                by_cases hck : c = k
                · subst hck
                  clear hS hB hcb hfirst hx
                  go_wp2_with (fail)
                  go_roundg k2
                  case measure => omega
                  case rel => exact ⟨c + 1, P, by omega, by go_num, hb, hK, hP2⟩
                · have hbit := bit_no1 (show s.testBit c = false by cases h : s.testBit c; rfl; exact absurd ⟨h, hck⟩ hcb)
                  have hck1 : ¬ ((c : Int) = (k : Int)) := by omega
                  have hck2 : ((c : Int) != (k : Int)) = true := by rw [bne_iff_ne]; exact hck1
                  clear hS hB hcb hfirst hx
                  go_wp2_with (fail)
                  go_roundg k2
                  case measure => omega
                  case rel => exact ⟨c + 1, P, by omega, by go_num, hb, hK, hP2⟩
end Go.Proofs.Ytabcodjalacdjaa.OrderFair
