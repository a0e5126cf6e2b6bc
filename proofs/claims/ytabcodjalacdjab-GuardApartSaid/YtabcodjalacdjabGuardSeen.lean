
/- guard's law: apart. -/
import Derived.Test.YtabcodjalacdjabGuardMany
namespace Go.Proofs.Ytabcodjalacdjab.GuardCode
open Go Go.RowKit Go.Proofs.Ytabcodjalacdjab.Obj Go.Proofs.Ytabcodjalacdjab.Row Go.Proofs.Ytabcodjalacdjab.CellCode Go.Proofs.Ytabcodjalacdjab.TicketCode Go.Proofs.YtabcodjalacdjabW.PrintWords Go.Proofs.YtabcodjalacdjabW.PrintMore
set_option linter.unusedVariables false
set_option maxRecDepth 100000
def bools (L : List Bool) : List Value := L.map Value.bool
theorem bool_info : (Try.prog.info? 4).map (fun i => (i.zero, i.size, i.bytes)) = some (some (.bool false), 1, 1) := by kernel_rfl
theorem made_bools (m : Nat) (hm : m ≤ 8) (W : World) : (Instr.makeSlice 36 (.int .i64 (m : Int)) (.int .i64 (m : Int))).run Try.prog W = .ok (.slice (some ⟨W.heap.size, 0, none⟩) m m) (W.alloc (.cells (bools (List.replicate m false)).toArray 4)) := by
  obtain ⟨i0, hi, hz⟩ := Option.map_eq_some_iff.1 bool_info
  simp only [Prod.mk.injEq] at hz
  obtain ⟨h1, h2, h3⟩ := hz
  have := run_make (P := Try.prog) W 36 4 i0 (.bool false) Try.underlying36 hi h1 .i64 .i64 m m (by omega) (by omega) (by rw [h3]; omega) (by omega)
  have e : madeCells #[Value.bool false] m = (bools (List.replicate m false)).toArray := by
    apply Array.ext'
    apply List.ext_getElem?
    intro i
    unfold madeCells
    by_cases h : i < m
    · simp [h, bools, Nat.mod_one]
    · simp [h, bools]
  rw [← e]
  simpa [h2, Value.cells] using this
/-- A slice of guards. -/
structure PSl (w : World) (A : Option Addr) (ps : List Nat) : Prop where
  cell : ∀ i p, ps[i]? = some p → ∃ b o, A = some ⟨b, o, none⟩ ∧ w.cell? ⟨b, o + i, none⟩ = some (.pointer (some ⟨p, 0, none⟩))
  typ : ∀ a, A = some a → ∃ vs, w.heap[a.block]? = some (.cells vs 29 (0, 0))
section
variable {w w' : World} {g x c lb : Nat} {s : Gs} {L : List Nat} {N : Nat} {A : Option Addr} {r r' D G : List Int} {ps : List Nat} {ss : List Gs}
theorem bl_get {b i : Nat} {B : List Bool} (h : Blk w b 4 (bools B)) (hi : i < B.length) : w.cell? ⟨b, i, none⟩ = some (.bool (B.getD i false)) := by
  rw [h.cell i, bools, List.getElem?_map, List.getD_eq_getElem?_getD, List.getElem?_eq_getElem hi]; rfl
theorem bl_set {b : Nat} {B : List Bool} (h : Blk w b 4 (bools B)) (i : Nat) (v : Bool) : Blk (w.setCell ⟨b, i, none⟩ (.bool v)) b 4 (bools (B.set i v)) := by
  have := h.set i (.bool v)
  rw [show (bools B).set i (.bool v) = bools (B.set i v) by rw [bools, bools, List.map_set]] at this
  exact this
theorem PSl.lt (h : PSl w A ps) {a : Addr} (ha : A = some a) : a.block < w.heap.size := by
  obtain ⟨vs, hv⟩ := h.typ a ha
  rcases Nat.lt_or_ge a.block w.heap.size with h1 | h1
  · exact h1
  · rw [Array.getElem?_eq_none h1] at hv; cases hv
theorem PSl.same (h : PSl w A ps) (e : ∀ a, A = some a → w'.heap[a.block]? = w.heap[a.block]?) : PSl w' A ps := by
  refine ⟨fun i p hp => ?_, fun a ha => by obtain ⟨vs, hv⟩ := h.typ a ha; exact ⟨vs, (e a ha).trans hv⟩⟩
  obtain ⟨b, o, e1, h1⟩ := h.cell i p hp
  exact ⟨b, o, e1, by rw [← h1]; exact cell_same (e ⟨b, o, none⟩ e1)⟩
theorem PSl.below (h : PSl w A ps) (hb : Below w.heap.size w w') : PSl w' A ps := h.same fun a ha => hb.block _ (h.lt ha)
theorem PSl.only {S : Nat → Prop} (h : PSl w A ps) (o : Only S w w') (hS : ∀ k, S k → ∀ vs, w.heap[k]? ≠ some (.cells vs 29 (0, 0))) : PSl w' A ps :=
  h.same fun a ha => by
    obtain ⟨vs, hv⟩ := h.typ a ha
    exact o.block _ (h.lt ha) (fun hs => hS _ hs vs hv)
/-- Which locks were seen. -/
def seenL (H : List Int) : List Bool := (List.range 6).map fun k : Nat => decide ((k : Int) ∈ H)
theorem seenL_get (H : List Int) {k : Nat} (hk : k < 6) : (seenL H).getD k false = decide ((k : Int) ∈ H) := by
  rw [seenL, List.getD_eq_getElem?_getD, List.getElem?_map, List.getElem?_range hk]; rfl
theorem seenL_set (H : List Int) {k : Nat} (hk : k < 6) : (seenL H).set k true = seenL (H ++ [(k : Int)]) := by
  apply List.ext_getElem?
  intro j
  rw [List.getElem?_set]
  have hl : ∀ H, (seenL H).length = 6 := fun H => by simp [seenL]
  by_cases e : k = j
  · subst e
    rw [if_pos rfl, if_pos (by rw [hl]; exact hk)]
    rw [seenL, List.getElem?_map, List.getElem?_range hk]
    simp
  · rw [if_neg e]
    rcases Nat.lt_or_ge j 6 with h6 | h6
    · rw [seenL, seenL, List.getElem?_map, List.getElem?_map, List.getElem?_range h6]
      simp
      omega
    · rw [List.getElem?_eq_none (by rw [hl]; exact h6), List.getElem?_eq_none (by rw [hl]; exact h6)]
/-- What the first i have. -/
def flat (ss : List Gs) (i : Nat) : List Int := ((ss.take i).map (fun s => s.row.take s.n)).flatten
theorem flat_more {i : Nat} (hi : i < ss.length) : flat ss (i + 1) = flat ss i ++ (ss.getD i default).row.take (ss.getD i default).n := by
  unfold flat
  rw [List.take_add_one, List.getD_eq_getElem?_getD, List.getElem?_eq_getElem hi, List.map_append, List.flatten_append]
  simp only [Option.toList_some, List.map_cons, List.map_nil, List.flatten_cons, List.flatten_nil, List.append_nil, Option.getD_some]
theorem flat_mem {i : Nat} {y : Int} (h : y ∈ flat ss i) : ∃ j, j < i ∧ j < ss.length ∧ y ∈ (ss.getD j default).row.take (ss.getD j default).n := by
  unfold flat at h
  obtain ⟨l, hl, hy⟩ := List.mem_flatten.mp h
  obtain ⟨s, hs, rfl⟩ := List.mem_map.mp hl
  obtain ⟨j, hj, rfl⟩ := List.mem_iff_getElem.mp hs
  rw [List.length_take] at hj
  refine ⟨j, by omega, by omega, ?_⟩
  rw [List.getD_eq_getElem?_getD, List.getElem?_eq_getElem (by omega : j < ss.length)]
  rw [List.getElem_take] at hy
  exact hy
theorem rise_len (h : Rise r) : r.length ≤ 6 := by
  rcases Nat.lt_or_ge 6 r.length with h7 | h7
  · exfalso
    have a0 := (h.pos (i := 0) (by omega)).1
    have a1 := h.lt (i := 0) (j := 1) (by omega) (by omega)
    have a2 := h.lt (i := 1) (j := 2) (by omega) (by omega)
    have a3 := h.lt (i := 2) (j := 3) (by omega) (by omega)
    have a4 := h.lt (i := 3) (j := 4) (by omega) (by omega)
    have a5 := h.lt (i := 4) (j := 5) (by omega) (by omega)
    have a6 := h.lt (i := 5) (j := 6) (by omega) (by omega)
    have a7 := (h.pos (i := 6) (by omega)).2
    omega
  · exact h7
theorem Many.setB {b i : Nat} {v : Value} {vs : List Value} (h : Many w x c lb ps ss L N) (hB : Blk w b 4 vs) : Many (w.setCell ⟨b, i, none⟩ v) x c lb ps ss L N := by
  have o : Only (fun k => k = b) w (w.setCell ⟨b, i, none⟩ v) := Only.setCell _ _ _ rfl
  refine ⟨h.t.only o (CellCode.blk_ne h.t.cells.obj hB (by decide)) (CellCode.blk_ne h.t.cells.row hB (by decide)) (CellCode.blk_ne h.t.obj hB (by decide)), h.len, fun j p hp => ?_, h.nd, h.sm, h.rise⟩
  obtain ⟨A0, c0, hO, _⟩ := (h.g j p hp).obj
  exact (h.g j p hp).only o (CellCode.blk_ne hO hB (by decide)) (fun k hk vs => by subst hk; exact not_int hB (by decide) vs)
theorem PSl.setB {b i : Nat} {v : Value} {vs : List Value} (h : PSl w A ps) (hB : Blk w b 4 vs) : PSl (w.setCell ⟨b, i, none⟩ v) A ps :=
  h.only (S := fun k => k = b) (Only.setCell _ _ _ rfl) (fun k hk us e => by
    subst hk
    have := hB.symm.trans e
    simp at this)
theorem RowM.setB {b i : Nat} {v : Value} {vs : List Value} (h : RowM w A r) (hB : Blk w b 4 vs) : RowM (w.setCell ⟨b, i, none⟩ v) A r :=
  h.only (S := fun k => k = b) (Only.setCell _ _ _ rfl) (fun k hk us => by subst hk; exact not_int hB (by decide) us)
set_option maxHeartbeats 4000000 in
theorem apart_at {cap : Nat} (hM : Many w x c lb ps ss L N) (hP : PSl w A ps) (hm : ps.length ≤ 8)
    (hap : ∀ i j y, i < ss.length → j < ss.length → y ∈ (ss.getD i default).row.take (ss.getD i default).n → y ∈ (ss.getD j default).row.take (ss.getD j default).n → i = j) :
    Calls Try.prog 14 #[.slice A ps.length cap] w fun e w' => e = .returned (.bool true) ∧ Below w.heap.size w w' := by
  have hmk : ∀ W : World, (Instr.makeSlice 36 (.int .i64 6) (.int .i64 6)).run Try.prog W = .ok (.slice (some ⟨W.heap.size, 0, none⟩) 6 6) (W.alloc (.cells (bools (List.replicate 6 false)).toArray 4)) := made_bools 6 (by decide)
  have hB0 : Blk (w.alloc (.cells (bools (List.replicate 6 false)).toArray 4)) w.heap.size 4 (bools (seenL [])) := Blk.new w _ _
  have hb0 : Below w.heap.size w (w.alloc (.cells (bools (List.replicate 6 false)).toArray 4)) := (Below.refl _ w).alloc (Nat.le_refl _) _
  have hM0 := hM.below hb0
  have hP0 := hP.below hb0
  have hz0 : w.heap.size < (w.alloc (.cells (bools (List.replicate 6 false)).toArray 4)).heap.size := hB0.lt
  obtain ⟨B, hBw⟩ : ∃ B, B = w.heap.size := ⟨_, rfl⟩
  rw [← hBw] at hB0 hb0 hz0 ⊢
  obtain ⟨w0, hw0⟩ : ∃ w0, w0 = w.alloc (.cells (bools (List.replicate 6 false)).toArray 4) := ⟨_, rfl⟩
  have hmk0 := hmk w
  rw [← hw0, ← hBw] at hmk0
  rw [← hw0] at hB0 hb0 hM0 hP0 hz0
  have hBH := hid hBw
  have hw0H := hid hw0
  have hlenH := hid hM.len
  clear hBw hw0 hM hP hmk
  go_enter Try.func14, Try.ntmps14
  go_wp2_with (fail)
  go_loopg [4] ps.length (fun kq v4 w' => ∃ i : Nat, kq + i = ps.length ∧ v4 = .int .i64 (i : Int) ∧ Many w' x c lb ps ss L N ∧ PSl w' A ps ∧ Blk w' B 4 (bools (seenL (flat ss i))) ∧ Below B w w')
  case atStart => exact ⟨0, by omega, rfl, hM0, hP0, hB0, hb0⟩
  case round =>
    clear hM0 hP0 hB0 hb0 hz0
    obtain ⟨i, hi, rfl, hM, hP, hB, hb⟩ := hrel
    cases gk with
    | zero =>
      have hin : ¬ ((i : Int) < (ps.length : Int)) := by omega
      go_wp2_with (fail)
      go_ret
      exact ⟨rfl, hb⟩
    | succ k1 =>
      have hin : ((i : Int) < (ps.length : Int)) := by omega
      have hil : i < ss.length := by have := hlenH.out; omega
      obtain ⟨p, hp⟩ : ∃ p, ps[i]? = some p := ⟨_, List.getElem?_eq_getElem (by omega)⟩
      obtain ⟨ab, ao, rfl, hpc⟩ := hP.cell i p hp
      have hg := hM.g i p hp
      have hri := hM.rise i hil
      have hHd := held_at hg (by have := rise_len hri; omega)
      have hnl := hg.le
      obtain ⟨s, hss⟩ : ∃ s, s = ss.getD i default := ⟨_, rfl⟩
      have hapi := hid (fun y j h1 h2 h3 => hap j i y h1 hil h2 h3)
      rw [← hss] at hHd hri hnl hapi
      have hfl := hid (flat_more hil)
      rw [← hss] at hfl
      have hssH := hid hss
      clear hss hg
      go_wp2_with (fail)
      refine hHd.mono ?_
      rintro e w1 ⟨A', cap', rfl, _, hR, hb1⟩
      have hM1 := hM.below hb1
      have hP1 := hP.below hb1
      have hB1 := hB.same (hb1.block _ hB.lt)
      have hb2 := hb.trans (hb1.mono (Nat.le_of_lt hB.lt))
      have hhl : (s.row.take s.n).length = s.n := by rw [List.length_take]; omega
      have hsn6 : s.n ≤ 6 := by have := rise_len hri; omega
      clear hHd hM hP hB hb hb1 hpc hp
      go_wp2_with (fail)
      go_loopg [6] s.n (fun kq v6 w' => ∃ k : Nat, kq + k = s.n ∧ v6 = .int .i64 (k : Int) ∧ Many w' x c lb ps ss L N ∧ PSl w' (some ⟨ab, ao, none⟩) ps ∧ Blk w' B 4 (bools (seenL (flat ss i ++ (s.row.take s.n).take k))) ∧ RowM w' A' (s.row.take s.n) ∧ Below B w w')
      case atStart => exact ⟨0, by omega, rfl, hM1, hP1, by rw [List.take_zero, List.append_nil]; exact hB1, hR, hb2⟩
      case round =>
        clear hM1 hP1 hB1 hR hb2
        obtain ⟨k, hk, rfl, hM, hP, hB, hR, hb⟩ := hrel
        cases gk with
        | zero =>
          have hin2 : ¬ ((k : Int) < (s.n : Int)) := by omega
          go_wp2_with (fail)
          go_roundg k1
          case measure => omega
          case rel =>
            have e : (s.row.take s.n).take k = s.row.take s.n := List.take_of_length_le (by omega)
            rw [e, ← hfl.out] at hB
            exact ⟨i + 1, by omega, by first | rfl | (congr 1; omega), hM, hP, hB, hb⟩
        | succ k2 =>
          have hin2 : ((k : Int) < (s.n : Int)) := by omega
          have hkl : k < (s.row.take s.n).length := by omega
          obtain ⟨rb, ro, rfl, hrl, hrc⟩ := lock_cell hR hkl
          obtain ⟨q, hq6, _, hqq⟩ := lock_val (hri.take s.n) hkl
          have hnt := (hri.take s.n).not_take hkl
          have htm := take_more hkl
          have hmem : (q : Int) ∈ s.row.take s.n := by rw [← hqq]; exact by rw [List.getD_eq_getElem?_getD, List.getElem?_eq_getElem hkl]; exact List.getElem_mem hkl
          rw [hqq] at hrc hnt htm
          have hnew : (q : Int) ∉ flat ss i ++ (s.row.take s.n).take k := by
            intro hh
            rcases List.mem_append.mp hh with h1 | h1
            · obtain ⟨j, h2, h3, h4⟩ := flat_mem h1
              have := hapi.out (q : Int) j h3 h4 hmem
              omega
            · exact hnt h1
          have hsl : (seenL (flat ss i ++ (s.row.take s.n).take k)).length = 6 := by simp [seenL]
          have hsc := bl_get hB (i := q) (by omega)
          rw [seenL_get _ hq6, decide_eq_false hnew] at hsc
          have hsf := hB.frozen q
          have c1 : ¬ ((q : Int) < 0) := by omega
          have c2 : ¬ ((q : Int) ≥ 6) := by omega
          have c3 : (q : Int) < 6 := by omega
          have c4 : (0 : Int) ≤ (q : Int) := by omega
          have hB' := bl_set hB q true
          rw [seenL_set _ hq6] at hB'
          have hfin := hid (show Many (wr.setCell ⟨B, q, none⟩ (.bool true)) x c lb ps ss L N ∧ PSl (wr.setCell ⟨B, q, none⟩ (.bool true)) (some ⟨ab, ao, none⟩) ps ∧ RowM (wr.setCell ⟨B, q, none⟩ (.bool true)) (some ⟨rb, ro, none⟩) (s.row.take s.n) ∧ Below B w (wr.setCell ⟨B, q, none⟩ (.bool true)) from
            ⟨hM.setB hB, hP.setB hB, hR.setB hB, (Only.setCell (S := fun k => k = B) wr ⟨B, q, none⟩ (.bool true) rfl).below hb (Nat.le_of_lt hB.lt) (fun k _ hk => Nat.le_of_eq hk.symm)⟩)
          have htmH := hid htm
          have hB'H := hid hB'
          clear hM hP hB hR hb hB' htm hnew hmem hnt hqq hsl hkl hrl
          go_wp2_with (fail)
          go_roundg k2
          case measure => omega
          case rel =>
            obtain ⟨f1, f2, f3, f4⟩ := hfin.out
            refine ⟨k + 1, by omega, by first | rfl | (congr 1; omega), f1, f2, ?_, f3, f4⟩
            rw [htmH.out, ← List.append_assoc]
            exact hB'H.out
end
end Go.Proofs.Ytabcodjalacdjab.GuardCode
