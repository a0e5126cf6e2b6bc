
/- A queue in memory is the row of what it has: the contracts of package list. -/
import Derived.StillTailTactics
import Derived.Test.YtmhnfcodppfaiacListMap
namespace Go.Proofs.Ytmhnfcodppfaiac.ListCode
open Go Go.RowKit Go.Proofs.Ytmhnfcodppfaiac.Obj Go.Proofs.Ytmhnfcodppfaiac.ListPure
set_option maxRecDepth 100000
set_option linter.unusedVariables false
theorem setO (w : World) (b i : Nat) (v : Value) : Only (· = b) w (w.setCell ⟨b, i, none⟩ v) := Only.setCell _ _ _ rfl
def listCells (b : Nat) (L : List Int) : List Value := [.map (some b), .int .i64 (hd (-1) L), .int .i64 (lst (-1) L)]
structure LsAt (w : World) (p b : Nat) (L : List Int) : Prop where
  blk : Blk w p 86 (listCells b L)
  map : MapIs w b (lnk L) L.length
  nodup : L.Nodup
  rng : ∀ x ∈ L, 0 ≤ x ∧ x < 1024
theorem fewL : ∀ (m : Nat) (c : List Int), c.Nodup → (∀ x ∈ c, 0 ≤ x ∧ x < (m : Int)) → c.length ≤ m
  | 0, c, _, h => by
    cases c with
    | nil => exact Nat.le_refl _
    | cons a _ => exact absurd (h a (List.mem_cons_self ..)) (by omega)
  | m + 1, c, hn, h => by
    by_cases hm : (m : Int) ∈ c
    · have h1 := fewL m (c.erase m) (hn.erase _) (fun x hx => by
        have := (hn.mem_erase_iff).1 hx
        have := h x this.2
        omega)
      rw [List.length_erase_of_mem hm] at h1
      omega
    · exact Nat.le_succ_of_le (fewL m c hn (fun x hx => by
        have h2 := h x hx
        have : x ≠ (m : Int) := fun e => hm (e ▸ hx)
        omega))
theorem wf64 {k : Int} (h0 : -1 ≤ k) (h1 : k ≤ 1024) : (Lit.int .i64 k).wf = true := by
  have h1 : IntKind.i64.min = -9223372036854775808 := by decide
  have h2 : IntKind.i64.max = 9223372036854775807 := by decide
  simp only [Lit.wf, Bool.and_eq_true, decide_eq_true_eq]
  omega
section
variable {w w' : World} {p b : Nat} {L : List Int}
theorem LsAt.lt (h : LsAt w p b L) : p < w.heap.size ∧ b < w.heap.size := ⟨h.blk.lt, h.map.lt⟩
theorem LsAt.only {S : Nat → Prop} (h : LsAt w p b L) (o : Only S w w') (hp : ¬ S p) (hb : ¬ S b) : LsAt w' p b L := ⟨h.blk.only o hp, h.map.only o hb, h.nodup, h.rng⟩
theorem LsAt.below (h : LsAt w p b L) (hb : Below w.heap.size w w') : LsAt w' p b L := h.only (Only.none_of_below hb) id id
theorem LsAt.drew (h : LsAt w p b L) : LsAt w.drew p b L := ⟨h.blk.same rfl, h.map.same rfl, h.nodup, h.rng⟩
theorem LsAt.drewN (h : LsAt w p b L) (n : Nat) : LsAt (w.drewN n) p b L := ⟨h.blk.same rfl, h.map.same rfl, h.nodup, h.rng⟩
theorem LsAt.ne (h : LsAt w p b L) : p ≠ b := fun e => by
  subst e
  obtain ⟨D, ⟨es, clock, h1, _⟩, _⟩ := h.map
  have h2 : w.heap[p]? = some (.cells _ 86 (0, 0)) := h.blk
  rw [h2] at h1
  simp at h1
theorem LsAt.len (h : LsAt w p b L) : L.length ≤ 1024 := fewL _ _ h.nodup h.rng
theorem LsAt.cells (h : LsAt w p b L) : w.cell? ⟨p, 0, none⟩ = some (.map (some b)) ∧ w.cell? ⟨p, 1, none⟩ = some (.int .i64 (hd (-1) L)) ∧ w.cell? ⟨p, 2, none⟩ = some (.int .i64 (lst (-1) L)) :=
  ⟨h.blk.cell 0, h.blk.cell 1, h.blk.cell 2⟩
theorem lnew_at (w : World) : Calls Try.prog 27 #[] w fun e w' => e = .returned (.pointer (some ⟨w.heap.size + 1, 0, none⟩)) ∧ LsAt w' (w.heap.size + 1) w.heap.size [] ∧ Below w.heap.size w w' := by
  have hmm := @run_makeMap Try.prog
  go_enter Try.func27, Try.ntmps27
  go_wp2
  go_ret
  have hM := MapIs.new w
  have hS := Blk.new (w.alloc (.map #[] 0)) 86 (listCells w.heap.size [])
  rw [World.size_alloc] at hS
  refine ⟨rfl, ⟨hS, hM.same (Below.heap_alloc _ _ _ hM.lt), List.nodup_nil, fun x h => absurd h List.not_mem_nil⟩, ((Below.refl _ w).alloc (Nat.le_refl _) _).alloc (by simp) _⟩
theorem put_arg (h : LsAt w p b L) {i : Int} (hi : i < 0 ∨ i ≥ 1024) : Calls Try.prog 30 #[.pointer (some ⟨p, 0, none⟩), .int .i64 i] w fun e w' => e = .returned (.int .i64 2) ∧ w' = w := by
  clear h
  by_cases h0 : i < 0
  · clear hi
    go_enter Try.func30, Try.ntmps30
    go_wp2
    go_ret
    exact ⟨rfl, rfl⟩
  · have h1 : 1024 ≤ i := by omega
    clear hi
    go_enter Try.func30, Try.ntmps30
    go_wp2
    go_ret
    exact ⟨rfl, rfl⟩
theorem put_have (h : LsAt w p b L) {i : Int} (hi : i ∈ L) : Calls Try.prog 30 #[.pointer (some ⟨p, 0, none⟩), .int .i64 i] w fun e w' => e = .returned (.int .i64 9) ∧ Below w.heap.size w w' := by
  obtain ⟨c0, c1, c2⟩ := h.cells
  obtain ⟨h0, h1⟩ := h.rng i hi
  have hl := h.map.look2 (wf64 (k := i) (by omega) (by omega))
  have hs : (lnk L i).isSome = true := by rw [lnk, lk_isSome]; simpa using hi
  rw [hs] at hl
  generalize (lnk L i).getD (0, 0) = v at hl
  obtain ⟨v1, v2⟩ := v
  have hl' : (Instr.lookup 84 (.map (some b)) (.int .i64 i) true).run Try.prog w = .ok (.tuple #[.agg #[.int .i64 v1, .int .i64 v2], .bool true]) w := hl
  clear h hl hi hs
  go_enter Try.func30, Try.ntmps30
  go_wp2
  go_ret
  exact ⟨rfl, (Below.refl _ w).alloc (Nat.le_refl _) _⟩
theorem put_first (h : LsAt w p b []) {i : Int} (h0 : 0 ≤ i) (h1 : i < 1024) : Calls Try.prog 30 #[.pointer (some ⟨p, 0, none⟩), .int .i64 i] w fun e w' => e = .returned (.int .i64 0) ∧ LsAt w' p b [i] ∧ Only (fun k => k = p ∨ k = b) w w' := by
  obtain ⟨c0, c1, c2⟩ := h.cells
  have hne := h.ne
  have hl : (Instr.lookup 84 (.map (some b)) (.int .i64 i) true).run Try.prog w = .ok (.tuple #[.agg #[.int .i64 0, .int .i64 0], .bool false]) w := h.map.look2 (wf64 (k := i) (by omega) (by omega))
  obtain ⟨w1, hs, hM1, o1⟩ := (show MapIs (w.alloc (.cells #[.int .i64 0, .int .i64 0] 88)).drew b (lnk []) 0 from h.map.same (Below.heap_alloc _ _ _ h.map.lt)).store (by decide) (wf64 (k := i) (by omega) (by omega)) (-1, -1)
  have hs' : (Instr.mapUpdate 84 (.map (some b)) (.int .i64 i) (.agg #[.int .i64 (-1), .int .i64 (-1)])).run Try.prog (w.alloc (.cells #[.int .i64 0, .int .i64 0] 88)).drew = .ok () w1 := hs
  have hpl := h.lt.1
  replace c1 : w.cell? ⟨p, 1, none⟩ = some (.int .i64 (-1)) := c1
  replace c2 : w.cell? ⟨p, 2, none⟩ = some (.int .i64 (-1)) := c2
  have hO : Only (· = b) w w1 := (Only.alloc _ w (.cells #[.int .i64 0, .int .i64 0] 88)).trans (Only.trans (Only.drew _ _) o1)
  have hB1 := h.blk.only hO hne
  have d1 : w1.cell? ⟨p, 1, none⟩ = some (.int .i64 (-1)) := hB1.cell 1
  have d2 : w1.cell? ⟨p, 2, none⟩ = some (.int .i64 (-1)) := hB1.cell 2
  have hfz := hB1.frozen
  have hpl1 := hB1.lt
  have hH := hid h
  clear h hs
  go_enter Try.func30, Try.ntmps30
  go_wp2_with (fail)
  go_region_with (fail)
  all_goals go_wp2
  all_goals go_ret
  all_goals
    refine ⟨rfl, ⟨(hB1.set 1 _).set 2 _, ?_, List.nodup_cons.2 ⟨List.not_mem_nil, List.nodup_nil⟩, fun x hx => ?_⟩, ?_⟩
    · rw [put_nil]
      exact (show MapIs w1 b _ 1 from hM1).only ((setO w1 p 1 _).trans (setO _ p 2 _)) (Ne.symm hne)
    · rw [List.mem_singleton.1 hx]; exact ⟨h0, h1⟩
    · exact (hO.mono (fun _ _ h => .inr h)).trans ((Only.setCell _ _ _ (.inl rfl)).trans (Only.setCell _ _ _ (.inl rfl)))
theorem lnk_last {A : List Int} {z : Int} (hn : (A ++ [z]).Nodup) : lnk (A ++ [z]) z = some (lst (-1) A, -1) :=
  lnk_mid (B := []) (fun h => (List.nodup_append.1 hn).2.2 z h z (List.mem_singleton.2 rfl) rfl)
theorem cells_snoc (b : Nat) (A : List Int) (z i : Int) : listCells b (A ++ [z] ++ [i]) = (listCells b (A ++ [z])).set 2 (.int .i64 i) := by
  have e : hd (-1) (A ++ [z] ++ [i]) = hd (-1) (A ++ [z]) := by cases A <;> rfl
  simp only [listCells, lst_snoc, e, List.set_cons_succ, List.set_cons_zero]
set_option maxHeartbeats 2000000 in
theorem put_last {A : List Int} {z : Int} (h : LsAt w p b (A ++ [z])) {i : Int} (h0 : 0 ≤ i) (h1 : i < 1024) (hi : i ∉ A ++ [z]) : Calls Try.prog 30 #[.pointer (some ⟨p, 0, none⟩), .int .i64 i] w fun e w' => e = .returned (.int .i64 0) ∧ LsAt w' p b (A ++ [z] ++ [i]) ∧ Only (fun k => k = p ∨ k = b) w w' := by
  obtain ⟨c0, c1, c2⟩ := h.cells
  rw [lst_snoc] at c2
  have hne := h.ne
  obtain ⟨hz0, hz1⟩ := h.rng z (List.mem_append_right _ (List.mem_singleton.2 rfl))
  have hiz : z ≠ i := fun e => hi (e ▸ List.mem_append_right _ (List.mem_singleton.2 rfl))
  have hn0 : lnk (A ++ [z]) i = none := lnk_none hi
  have hlen := h.len
  have hl := h.map.look2 (wf64 (k := i) (by omega) (by omega))
  rw [hn0] at hl
  replace hl : (Instr.lookup 84 (.map (some b)) (.int .i64 i) true).run Try.prog w = .ok (.tuple #[.agg #[.int .i64 0, .int .i64 0], .bool false]) w := hl
  obtain ⟨w1, hs, hM1, o1⟩ := (show MapIs (w.alloc (.cells #[.int .i64 0, .int .i64 0] 88)).drew b (lnk (A ++ [z])) _ from h.map.same (Below.heap_alloc _ _ _ h.map.lt)).store (by unfold maxLen; omega) (wf64 (k := i) (by omega) (by omega)) (z, -1)
  replace hs : (Instr.mapUpdate 84 (.map (some b)) (.int .i64 i) (.agg #[.int .i64 z, .int .i64 (-1)])).run Try.prog (w.alloc (.cells #[.int .i64 0, .int .i64 0] 88)).drew = .ok () w1 := hs
  rw [hn0] at hM1
  have hz2 : upd (lnk (A ++ [z])) i (some (z, -1)) z = some (lst (-1) A, -1) := by
    unfold upd
    rw [if_neg hiz, lnk_last h.nodup]
  have hl2 := (show MapIs w1.drew b _ _ from hM1.same rfl).look1 (wf64 (k := z) (by omega) (by omega))
  rw [hz2] at hl2
  replace hl2 : (Instr.lookup 84 (.map (some b)) (.int .i64 z) false).run Try.prog w1.drew = .ok (.agg #[.int .i64 (lst (-1) A), .int .i64 (-1)]) w1.drew := hl2
  obtain ⟨w2, hs2, hM2, o2⟩ := (show MapIs w1.drew b _ _ from hM1.same rfl).store (by unfold maxLen; simp at hlen ⊢; omega) (wf64 (k := z) (by omega) (by omega)) (lst (-1) A, i)
  replace hs2 : (Instr.mapUpdate 84 (.map (some b)) (.int .i64 z) (.agg #[.int .i64 (lst (-1) A), .int .i64 i])).run Try.prog w1.drew = .ok () w2 := hs2
  rw [hz2] at hM2
  have hpl := h.lt.1
  have hO : Only (· = b) w w1 := (Only.alloc _ w (.cells #[.int .i64 0, .int .i64 0] 88)).trans (Only.trans (Only.drew _ _) o1)
  have hB1 := h.blk.only hO hne
  have hO2 : Only (· = b) w w2 := hO.trans (Only.trans (Only.drew _ _) o2)
  have hB2 := h.blk.only hO2 hne
  have d0 : w1.cell? ⟨p, 0, none⟩ = some (.map (some b)) := hB1.cell 0
  have d2 := hB1.cell 2
  have g2 := hB2.cell 2
  simp only [listCells, lst_snoc, List.getElem?_cons_succ, List.getElem?_cons_zero] at d2 g2
  have hfz := hB2.frozen
  have hpl1 := hB1.lt
  have hpl2 := hB2.lt
  have hM3 : MapIs w2 b (upd (upd (lnk (A ++ [z])) i (some (z, -1))) z (some (lst (-1) A, i))) (A ++ [z] ++ [i]).length := by
    have e : (A ++ [z] ++ [i]).length = (A ++ [z]).length + 1 := by simp
    rw [e]; exact hM2
  rw [← put_snoc h.nodup hi] at hM3
  have hnd : (A ++ [z] ++ [i]).Nodup := List.nodup_append.2 ⟨h.nodup, List.nodup_cons.2 ⟨List.not_mem_nil, List.nodup_nil⟩, fun a ha b hb e => by rw [List.mem_singleton.1 hb] at e; exact hi (e ▸ ha)⟩
  have hH := hid h
  clear h hi hn0 hz2 hM1 hM2 hlen
  generalize lst (-1) A = q at *
  have hfd := field0
  go_enter Try.func30, Try.ntmps30
  go_wp2_with (fail)
  go_region_with (fail)
  all_goals go_wp2_with (fail)
  all_goals
    go_still_tail 20, (by kernel_rfl)
    change wpList _ _ _ _ _ w1.drew
    go_wp2_with (fail)
    go_ret
    refine ⟨rfl, ⟨?_, hM3.only (setO w2 p 2 _) (Ne.symm hne), hnd, fun x hx => ?_⟩, ?_⟩
    · rw [cells_snoc]; exact hB2.set 2 (.int .i64 i)
    · rcases List.mem_append.1 hx with hx | hx
      · exact hH.out.rng x hx
      · rw [List.mem_singleton.1 hx]; exact ⟨h0, h1⟩
    · exact (hO2.mono (fun _ _ h => .inr h)).trans (Only.setCell _ _ _ (.inl rfl))
def putC (L : List Int) (i : Int) : Int := if i < 0 ∨ i ≥ 1024 then 2 else if i ∈ L then 9 else 0
def putL (L : List Int) (i : Int) : List Int := if putC L i = 0 then L ++ [i] else L
theorem put_at (h : LsAt w p b L) (i : Int) : Calls Try.prog 30 #[.pointer (some ⟨p, 0, none⟩), .int .i64 i] w fun e w' => e = .returned (.int .i64 (putC L i)) ∧ LsAt w' p b (putL L i) ∧ Only (fun k => k = p ∨ k = b) w w' := by
  unfold putL putC
  by_cases h1 : i < 0 ∨ i ≥ 1024
  · rw [if_pos h1, if_neg (by decide)]
    refine (put_arg h h1).mono ?_
    rintro e w' ⟨rfl, rfl⟩
    exact ⟨rfl, h, Only.refl _ _⟩
  · by_cases h2 : i ∈ L
    · rw [if_neg h1, if_pos h2, if_neg (by decide)]
      refine (put_have h h2).mono ?_
      rintro e w' ⟨rfl, hB⟩
      exact ⟨rfl, h.below hB, (Only.none_of_below hB).mono (fun _ _ h => h.elim)⟩
    · rw [if_neg h1, if_neg h2, if_pos rfl]
      rcases snoc_cases L with rfl | ⟨A, z, rfl⟩
      · exact put_first h (by omega) (by omega)
      · exact put_last h (by omega) (by omega) h2
/-- What join leaves of a map. -/
def joinF (f : Int → Option (Int × Int)) (a c : Int) : Int → Option (Int × Int) :=
  let g := if 0 ≤ a then upd f a (some (((f a).getD (0, 0)).1, c)) else f
  if 0 ≤ c then upd g c (some (a, ((g c).getD (0, 0)).2)) else g
theorem upd_some {f : Int → Option (Int × Int)} {k j : Int} {v : Int × Int} (h : (f j).isSome = true) : (upd f k (some v) j).isSome = true := by
  unfold upd; split <;> simp [h]
set_option maxHeartbeats 2000000 in
theorem join_at {q n : Nat} {f : Int → Option (Int × Int)} (hq : w.cell? ⟨q, 0, none⟩ = some (.pointer (some ⟨p, 0, none⟩))) (hp : w.cell? ⟨p, 0, none⟩ = some (.map (some b))) (hqb : q ≠ b) (hpb : p ≠ b) (h : MapIs w b f n) (hn : n < 2000) {a c : Int} (ha0 : -1 ≤ a) (ha1 : a < 1024) (hc0 : -1 ≤ c) (hc1 : c < 1024)
    (ha : 0 ≤ a → (f a).isSome = true) (hc : 0 ≤ c → (f c).isSome = true) :
    Calls Try.prog 53 #[.int .i64 a, .int .i64 c, .pointer (some ⟨q, 0, none⟩)] w fun e w' => (∃ v, e = .returned v) ∧ MapIs w' b (joinF f a c) n ∧ Only (· = b) w w' := by
  have key : ∀ (g : Int → Option (Int × Int)) (k : Int) (x : Int × Int) (W : World), MapIs W b g n → -1 ≤ k → k < 1024 → (g k).isSome = true → (∀ V, Only (· = b) W V → True) →
      ∃ W1, (Instr.mapUpdate 84 (.map (some b)) (.int .i64 k) (.agg #[.int .i64 x.1, .int .i64 x.2])).run Try.prog W = .ok () W1 ∧ MapIs W1 b (upd g k (some x)) n ∧ Only (· = b) W W1 := fun g k x W hM h0 h1 hs _ => by
    obtain ⟨W1, e1, e2, e3⟩ := hM.store (by unfold maxLen; omega) (wf64 h0 (by omega)) x
    rw [if_pos hs] at e2
    exact ⟨W1, e1, e2, e3⟩
  have hfd := field0
  have hfe := field1
  have hpl := cell_lt hp
  have hql := cell_lt hq
  unfold joinF
  by_cases a0 : 0 ≤ a
  · obtain ⟨w1, s1, m1, o1⟩ := key f a (((f a).getD (0, 0)).1, c) w.drew (h.same rfl) ha0 ha1 (ha a0) (fun _ _ => trivial)
    have l1 := (show MapIs w.drew b f n from h.same rfl).look1 (wf64 ha0 (by omega))
    have hO1 : Only (· = b) w w1 := (Only.drew _ _).trans o1
    have q1 : w1.cell? ⟨q, 0, none⟩ = some (.pointer (some ⟨p, 0, none⟩)) := by rw [← hq]; exact cell_same (hO1.block q hql hqb)
    have p1 : w1.cell? ⟨p, 0, none⟩ = some (.map (some b)) := by rw [← hp]; exact cell_same (hO1.block p hpl hpb)
    have hpl1 := cell_lt p1
    have hql1 := cell_lt q1
    by_cases c0 : 0 ≤ c
    · have hsc := upd_some (k := a) (v := (((f a).getD (0, 0)).1, c)) (hc c0)
      simp only [if_pos a0, if_pos c0]
      generalize (f a).getD (0, 0) = x at *
      obtain ⟨x1, x2⟩ := x
      generalize upd f a (some (x1, c)) = g at *
      obtain ⟨w2, s2, m2, o2⟩ := key g c (a, ((g c).getD (0, 0)).2) w1.drew (m1.same rfl) hc0 hc1 hsc (fun _ _ => trivial)
      have l2 := (show MapIs w1.drew b g n from m1.same rfl).look1 (wf64 hc0 (by omega))
      generalize (g c).getD (0, 0) = y at *
      obtain ⟨y1, y2⟩ := y
      have hO2 : Only (· = b) w w2 := hO1.trans ((Only.drew _ _).trans o2)
      have m2H := hid m2
      replace l1 : (Instr.lookup 84 (.map (some b)) (.int .i64 a) false).run Try.prog w.drew = .ok (.agg #[.int .i64 x1, .int .i64 x2]) w.drew := l1
      replace l2 : (Instr.lookup 84 (.map (some b)) (.int .i64 c) false).run Try.prog w1.drew = .ok (.agg #[.int .i64 y1, .int .i64 y2]) w1.drew := l2
      clear h ha hc hsc key m1 m2 o1 o2 hO1
      go_enter Try.func53, Try.ntmps53
      go_wp2_with (fail)
      go_still_tail 14, (by kernel_rfl)
      change wpList _ _ _ _ _ w.drew
      go_wp2_with (fail)
      go_still_tail 14, (by kernel_rfl)
      change wpList _ _ _ _ _ w1.drew
      go_wp2_with (fail)
      go_end0
      exact ⟨⟨_, rfl⟩, m2H.out, hO2⟩
    · simp only [if_pos a0, if_neg c0]
      generalize (f a).getD (0, 0) = x at *
      obtain ⟨x1, x2⟩ := x
      have m1H := hid m1
      replace l1 : (Instr.lookup 84 (.map (some b)) (.int .i64 a) false).run Try.prog w.drew = .ok (.agg #[.int .i64 x1, .int .i64 x2]) w.drew := l1
      clear h ha hc key m1 o1
      go_enter Try.func53, Try.ntmps53
      go_wp2_with (fail)
      go_still_tail 14, (by kernel_rfl)
      change wpList _ _ _ _ _ w.drew
      go_wp2_with (fail)
      go_end0
      exact ⟨⟨_, rfl⟩, m1H.out, hO1⟩
  · by_cases c0 : 0 ≤ c
    · simp only [if_neg a0, if_pos c0]
      obtain ⟨w2, s2, m2, o2⟩ := key f c (a, ((f c).getD (0, 0)).2) w.drew (h.same rfl) hc0 hc1 (hc c0) (fun _ _ => trivial)
      have l2 := (show MapIs w.drew b f n from h.same rfl).look1 (wf64 hc0 (by omega))
      generalize (f c).getD (0, 0) = y at *
      obtain ⟨y1, y2⟩ := y
      have hO2 : Only (· = b) w w2 := (Only.drew _ _).trans o2
      have m2H := hid m2
      replace l2 : (Instr.lookup 84 (.map (some b)) (.int .i64 c) false).run Try.prog w.drew = .ok (.agg #[.int .i64 y1, .int .i64 y2]) w.drew := l2
      clear h ha hc key m2 o2
      go_enter Try.func53, Try.ntmps53
      go_wp2_with (fail)
      go_still_tail 14, (by kernel_rfl)
      change wpList _ _ _ _ _ w.drew
      go_wp2_with (fail)
      go_end0
      exact ⟨⟨_, rfl⟩, m2H.out, hO2⟩
    · simp only [if_neg a0, if_neg c0]
      have hH := hid h
      clear h ha hc key
      go_enter Try.func53, Try.ntmps53
      go_wp2_with (fail)
      go_end0
      exact ⟨⟨_, rfl⟩, hH.out, Only.refl _ _⟩
theorem drop_none (h : LsAt w p b L) {i : Int} (hwf : (Lit.int .i64 i).wf = true) (hi : i ∉ L) : Calls Try.prog 31 #[.pointer (some ⟨p, 0, none⟩), .int .i64 i] w fun e w' => e = .returned (.int .i64 3) ∧ Below w.heap.size w w' := by
  obtain ⟨c0, c1, c2⟩ := h.cells
  have hl := (show MapIs (w.alloc (.cells #[.pointer (some ⟨p, 0, none⟩)] 55)) b (lnk L) _ from h.map.same (Below.heap_alloc _ _ _ h.map.lt)).look2 hwf
  rw [lnk_none hi] at hl
  replace hl : (Instr.lookup 84 (.map (some b)) (.int .i64 i) true).run Try.prog (w.alloc (.cells #[.pointer (some ⟨p, 0, none⟩)] 55)) = .ok (.tuple #[.agg #[.int .i64 0, .int .i64 0], .bool false]) (w.alloc (.cells #[.pointer (some ⟨p, 0, none⟩)] 55)) := hl
  have hpl := h.lt.1
  clear h hi
  go_enter Try.func31, Try.ntmps31
  go_wp2
  go_ret
  exact ⟨rfl, ((Below.refl _ w).alloc (Nat.le_refl _) _).alloc (by simp) _⟩
set_option maxHeartbeats 4000000 in
theorem drop_raw (h : LsAt w p b L) {i pr nx fs ls : Int} (hf : lnk L i = some (pr, nx)) (hi0 : 0 ≤ i) (hi1 : i < 1024) (hp0 : -1 ≤ pr) (hp1 : pr < 1024) (hn0 : -1 ≤ nx) (hn1 : nx < 1024)
    (hp : 0 ≤ pr → (lnk L pr).isSome = true) (hn : 0 ≤ nx → (lnk L nx).isSome = true) (e1 : hd (-1) L = fs) (e2 : lst (-1) L = ls) (hj : (joinF (lnk L) pr nx i).isSome = true) :
    Calls Try.prog 31 #[.pointer (some ⟨p, 0, none⟩), .int .i64 i] w fun e w' => e = .returned (.int .i64 0) ∧ Blk w' p 86 [.map (some b), .int .i64 (if i = fs then nx else fs), .int .i64 (if i = ls then pr else ls)] ∧ MapIs w' b (upd (joinF (lnk L) pr nx) i none) (L.length - 1) ∧ Only (fun k => k = p ∨ k = b) w w' := by
  obtain ⟨c0, c1, c2⟩ := h.cells
  rw [e1] at c1
  rw [e2] at c2
  have hne := h.ne
  have hpl := h.lt.1
  have hbl := h.lt.2
  have hlen := h.len
  have hwf := wf64 (k := i) (by omega) (by omega)
  have hM0 : MapIs (w.alloc (.cells #[.pointer (some ⟨p, 0, none⟩)] 55)) b (lnk L) L.length := h.map.same (Below.heap_alloc _ _ _ h.map.lt)
  have hl := hM0.look2 hwf
  rw [hf] at hl
  replace hl : (Instr.lookup 84 (.map (some b)) (.int .i64 i) true).run Try.prog (w.alloc (.cells #[.pointer (some ⟨p, 0, none⟩)] 55)) = .ok (.tuple #[.agg #[.int .i64 pr, .int .i64 nx], .bool true]) (w.alloc (.cells #[.pointer (some ⟨p, 0, none⟩)] 55)) := hl
  have hM1 : MapIs ((w.alloc (.cells #[.pointer (some ⟨p, 0, none⟩)] 55)).alloc (.cells #[.int .i64 pr, .int .i64 nx] 88)) b (lnk L) L.length := hM0.same (Below.heap_alloc _ _ _ hM0.lt)
  have hq1 := (Blk.new w 55 [.pointer (some ⟨p, 0, none⟩)]).alloc (.cells #[.int .i64 pr, .int .i64 nx] 88)
  have hq2 := Blk.new (w.alloc (.cells #[.pointer (some ⟨p, 0, none⟩)] 55)) 88 [.int .i64 pr, .int .i64 nx]
  rw [World.size_alloc] at hq2
  have hB1 := (h.blk.alloc (.cells #[.pointer (some ⟨p, 0, none⟩)] 55)).alloc (.cells #[.int .i64 pr, .int .i64 nx] 88)
  have hJ := join_at (q := w.heap.size) (hq1.cell 0) (hB1.cell 0) (by omega) hne hM1 (by omega) hp0 hp1 hn0 hn1 hp hn
  have hO1 : Only (fun k => k = p ∨ k = b) w ((w.alloc (.cells #[.pointer (some ⟨p, 0, none⟩)] 55)).alloc (.cells #[.int .i64 pr, .int .i64 nx] 88)) := (Only.alloc _ _ _).trans (Only.alloc _ _ _)
  have hB1c : listCells b L = [.map (some b), .int .i64 fs, .int .i64 ls] := by rw [listCells, e1, e2]
  rw [hB1c] at hB1
  generalize lnk L = f at *
  generalize L.length = n at *
  obtain ⟨A, hA⟩ : ∃ A, (if i = fs then nx else fs) = A := ⟨_, rfl⟩
  obtain ⟨C, hC⟩ : ∃ C, (if i = ls then pr else ls) = C := ⟨_, rfl⟩
  rw [hA, hC]
  have hAH := hid hA
  have hCH := hid hC
  clear h hf hp hn hM0 hM1 e1 e2 hB1c hA hC
  go_enter Try.func31, Try.ntmps31
  go_wp2_with (fail)
  refine hJ.mono ?_
  rintro e w2 ⟨⟨v, rfl⟩, hM2, o2⟩
  have hO2 := hO1.trans (o2.mono (fun _ _ h => .inr h))
  have hB2 := hB1.only o2 hne
  have hk1 := hq1.only o2 (by omega)
  have hk2 := hq2.only o2 (by omega)
  have z0 := hk1.cell 0
  have y0 := hk2.cell 0
  have y1 := hk2.cell 1
  have x0 := hB2.cell 0
  have x1 := hB2.cell 1
  have x2 := hB2.cell 2
  have xf := hB2.frozen
  have l0 := hk1.lt
  have l1 := hk2.lt
  have l2 := hB2.lt
  simp only [List.getElem?_cons_zero, List.getElem?_cons_succ] at z0 y0 y1 x0 x1 x2
  have fin : ∀ W, (W = w2 ∨ (∃ v, W = w2.setCell ⟨p, 1, none⟩ v) ∨ (∃ v, W = w2.setCell ⟨p, 2, none⟩ v) ∨ (∃ v u, W = (w2.setCell ⟨p, 1, none⟩ v).setCell ⟨p, 2, none⟩ u)) → MapIs W b (joinF f pr nx) n := fun W hW => by
    have := Ne.symm hne
    rcases hW with rfl | ⟨v, rfl⟩ | ⟨v, rfl⟩ | ⟨v, u, rfl⟩
    · exact hM2
    · exact hM2.only (setO w2 p 1 _) this
    · exact hM2.only (setO w2 p 2 _) this
    · exact hM2.only ((setO w2 p 1 _).trans (setO _ p 2 _)) this
  have finH := hid fin
  have hB2H := hid hB2
  have hO2H := hid hO2
  clear fin hB1 hB2 hO1 hO2 hk1 hk2 hq1 hq2 hM2 o2 c0 c1 c2 hl hJ
  by_cases k1 : i = fs
  · by_cases k2 : i = ls
    · obtain rfl : A = nx := by rw [← hAH.out, if_pos k1]
      obtain rfl : C = pr := by rw [← hCH.out, if_pos k2]
      clear hAH hCH
      subst k1
      subst k2
      go_wp2_with (at_delete; refine wpList_delete rfl _ _ rfl (finH.out _ (.inr (.inr (.inr ⟨_, _, rfl⟩)))) rfl i rfl hwf _ (if_pos hj) ?_; intro w3 hM3 o3)
      go_ret
      exact ⟨rfl, ((hB2H.out.set 1 _).set 2 _).only o3 hne, hM3, (hO2H.out.trans ((Only.setCell _ _ _ (.inl rfl)).trans (Only.setCell _ _ _ (.inl rfl)))).trans (o3.mono (fun _ _ h => .inr h))⟩
    · obtain rfl : A = nx := by rw [← hAH.out, if_pos k1]
      obtain rfl : C = ls := by rw [← hCH.out, if_neg k2]
      clear hAH hCH
      subst k1
      go_wp2_with (at_delete; refine wpList_delete rfl _ _ rfl (finH.out _ (.inr (.inl ⟨_, rfl⟩))) rfl i rfl hwf _ (if_pos hj) ?_; intro w3 hM3 o3)
      go_ret
      exact ⟨rfl, (hB2H.out.set 1 _).only o3 hne, hM3, (hO2H.out.trans (Only.setCell _ _ _ (.inl rfl))).trans (o3.mono (fun _ _ h => .inr h))⟩
  · by_cases k2 : i = ls
    · obtain rfl : A = fs := by rw [← hAH.out, if_neg k1]
      obtain rfl : C = pr := by rw [← hCH.out, if_pos k2]
      clear hAH hCH
      subst k2
      go_wp2_with (at_delete; refine wpList_delete rfl _ _ rfl (finH.out _ (.inr (.inr (.inl ⟨_, rfl⟩)))) rfl i rfl hwf _ (if_pos hj) ?_; intro w3 hM3 o3)
      go_ret
      exact ⟨rfl, (hB2H.out.set 2 _).only o3 hne, hM3, (hO2H.out.trans (Only.setCell _ _ _ (.inl rfl))).trans (o3.mono (fun _ _ h => .inr h))⟩
    · obtain rfl : A = fs := by rw [← hAH.out, if_neg k1]
      obtain rfl : C = ls := by rw [← hCH.out, if_neg k2]
      clear hAH hCH
      go_wp2_with (at_delete; refine wpList_delete rfl _ _ rfl (finH.out _ (.inl rfl)) rfl i rfl hwf _ (if_pos hj) ?_; intro w3 hM3 o3)
      go_ret
      exact ⟨rfl, hB2H.out.only o3 hne, hM3, hO2H.out.trans (o3.mono (fun _ _ h => .inr h))⟩
theorem lst_cons_ne (B : List Int) (x i : Int) (hB : B ≠ []) : lst x B = lst i B := by
  cases B with
  | nil => exact absurd rfl hB
  | cons y r => rfl
theorem lst_mem (B : List Int) (i : Int) (hB : B ≠ []) : lst i B ∈ B := by
  rcases snoc_cases B with rfl | ⟨A, z, rfl⟩
  · exact absurd rfl hB
  · rw [lst_snoc]; exact List.mem_append_right _ (List.mem_singleton.2 rfl)
theorem lst_append (A B : List Int) (x : Int) : lst x (A ++ B) = lst (lst x A) B := by
  induction A generalizing x with
  | nil => rfl
  | cons y r ih => exact ih y
theorem mid_apart {A B : List Int} {i : Int} (hn : (A ++ i :: B).Nodup) : i ∉ A ∧ i ∉ B := by
  have h := List.nodup_append.1 hn
  exact ⟨fun m => h.2.2 i m i (List.mem_cons_self ..) rfl, (List.nodup_cons.1 h.2.1).1⟩
theorem hd_mid {A B : List Int} {i : Int} (hn : (A ++ i :: B).Nodup) : (if i = hd (-1) (A ++ i :: B) then hd (-1) B else hd (-1) (A ++ i :: B)) = hd (-1) (A ++ B) := by
  have h := mid_apart hn
  cases A with
  | nil => exact if_pos rfl
  | cons a r =>
    have : i ≠ a := fun e => h.1 (e ▸ List.mem_cons_self ..)
    exact if_neg this
theorem lst_mid {A B : List Int} {i : Int} (hn : (A ++ i :: B).Nodup) : (if i = lst (-1) (A ++ i :: B) then lst (-1) A else lst (-1) (A ++ i :: B)) = lst (-1) (A ++ B) := by
  have h := mid_apart hn
  rw [lst_append, lst_append]
  show (if i = lst i B then _ else lst i B) = _
  by_cases hB : B = []
  · subst hB; exact if_pos rfl
  · have : i ≠ lst i B := fun e => h.2 (by rw [e]; exact lst_mem B i hB)
    rw [if_neg this]; exact lst_cons_ne B _ _ hB
theorem joinF_n {f : Int → Option (Int × Int)} {a c x y : Int} (ha : ¬ 0 ≤ a) (hc : 0 ≤ c) (h : f c = some (x, y)) : joinF f a c = upd f c (some (a, y)) := by
  unfold joinF; simp only [if_neg ha, if_pos hc, h, Option.getD_some]
theorem joinF_p {f : Int → Option (Int × Int)} {a c x y : Int} (ha : 0 ≤ a) (hc : ¬ 0 ≤ c) (h : f a = some (x, y)) : joinF f a c = upd f a (some (x, c)) := by
  unfold joinF; simp only [if_pos ha, if_neg hc, h, Option.getD_some]
theorem joinF_pp {f : Int → Option (Int × Int)} {a c x y u v : Int} (ha : 0 ≤ a) (hc : 0 ≤ c) (h : f a = some (x, y)) (h2 : upd f a (some (x, c)) c = some (u, v)) : joinF f a c = upd (upd f a (some (x, c))) c (some (a, v)) := by
  unfold joinF; simp only [if_pos ha, if_pos hc, h, Option.getD_some, h2]
theorem join_lnk {A B : List Int} {i : Int} (hn : (A ++ i :: B).Nodup) (hr : ∀ x ∈ A ++ i :: B, 0 ≤ x) : upd (joinF (lnk (A ++ i :: B)) (lst (-1) A) (hd (-1) B)) i none = lnk (A ++ B) := by
  rcases snoc_cases A with rfl | ⟨A, a, rfl⟩
  · cases B with
    | nil => exact (drop_nn i).symm
    | cons b B =>
      have hb : 0 ≤ b := hr b (by simp)
      have hib : b ∉ [i] := fun h => (List.nodup_cons.1 hn).1 (by rw [← List.mem_singleton.1 h]; exact List.mem_cons_self ..)
      have e : lnk (i :: b :: B) b = some (i, hd (-1) B) := lnk_mid (A := [i]) hib
      have e2 : joinF (lnk ([] ++ i :: b :: B)) (lst (-1) []) (hd (-1) (b :: B)) = upd (lnk (i :: b :: B)) b (some (-1, hd (-1) B)) := by
        exact joinF_n (by decide) hb e
      rw [e2]; exact (drop_first hn).symm
  · have ha : 0 ≤ a := hr a (by simp)
    have hnA : a ∉ A := fun h => by
      have := (List.nodup_append.1 (List.nodup_append.1 hn).1).2.2 a h a (List.mem_singleton.2 rfl)
      exact this rfl
    have e : lnk (A ++ [a] ++ i :: B) a = some (lst (-1) A, i) := by
      rw [List.append_assoc]; exact lnk_mid (B := i :: B) hnA
    cases B with
    | nil =>
      have e2 : joinF (lnk (A ++ [a] ++ [i])) (lst (-1) (A ++ [a])) (hd (-1) []) = upd (lnk (A ++ [a] ++ [i])) a (some (lst (-1) A, -1)) := by
        rw [lst_snoc]; exact joinF_p ha (by decide) e
      rw [e2, List.append_nil]; exact (drop_last hn).symm
    | cons b B =>
      have hb : 0 ≤ b := hr b (by simp)
      have h2 := List.nodup_append.1 hn
      have hba : b ≠ a := fun e => h2.2.2 a (by simp) b (by simp) e.symm
      have hbA : b ∉ A ++ [a] ++ [i] := fun h => by
        rcases List.mem_append.1 h with h | h
        · exact h2.2.2 b h b (by simp) rfl
        · exact (List.nodup_cons.1 h2.2.1).1 (by rw [← List.mem_singleton.1 h]; exact List.mem_cons_self ..)
      have e3 : lnk (A ++ [a] ++ i :: b :: B) b = some (i, hd (-1) B) := by
        have := lnk_mid (B := B) hbA
        rw [lst_snoc] at this
        simpa using this
      have e2 : joinF (lnk (A ++ [a] ++ i :: b :: B)) (lst (-1) (A ++ [a])) (hd (-1) (b :: B)) = upd (upd (lnk (A ++ [a] ++ i :: b :: B)) a (some (lst (-1) A, b))) b (some (a, hd (-1) B)) := by
        have e4 : upd (lnk (A ++ [a] ++ i :: b :: B)) a (some (lst (-1) A, b)) b = some (i, hd (-1) B) := by unfold upd; rw [if_neg hba, e3]
        rw [lst_snoc]; exact joinF_pp ha hb e e4
      rw [e2]; exact (drop_mid hn).symm
theorem joinF_some {f : Int → Option (Int × Int)} {a c i : Int} (h : (f i).isSome = true) : (joinF f a c i).isSome = true := by
  unfold joinF
  by_cases h1 : 0 ≤ a <;> by_cases h2 : 0 ≤ c <;> simp only [if_pos, if_neg, h1, h2, not_false_eq_true] <;> first | exact upd_some (upd_some h) | exact upd_some h | exact h
def dropC (L : List Int) (i : Int) : Int := if i ∈ L then 0 else 3
theorem drop_mem (h : LsAt w p b L) {i : Int} (hi : i ∈ L) : Calls Try.prog 31 #[.pointer (some ⟨p, 0, none⟩), .int .i64 i] w fun e w' => e = .returned (.int .i64 0) ∧ LsAt w' p b (L.erase i) ∧ Only (fun k => k = p ∨ k = b) w w' := by
  obtain ⟨A, B, rfl, hA⟩ := split_at hi
  have hne := h.nodup
  have hr := h.rng
  have pA : -1 ≤ lst (-1) A ∧ lst (-1) A < 1024 ∧ (0 ≤ lst (-1) A → lst (-1) A ∈ A ++ i :: B) := by
    by_cases h0 : A = []
    · subst h0; simp [lst]
    · have hm := lst_mem A (-1) h0
      have hm2 := List.mem_append_left (i :: B) hm
      have := hr _ hm2
      exact ⟨by omega, by omega, fun _ => hm2⟩
  have pB : -1 ≤ hd (-1) B ∧ hd (-1) B < 1024 ∧ (0 ≤ hd (-1) B → hd (-1) B ∈ A ++ i :: B) := by
    cases B with
    | nil => simp [hd]
    | cons b0 B =>
      have hm2 : b0 ∈ A ++ i :: b0 :: B := by simp
      have := hr _ hm2
      exact ⟨by simp [hd]; omega, by simp [hd]; omega, fun _ => hm2⟩
  have hsm : ∀ x, x ∈ A ++ i :: B → (lnk (A ++ i :: B) x).isSome = true := fun x hx => by rw [lnk, lk_isSome]; simpa using hx
  obtain ⟨i0, i1⟩ := hr i hi
  have hs2 : (joinF (lnk (A ++ i :: B)) (lst (-1) A) (hd (-1) B) i).isSome = true := joinF_some (hsm i hi)
  refine (drop_raw h (lnk_mid hA) i0 i1 pA.1 pA.2.1 pB.1 pB.2.1 (fun h0 => hsm _ (pA.2.2 h0)) (fun h0 => hsm _ (pB.2.2 h0)) rfl rfl hs2).mono ?_
  rintro e w' ⟨rfl, hB, hM, hO⟩
  rw [hd_mid hne, lst_mid hne] at hB
  rw [join_lnk hne (fun x hx => (hr x hx).1)] at hM
  rw [erase_mid hA]
  have hlen : (A ++ i :: B).length - 1 = (A ++ B).length := by simp
  rw [hlen] at hM
  have hsub : ∀ x, x ∈ A ++ B → x ∈ A ++ i :: B := fun x hx => by
    rcases List.mem_append.1 hx with hx | hx
    · exact List.mem_append_left _ hx
    · exact List.mem_append_right _ (List.mem_cons_of_mem _ hx)
  have hnd : (A ++ B).Nodup := by
    have := List.nodup_append.1 hne
    exact List.nodup_append.2 ⟨this.1, (List.nodup_cons.1 this.2.1).2, fun a ha b hb => this.2.2 a ha b (List.mem_cons_of_mem _ hb)⟩
  exact ⟨rfl, ⟨hB, hM, hnd, fun x hx => hr x (hsub x hx)⟩, hO⟩
theorem drop_at (h : LsAt w p b L) {i : Int} (hwf : (Lit.int .i64 i).wf = true) : Calls Try.prog 31 #[.pointer (some ⟨p, 0, none⟩), .int .i64 i] w fun e w' => e = .returned (.int .i64 (dropC L i)) ∧ LsAt w' p b (L.erase i) ∧ Only (fun k => k = p ∨ k = b) w w' := by
  unfold dropC
  by_cases hi : i ∈ L
  · rw [if_pos hi]; exact drop_mem h hi
  · rw [if_neg hi, List.erase_of_not_mem hi]
    refine (drop_none h hwf hi).mono ?_
    rintro e w' ⟨rfl, hB⟩
    exact ⟨rfl, h.below hB, (Only.none_of_below hB).mono (fun _ _ h => h.elim)⟩
theorem front_at {x : Int} {r : List Int} (h : LsAt w p b (x :: r)) : Calls Try.prog 50 #[.pointer (some ⟨p, 0, none⟩)] w fun e w' => e = .returned (.tuple #[.int .i64 x, .bool true]) ∧ w' = w := by
  obtain ⟨c0, c1, c2⟩ := h.cells
  obtain ⟨h0, h1⟩ := h.rng x (List.mem_cons_self ..)
  replace c1 : w.cell? ⟨p, 1, none⟩ = some (.int .i64 x) := c1
  have hx : decide (x < 0) = false := by simpa using h0
  clear h c2
  go_enter Try.func50, Try.ntmps50
  go_wp2
  go_ret2
  exact ⟨rfl, rfl⟩
theorem front_none (h : LsAt w p b []) : Calls Try.prog 50 #[.pointer (some ⟨p, 0, none⟩)] w fun e w' => e = .returned (.tuple #[.int .i64 0, .bool false]) ∧ w' = w := by
  obtain ⟨c0, c1, c2⟩ := h.cells
  replace c1 : w.cell? ⟨p, 1, none⟩ = some (.int .i64 (-1)) := c1
  clear h c2
  go_enter Try.func50, Try.ntmps50
  go_wp2
  go_ret2
  exact ⟨rfl, rfl⟩
theorem has_at (h : LsAt w p b L) {i : Int} (hwf : (Lit.int .i64 i).wf = true) : Calls Try.prog 29 #[.pointer (some ⟨p, 0, none⟩), .int .i64 i] w fun e w' => e = .returned (.bool (decide (i ∈ L))) ∧ Below w.heap.size w w' := by
  obtain ⟨c0, c1, c2⟩ := h.cells
  have hpl := h.lt.1
  have hl : ∀ o, (Instr.lookup 84 (.map (some b)) (.int .i64 i) true).run Try.prog (w.alloc o) = .ok (.tuple #[nodeV ((lnk L i).getD (0, 0)), .bool (lnk L i).isSome]) (w.alloc o) := fun o => (show MapIs (w.alloc o) b (lnk L) _ from h.map.same (Below.heap_alloc _ _ _ h.map.lt)).look2 hwf
  have hl2 := h.map.look2 hwf
  have hs : (lnk L i).isSome = decide (i ∈ L) := by rw [lnk, lk_isSome]
  rw [hs] at hl hl2
  generalize decide (i ∈ L) = c at *
  generalize (lnk L i).getD (0, 0) = v at hl hl2
  obtain ⟨v1, v2⟩ := v
  simp only [nodeV] at hl hl2
  clear h hs
  go_enter Try.func29, Try.ntmps29
  go_wp2
  go_ret
  exact ⟨rfl, by first | exact Below.refl _ w | exact (Below.refl _ w).alloc (Nat.le_refl _) _⟩
/-- What stands behind a number. -/
def nextV (L : List Int) (i : Int) : Int × Bool := match lnk L i with
  | some (_, n) => if 0 ≤ n then (n, true) else (0, false)
  | none => (0, false)
theorem next_at (h : LsAt w p b L) {i : Int} (hwf : (Lit.int .i64 i).wf = true) : Calls Try.prog 63 #[.pointer (some ⟨p, 0, none⟩), .int .i64 i] w fun e w' => e = .returned (.tuple #[.int .i64 (nextV L i).1, .bool (nextV L i).2]) ∧ Below w.heap.size w w' := by
  obtain ⟨c0, c1, c2⟩ := h.cells
  have hpl := h.lt.1
  have hl2 := h.map.look2 hwf
  clear h
  unfold nextV
  cases hf : lnk L i with
  | none =>
    rw [hf] at hl2
    replace hl2 : (Instr.lookup 84 (.map (some b)) (.int .i64 i) true).run Try.prog w = .ok (.tuple #[.agg #[.int .i64 0, .int .i64 0], .bool false]) w := hl2
    clear hf
    go_enter Try.func63, Try.ntmps63
    go_wp2
    go_ret2
    exact ⟨rfl, (Below.refl _ w).alloc (Nat.le_refl _) _⟩
  | some v =>
    obtain ⟨v1, v2⟩ := v
    rw [hf] at hl2
    replace hl2 : (Instr.lookup 84 (.map (some b)) (.int .i64 i) true).run Try.prog w = .ok (.tuple #[.agg #[.int .i64 v1, .int .i64 v2], .bool true]) w := hl2
    clear hf
    by_cases h0 : 0 ≤ v2
    · simp only [if_pos h0]
      go_enter Try.func63, Try.ntmps63
      go_wp2
      go_ret2
      exact ⟨rfl, (Below.refl _ w).alloc (Nat.le_refl _) _⟩
    · simp only [if_neg h0]
      go_enter Try.func63, Try.ntmps63
      go_wp2
      go_ret2
      exact ⟨rfl, (Below.refl _ w).alloc (Nat.le_refl _) _⟩
end
end Go.Proofs.Ytmhnfcodppfaiac.ListCode
