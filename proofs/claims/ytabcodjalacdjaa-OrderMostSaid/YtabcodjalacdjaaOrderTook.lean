
/- order.Took, New: what they do to the row. -/
import Derived.Test.YtabcodjalacdjaaOrder
import Derived.Laws.CopyOwn
import Derived.Deep.RegionLaw
namespace Go.Proofs.Ytabcodjalacdjaa.OrderCode
open Go Go.RowKit Go.Proofs.Ytabcodjalacdjaa.Obj Go.Proofs.Ytabcodjalacdjaa.Row Go.Proofs.YtabcodjalacdjaaW.PrintWords Go.Proofs.YtabcodjalacdjaaW.PrintMore
set_option linter.unusedVariables false
set_option maxRecDepth 100000
/-- What copy leaves, where it may lie anywhere in one block: all other blocks are as they were. -/
theorem step_copy_only {P : Program} {ops : Array Oper} {o : Oper} {a : Act} {w : World} {K : Act → World → Prop} {Q : Exit → Act → World → Prop} {E : Prop} (hgd : o.guard = none) (d s : Operand) (dT sT : TypeId)
    (ho : o.op = .call { callee := .builtin .copy, args := #[d, s], argTypes := #[dT, sT] }) (elem : TypeId) (hu : P.underlying dT = some (.slice elem)) (hsz : (P.info? elem).map (·.size) = some 1)
    (g off : Nat) (ad : Addr) (dLen dCap sLen sCap : Nat) (hd : a.eval d = .slice (some ⟨g, off, none⟩) dLen dCap) (hs : a.eval s = .slice (some ad) sLen sCap)
    (cur : List Value) (t : TypeId) (hg : w.heap[g]? = some (.cells cur.toArray t (0, 0))) (cs : List Value) (hn : cs.length = Nat.min sLen dLen)
    (hsrc : ∀ j v, cs[j]? = some v → w.cell? (ad.add j) = some v) (hfit : off + cs.length ≤ cur.length) (h1 : ∀ v ∈ cs, v.oneCell' = true)
    (h : ∀ w', Hid (w'.heap[g]? = some (.cells (splice cur off cs).toArray t (0, 0))) → Only (· = g) w w' → K (a.put o.dst (goInt cs.length)) w') :
    if Region.wanted o (yielded ops a.tmps) = true then Oper.wp P o a w K Q else E := by
  have hw : Region.wanted o (yielded ops a.tmps) = true := by simp [Region.wanted, hgd]
  rw [if_pos hw]
  have hrun := run_copy_row (P := P) w dT sT o.type elem g off dLen dCap ad sLen sCap cur.toArray t cs hu hsz hg hn hsrc (by simpa using hfit) h1
  have hK := h (w.setRow g ((cur.toArray).toList.take off ++ cs ++ (cur.toArray).toList.drop (off + cs.length)).toArray) (show _ = _ by simpa [splice] using setRow_heap w g _ _ t _ hg) ⟨rfl, rfl, rfl, by simp [World.setRow], fun k hk hne => setRow_other w g k _ hne⟩
  unfold Oper.wp
  simp only [execOp, ho, resolve, invoke, builtin, Sem.run_bind, Sem.run_pure, Result.andThen_ok, List.map_toArray, List.map_cons, List.map_nil, hd, hs, hrun]
  exact hK
def tookL (L : List Int) (k : Int) : List Int := L.take (L.idxOf k) ++ L.drop (L.idxOf k + 1) ++ [k]
theorem nums_append (A B : List Int) : nums .i64 (A ++ B) = nums .i64 A ++ nums .i64 B := by simp [nums]
theorem nums_length (A : List Int) : (nums .i64 A).length = A.length := by simp [nums]
theorem nums_take (A : List Int) (i : Nat) : (nums .i64 A).take i = nums .i64 (A.take i) := by simp [nums]
theorem nums_drop (A : List Int) (i : Nat) : (nums .i64 A).drop i = nums .i64 (A.drop i) := by simp [nums]
theorem tookL_len {L : List Int} {k : Int} (hk : k ∈ L) : (tookL L k).length = L.length := by
  have := List.idxOf_lt_length_iff.2 hk
  unfold tookL
  simp only [List.length_append, List.length_take, List.length_drop, List.length_cons, List.length_nil]
  omega
theorem took_cells (L pad : List Int) (N : Value) (a : Nat) (ha : a < L.length) (k : Int) :
    (splice (nums .i64 (L ++ pad) ++ [N]) a (nums .i64 (L.drop (a + 1)))).set (L.length - 1) (.int .i64 k) = nums .i64 ((L.take a ++ L.drop (a + 1) ++ [k]) ++ pad) ++ [N] := by
  have e0 : L = L.take (L.length - 1) ++ [L[L.length - 1]'(by omega)] := by
    rw [List.take_append_getElem]
    rw [List.take_of_length_le (by omega)]
  have h1 : (nums .i64 (L ++ pad) ++ [N]).take a = nums .i64 (L.take a) := by
    rw [List.take_append_of_le_length (by rw [nums_length, List.length_append]; omega), nums_take, List.take_append_of_le_length (by omega)]
  have h2 : (nums .i64 (L ++ pad) ++ [N]).drop (a + (nums .i64 (L.drop (a + 1))).length) = [Value.int .i64 (L[L.length - 1]'(by omega))] ++ nums .i64 pad ++ [N] := by
    rw [nums_length, List.length_drop, show a + (L.length - (a + 1)) = L.length - 1 by omega, List.drop_append_of_le_length (by rw [nums_length, List.length_append]; omega), nums_drop, List.drop_append_of_le_length (by omega), List.drop_eq_getElem_cons (by omega), List.drop_of_length_le (by omega), nums_append]
    simp [nums]
  unfold splice
  rw [h1, h2, ← List.append_assoc, List.set_append_right _ _ (by simp only [List.length_append, nums_length, List.length_take, List.length_drop]; omega)]
  have h3 : L.length - 1 - (nums .i64 (L.take a) ++ nums .i64 (L.drop (a + 1))).length = 0 := by
    simp only [List.length_append, nums_length, List.length_take, List.length_drop]; omega
  rw [h3]
  simp [nums]
theorem took_no {w : World} {o : Nat} {L : List Int} (h : OrdAt w o L) {k : Int} (hk : k ∉ L) : Calls Try.prog 9 #[.pointer (some ⟨o, 0, none⟩), .int .i64 k] w fun e w' => e = .returned (.int .i64 2) ∧ ∃ m, w' = w.drewN m := by
  have h6 := h.six
  have hR := row_at h
  have hI := index_at 6 h.drew.reads (by omega) k
  rw [at_no hk] at hI
  generalize L.length = n at *
  clear h hk
  go_enter Try.func9, Try.ntmps9
  go_wp2_with (fail)
  refine hR.mono ?_
  rintro e w1 ⟨rfl, rfl⟩
  go_wp2_with (fail)
  refine hI.mono ?_
  rintro e w1 ⟨rfl, rfl⟩
  go_wp2_with (fail)
  go_ret
  exact ⟨rfl, 1, rfl⟩
theorem info_sz : (Try.prog.info? 3).map (·.size) = some 1 := by kernel_rfl
set_option maxHeartbeats 20000000 in
theorem took_yes {w : World} {o : Nat} {L : List Int} (h : OrdAt w o L) {k : Int} (hk : k ∈ L) : Calls Try.prog 9 #[.pointer (some ⟨o, 0, none⟩), .int .i64 k] w fun e w' => e = .returned (.int .i64 0) ∧ OrdAt w' o (tookL L k) ∧ Only (· = o) w w' := by
  have h6 := h.six
  have hR := row_at h
  have hI := index_at 6 h.drew.reads (by omega) k
  have ha := List.idxOf_lt_length_iff.2 hk
  have htl := tookL_len hk
  have htc : ∀ pad N, _ := fun pad N => took_cells L pad N (L.idxOf k) ha k
  have hrd := h.drew.drew.reads
  obtain ⟨pad, h1, h2⟩ := h
  rw [at_yes hk] at hI
  unfold tookL at *
  generalize hae : L.idxOf k = a at *
  have ho := h2.lt
  have hg : w.drew.drew.heap[o]? = some (.cells (nums .i64 (L ++ pad) ++ [Value.int .i64 (L.length : Int)]).toArray 60 (0, 0)) := h2
  have o0 : Only (· = o) w w.drew.drew := ⟨rfl, rfl, rfl, Nat.le_refl _, fun _ _ _ => rfl⟩
  have cs1 : (nums .i64 (L.drop (a + 1))).length = L.length - (a + 1) := by rw [nums_length, List.length_drop]
  have z3 : a + (nums .i64 (L.drop (a + 1))).length ≤ (nums .i64 (L ++ pad) ++ [Value.int .i64 (L.length : Int)]).length := by
    rw [cs1, List.length_append, nums_length, List.length_append]; simp; omega
  have z4 : ∀ v ∈ nums .i64 (L.drop (a + 1)), v.oneCell' = true := by
    intro u hu; simp only [nums, List.mem_map] at hu; obtain ⟨q, _, rfl⟩ := hu; rfl
  have fin : ∀ w', Hid (w'.heap[o]? = some (.cells (splice (nums .i64 (L ++ pad) ++ [Value.int .i64 (L.length : Int)]) a (nums .i64 (L.drop (a + 1)))).toArray 60 (0, 0))) → Only (· = o) w w' → w'.cell? ⟨o, 6, none⟩ = some (.int .i64 (L.length : Int)) ∧ (∃ y, w'.cell? ⟨o, L.length - 1, none⟩ = some y) ∧ (∀ i, w'.frozen? ⟨o, i, none⟩ = false) ∧ OrdAt (w'.setCell ⟨o, L.length - 1, none⟩ (.int .i64 k)) o (L.take a ++ L.drop (a + 1) ++ [k]) ∧ Only (· = o) w (w'.setCell ⟨o, L.length - 1, none⟩ (.int .i64 k)) := by
    intro w' hw' hb'
    have hB : Blk w' o 60 (splice (nums .i64 (L ++ pad) ++ [Value.int .i64 (L.length : Int)]) a (nums .i64 (L.drop (a + 1)))) := hw'
    have hsp := hB.set (L.length - 1) (.int .i64 k)
    rw [htc] at hsp
    have hbl := hB.lt
    have hcell : ∀ i, L.length ≤ i + 1 → (splice (nums .i64 (L ++ pad) ++ [Value.int .i64 (L.length : Int)]) a (nums .i64 (L.drop (a + 1))))[i]? = (nums .i64 (L ++ pad) ++ [Value.int .i64 (L.length : Int)])[i]? := by
      intro i hi
      unfold splice
      rw [List.getElem?_append_right (by rw [List.length_take]; omega), List.length_take, Nat.min_eq_left (by rw [List.length_append, nums_length, List.length_append]; omega), List.getElem?_append_right (by rw [cs1]; omega), cs1, List.getElem?_drop]
      congr 1
      omega
    refine ⟨?_, ?_, fun i => hB.frozen i, ⟨pad, ?_, ?_⟩, ?_⟩
    · rw [hB.cell 6, hcell 6 (by omega), List.getElem?_append_right (by rw [nums_length, List.length_append]; omega)]
      rw [nums_length, List.length_append, h1]; rfl
    · rw [hB.cell, hcell _ (by omega)]
      exact ⟨_, List.getElem?_eq_getElem (by rw [List.length_append, nums_length, List.length_append]; omega)⟩
    · rw [htl]; exact h1
    · rw [htl]; exact hsp
    · exact hb'.trans (Only.setCell _ _ _ rfl)
  have finH := hid fin
  have hnh := hid htl
  have hkh := hid hk
  clear fin htl hk hae htc
  by_cases ha5 : a = 5
  · subst ha5
    have hL6 : L.length = 6 := by omega
    have z1 : (nums .i64 (L.drop (5 + 1))).length = Nat.min 0 1 := by rw [cs1, hL6]; rfl
    have z2 : ∀ j v, (nums .i64 (L.drop (5 + 1)))[j]? = some v → w.drew.drew.cell? ((⟨o, 0, none⟩ : Addr).add j) = some v := by
      intro j v hv
      have := (List.getElem?_eq_some_iff.1 hv).1
      rw [cs1] at this
      omega
    rw [hL6] at finH hg hR hI z3
    have q2 : IntKind.i64.wrap 6 = 6 := by rfl
    go_enter Try.func9, Try.ntmps9
    go_wp2_with (fail)
    refine hR.mono ?_
    rintro e w1 ⟨rfl, rfl⟩
    go_wp2_with (fail)
    refine hI.mono ?_
    rintro e w1 ⟨rfl, rfl⟩
    go_wp2_with (fail)
    go_region_law (refine step_copy_only (by rfl) (.tmp 18) (.tmp 22) 28 28 (by rfl) 3 Try.underlying28 info_sz o 5 ⟨o, 0, none⟩ 1 1 0 0 (by rfl) (by rfl) (nums .i64 (L ++ pad) ++ [Value.int .i64 ((6 : Nat) : Int)]) 60 hg (nums .i64 (L.drop (5 + 1))) z1 z2 z3 z4 ?_; intro w4 hg4 hb4; obtain ⟨f1, ⟨y, f2⟩, f3, f4, f5⟩ := finH.out w4 hg4 (o0.trans hb4))
    all_goals have f1' : w4.cell? ⟨o, 6, none⟩ = some (.int .i64 6) := f1
    all_goals have f2' : w4.cell? ⟨o, 5, none⟩ = some y := f2
    all_goals clear z1 z2 finH hg hg4 hb4 hrd o0 hR hI h2 q2 f1 f2
    all_goals go_wp2
    all_goals go_ret
    all_goals exact ⟨rfl, f4, f5⟩
  · have hal : (a : Int) ≤ (L.length : Int) := by omega
    have hal1 : (a : Int) + 1 ≤ (L.length : Int) := by omega
    have hn6 : (L.length : Int) ≤ 6 := by omega
    have hq1 : a ≤ L.length := by omega
    have hq2 : ¬ (6 = a) := by omega
    have hq3 : a + 1 ≤ L.length := by omega
    have hq4 : ¬ (6 = a + 1) := by omega
    have hq5 : IntKind.i64.wrap ((a : Int) + 1) = (a : Int) + 1 := IntWalk.i64_in _ (by omega)
    have hq6 : (a : Int) + 1 ≤ 6 := by omega
    have hq7 : (0 : Int) ≤ (a : Int) + 1 := by omega
    go_enter Try.func9, Try.ntmps9
    go_wp2_with (fail)
    refine hR.mono ?_
    rintro e w1 ⟨rfl, rfl⟩
    go_wp2_with (fail)
    refine hI.mono ?_
    rintro e w1 ⟨rfl, rfl⟩
    go_wp2_with (fail)
    have z1 : (nums .i64 (L.drop (a + 1))).length = Nat.min (L.length - (a + 1)) (L.length - a) := by rw [cs1]; exact (Nat.min_eq_left (by omega)).symm
    have z2 : ∀ j v, (nums .i64 (L.drop (a + 1)))[j]? = some v → w.drew.drew.cell? ((⟨o, a + 1, none⟩ : Addr).add j) = some v := by
      intro j v hv
      have hj : j < (L.drop (a + 1)).length := by
        have := (List.getElem?_eq_some_iff.1 hv).1
        rwa [nums_length] at this
      rw [List.length_drop] at hj
      obtain ⟨x, hx, hc⟩ := hrd.cell (a + 1 + j) (by omega)
      cases hx
      rw [addr_add0] at hc
      have e2 : ((⟨o, a + 1, none⟩ : Addr).add j) = ⟨o, a + 1 + j, none⟩ := by unfold Addr.add; split <;> simp_all
      rw [e2, hc, ← hv, nums, List.getElem?_map, List.getElem?_drop, List.getElem?_eq_getElem (by omega), List.getD_eq_getElem?_getD, List.getElem?_eq_getElem (by omega)]
      rfl
    go_region_law (refine step_copy_only (by rfl) (.tmp 18) (.tmp 22) 28 28 (by rfl) 3 Try.underlying28 info_sz o a ⟨o, a + 1, none⟩ (L.length - a) (6 - a) (L.length - (a + 1)) (5 - a) (by rfl) (by rfl) (nums .i64 (L ++ pad) ++ [Value.int .i64 (L.length : Int)]) 60 hg (nums .i64 (L.drop (a + 1))) z1 z2 z3 z4 ?_; intro w4 hg4 hb4; obtain ⟨f1, ⟨y, f2⟩, f3, f4, f5⟩ := finH.out w4 hg4 (o0.trans hb4))
    all_goals have hlm : 0 < L.length := (by omega)
    all_goals have hl1 : ((L.length : Int) - 1) = ((L.length - 1 : Nat) : Int) := (by omega)
    all_goals have hl2 : L.length - 1 < L.length := (by omega)
    all_goals clear hq1 hq2 hq3 hq4 hq5 hq6 hq7 z1 z2 finH hg hg4 hb4 hrd o0 hR hI h2
    all_goals go_wp2
    all_goals go_ret
    all_goals exact ⟨rfl, f4, f5⟩
end Go.Proofs.Ytabcodjalacdjaa.OrderCode
