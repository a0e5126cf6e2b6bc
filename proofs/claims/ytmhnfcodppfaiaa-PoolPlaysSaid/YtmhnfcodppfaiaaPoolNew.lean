
/- What pool.New makes. -/
import Derived.Test.YtmhnfcodppfaiaaPoolCode
import Derived.Test.YtmhnfcodppfaiaaWMore
namespace Go.Proofs.Ytmhnfcodppfaiaa.PoolCode
open Go.RowKit Go.Proofs.YtmhnfcodppfaiaaW.PrintWords Go.Proofs.YtmhnfcodppfaiaaW.PrintMore
set_option maxRecDepth 100000
set_option linter.unusedVariables false
def mk (i : Nat) : List Slot := (List.range i).map fun j : Nat => ⟨false, Sg.zero, (j : Int) + 1⟩
theorem mk_len (i : Nat) : (mk i).length = i := by simp [mk]
theorem mk_succ (i : Nat) : mk (i + 1) = mk i ++ [⟨false, Sg.zero, (i : Int) + 1⟩] := by simp [mk, List.range_succ]
theorem info54 : (Try.prog.info? 54).map (fun i => (i.zero, i.size, i.bytes)) = some (some (.agg #[.bool false, .int .i64 0, .int .i64 0, .bool false, .int .i64 0, .int .u64 0, .int .i64 0]), 7, 56) := by kernel_rfl
theorem cells_one (y : Slot) : ∀ u ∈ y.cells, u.oneCell' = true := by
  intro u hu
  simp only [Slot.cells, List.mem_cons, List.not_mem_nil, or_false] at hu
  rcases hu with rfl | rfl | rfl | rfl | rfl | rfl | rfl <;> rfl
theorem row_next (l : List Slot) (pad : List Value) (k : Nat) (y : Slot) (g : Int) (h : l[k]? = some y) : (row l ++ pad).set (k * 7 + 6) (.int .i64 g) = row (l.set k ⟨y.is, y.x, g⟩) ++ pad := by
  obtain ⟨hk, rfl⟩ := List.getElem?_eq_some_iff.1 h
  have e := row_set l pad k l[k] hk
  rw [List.set_getElem_self] at e
  rw [row_set l pad k _ hk, e]
  have n1 : ((row l ++ pad).take (k * 7)).length = k * 7 := by rw [List.length_take, List.length_append, row_len]; omega
  rw [← e]
  generalize (row l ++ pad).take (k * 7) = A at *
  generalize (row l ++ pad).drop (k * 7 + 7) = B at *
  rw [e, List.set_append_left _ _ (by rw [List.length_append, n1]; simp [Slot.cells]), List.set_append_right _ _ (by omega), n1, Nat.add_sub_cancel_left]
  rfl
theorem own_set {w : World} {base e size n : Nat} {v : Value} {xs : List Value} {a : Addr} {u : Value} (h : w.ownsRow base e size v n xs) (ha : a.block < base) : (w.setCell a u).ownsRow base e size v n xs := by
  obtain ⟨h1, h2⟩ := h
  refine ⟨h1, ?_⟩
  rcases h2 with h2 | ⟨g, cap, cur, hv, hg, hh, r⟩
  · exact .inl h2
  · exact .inr ⟨g, cap, cur, hv, hg, by rw [Below.heap_setCell _ _ _ _ (by omega)]; exact hh, r⟩
theorem own_slice {w : World} {base e size n : Nat} {v : Value} {xs : List Value} (h : w.ownsRow base e size v n xs) : ∃ B m c, v = .slice B m c := by
  rcases h.2 with ⟨rfl, _⟩ | ⟨g, cap, cur, rfl, _⟩
  · exact ⟨_, _, _, rfl⟩
  · exact ⟨_, _, _, rfl⟩
/-- Under way: the first i slots are made. -/
structure Making (w w' : World) (p i : Nat) : Prop where
  below : Below p w w'
  head : ∃ v, w'.heap[p]? = some (.cells #[v, .int .i64 0, .int .i64 0] 52 (0, 0)) ∧ w'.ownsRow (p + 1) 54 7 v i (row (mk i))
theorem new_at (n : Nat) (h1 : 1 ≤ n) (h2 : n ≤ 1024) (w : World) : Calls Try.prog 7 #[.int .i64 (n : Int)] w fun e w' => e = .returned (.tuple #[.pointer (some ⟨w.heap.size,0,none⟩), .int .i64 0]) ∧
    Below w.heap.size w w' ∧ ∃ q cp pad, w.heap.size < q ∧ PoolAt w' w.heap.size q ((mk n).set (n - 1) ⟨false, Sg.zero, -1⟩) pad cp 0 0 := by
  go_enter Try.func7, Try.ntmps7
  go_wp2
  go_loopg [5, 15] n (fun kq v5 v15 w' => ∃ i : Nat, kq + i = n ∧ v15 = .int .i64 (i : Int) ∧ Making w w' w.heap.size i)
  case atStart => 
    refine ⟨0, rfl, rfl, ⟨?_, _, heap_alloc_new _ _, by rw [show row (mk 0) = [] from rfl]; exact own_nil _ _ _ _⟩⟩
    exact (Below.refl _ _).alloc (Nat.le_refl _) _
  case round =>
    obtain ⟨i, hk, rfl, hM⟩ := hrel
    obtain ⟨v, hh, hown⟩ := hM.head
    have c0 : wr.cell? ⟨w.heap.size, 0, none⟩ = some v := cell_of hh
    have z0 : ∀ i, wr.frozen? ⟨w.heap.size, i, none⟩ = false := fun i => frozen_of hh
    have hp := heap_lt hh
    cases gk with
    | zero =>
      have hin : i = n := by omega
      subst hin
      have hn : ¬ ((i : Int) < (i : Int)) := by omega
      obtain ⟨he, hv⟩ := hown
      rcases hv with ⟨_, h0⟩ | ⟨q, cp, cur, rfl, hq, hqh, hcp, _, hsz, htk⟩
      · exact absurd h0 (by omega)
      have hcur : cur.toList = row (mk i) ++ cur.toList.drop (i * 7) := by rw [← htk, List.take_append_drop]
      have hP : PoolAt wr w.heap.size q (mk i) (cur.toList.drop (i * 7)) cp 0 0 := ⟨by rw [mk_len]; exact hh, ⟨cur, hqh, hcur⟩, by omega⟩
      have hlast : (mk i)[i - 1]? = some ⟨false, Sg.zero, ((i - 1 : Nat) : Int) + 1⟩ := by
        rw [mk, List.getElem?_map, List.getElem?_range (by omega)]; rfl
      have c6 := hP.at hlast (show 6 < 7 by decide)
      have c6' : wr.cell? ⟨q, (i - 1) * 7 + 6, none⟩ = some (.int .i64 (((i - 1 : Nat) : Int) + 1)) := c6
      have z1 := hP.fq
      have hqs := heap_lt hqh
      have hi1 : ((i : Int) - 1) = ((i - 1 : Nat) : Int) := by omega
      go_wp2
      go_ret2
      have hc6 : (w.heap.size : Nat) ≠ q := by omega
      refine ⟨rfl, hM.below.setCell (by show w.heap.size ≤ q; omega) _, q, cp, cur.toList.drop (i * 7), by omega, ⟨?_, ⟨_, heap_set hqh, ?_⟩, by omega⟩⟩
      · rw [Below.heap_setCell _ _ _ _ hc6, List.length_set, mk_len]; exact hh
      · rw [Array.toList_setIfInBounds, hcur]
        have := row_next (mk i) (cur.toList.drop (i * 7)) (i - 1) _ (-1) hlast
        rw [← hcur] at this ⊢
        exact this
    | succ k1 =>
      have hin : (i : Int) < (n : Int) := by omega
      go_wp2_with (first | ((with_reducible refine gate_builtin (b := .append) (xs := #[.tmp 22, .tmp 26]) rfl ?_); at_builtin; go_loud (refine print_append_cells (w0 := wr) (w.heap.size + 1) rfl (.tmp 22) (.tmp 26) 50 54 (.agg #[.bool false, .int .i64 0, .int .i64 0, .bool false, .int .i64 0, .int .u64 0, .int .i64 0]) 7 56 rfl Try.underlying50 info54 rfl (by decide) (by decide) v i (row (mk i)) (Slot.cells ⟨false, Sg.zero, (i : Int) + 1⟩) rfl rfl rfl (cells_one _) hown (Below.refl _ _) hp (by omega) ?_); intro v1 w1 ho hb hg hat; have hh1 := (hb.block w.heap.size (Nat.lt_succ_self _)).trans hh; have d0 : w1.cell? ⟨w.heap.size, 0, none⟩ = some v := cell_of hh1; have dz : ∀ i, w1.frozen? ⟨w.heap.size, i, none⟩ = false := fun i => frozen_of hh1; obtain ⟨B1, m1, k1_, rfl⟩ := own_slice ho))
      go_roundg k1
      case measure => omega
      case rel =>
        refine ⟨i + 1, by omega, by first | rfl | (congr 1; omega), ⟨(hM.below.trans (hb.mono (Nat.le_succ _))).setCell (Nat.le_refl _) _, _, heap_set hh1, ?_⟩⟩
        rw [mk_succ, row_append]
        exact own_set (by simpa [row] using ho) (Nat.lt_succ_self _)
end Go.Proofs.Ytmhnfcodppfaiaa.PoolCode
