
/- What no pool answers; pool.Copy makes another pool, that is the same. -/
import Derived.Test.YtmhnfcodppfaiaaPoolCount
namespace Go.Proofs.Ytmhnfcodppfaiaa.PoolCode
open Go Go.RowKit Go.Proofs.YtmhnfcodppfaiaaW.PrintWords Go.Proofs.YtmhnfcodppfaiaaW.PrintMore
set_option maxRecDepth 100000
set_option linter.unusedVariables false
theorem take_nil (x : Sg) (w : World) : Calls Try.prog 8 #[.pointer none, x.val] w fun e w' => e = .returned (.tuple #[.int .i64 0, .int .i64 1]) ∧ Below w.heap.size w w' := by
  obtain ⟨t, c, s, v, u⟩ := x
  show Calls Try.prog 8 #[.pointer none, .agg #[.int .i64 t, .int .i64 c, .bool s, .int .i64 v, .int .u64 u]] w _
  go_enter Try.func8, Try.ntmps8
  go_wp2
  go_ret2
  exact ⟨rfl, (Below.refl _ _).alloc (Nat.le_refl _) _⟩
theorem give_nil (k : Int) (w : World) : Calls Try.prog 10 #[.pointer none, .int .i64 k] w fun e w' => e = .returned (.int .i64 1) ∧ w' = w := by
  go_enter Try.func10, Try.ntmps10
  go_wp2
  go_ret
  exact ⟨rfl, rfl⟩
theorem of_nil (k : Int) (w : World) : Calls Try.prog 11 #[.pointer none, .int .i64 k] w fun e w' => e = .returned (.tuple #[.agg #[.int .i64 0, .int .i64 0, .bool false, .int .i64 0, .int .u64 0], .bool false]) ∧ w' = w.alloc (.cells #[.int .i64 0, .int .i64 0, .bool false, .int .i64 0, .int .u64 0] 32) := by
  go_enter Try.func11, Try.ntmps11
  go_wp2_with (go_quiet (fail))
  refine bodyPost_ret (v := .tuple #[.agg #[.int .i64 0, .int .i64 0, .bool false, .int .i64 0, .int .u64 0], .bool false]) (by rw [results_cell_tmp rfl]; go_simp) rfl ?_
  exact ⟨rfl, rfl⟩
theorem len_nil (w : World) : Calls Try.prog 12 #[.pointer none] w fun e w' => e = .returned (.int .i64 0) ∧ w' = w := by
  go_enter Try.func12, Try.ntmps12
  go_wp2
  go_ret
  exact ⟨rfl, rfl⟩
theorem free_nil (w : World) : Calls Try.prog 9 #[.pointer none] w fun e w' => e = .returned (.int .i64 0) ∧ w' = w := by
  go_enter Try.func9, Try.ntmps9
  go_wp2
  go_ret
  exact ⟨rfl, rfl⟩
theorem copy_nil (w : World) : Calls Try.prog 18 #[.pointer none] w fun e w' => e = .returned (.pointer none) ∧ w' = w := by
  go_enter Try.func18, Try.ntmps18
  go_wp2
  go_ret
  exact ⟨rfl, rfl⟩
theorem list_nil (w : World) : Calls Try.prog 13 #[.pointer none] w fun e w' => e = .returned (.slice none 0 0) ∧ Below w.heap.size w w' := by
  go_enter Try.func13, Try.ntmps13
  go_wp2
  refine bodyPost_ret (v := .slice none 0 0) (by simp [results, Try.f13, go_sem]) rfl ?_
  exact ⟨rfl, ((Below.refl _ w).alloc (Nat.le_refl _) _)⟩
set_option maxHeartbeats 2000000 in
theorem nothing_at (w : World) : Calls Try.prog 14 #[] w fun e w' => e = .returned (.bool true) ∧ Below w.heap.size w w' := by
  go_enter Try.func14, Try.ntmps14
  go_wp2_with (fail)
  refine (take_nil Sg.zero _).mono ?_
  rintro e w1 ⟨rfl, h1⟩
  go_wp2_with (fail)
  refine (of_nil 0 _).mono ?_
  rintro e w2 ⟨rfl, h2⟩
  have k2 : Below w.heap.size w w2 := by rw [h2]; exact h1.alloc h1.size _
  clear h1 h2
  go_wp2_with (fail)
  have k3 : Below w.heap.size w (w2.alloc (.cells #[.int .i64 0, .int .i64 0, .bool false, .int .i64 0, .int .u64 0] 32)) := k2.alloc k2.size _
  refine (give_nil 0 _).mono ?_
  rintro e w3 ⟨rfl, h3⟩
  rw [← h3] at k3
  clear h3 k2
  go_wp2_with (fail)
  refine (len_nil _).mono ?_
  rintro e w4 ⟨rfl, h4⟩
  rw [← h4] at k3
  clear h4
  go_wp2_with (fail)
  refine (free_nil _).mono ?_
  rintro e w5 ⟨rfl, h5⟩
  rw [← h5] at k3
  clear h5
  go_wp2_with (fail)
  refine (list_nil _).mono ?_
  rintro e w6 ⟨rfl, h6⟩
  have k6 := k3.trans (h6.mono k3.size)
  clear h6 k3
  go_wp2_with (fail)
  refine (copy_nil _).mono ?_
  rintro e w7 ⟨rfl, h7⟩
  rw [← h7] at k6
  clear h7
  go_wp2
  go_ret
  exact ⟨rfl, k6⟩
theorem row_one : ∀ (l : List Slot), ∀ u ∈ row l, u.oneCell' = true
  | [], u, h => by cases h
  | y :: l, u, h => by
    rw [row, List.mem_append] at h
    rcases h with h | h
    · exact cells_one y u h
    · exact row_one l u h
theorem grown_below {w1 w2 : World} {base : Nat} {c k : Nat} {b : Nat} (hg : w1.grownBy w2 (Value.slice (some ⟨b, 0, none⟩) c k).ownBlock) (hb : base ≤ b) (hs : base ≤ w1.heap.size) : Below base w1 w2 := by
  refine ⟨hg.os, hg.tape, hg.output, hg.size, fun k hk => hg.block k (by omega) (fun e => ?_)⟩
  simp only [Value.ownBlock, Option.some.injEq] at e
  omega
theorem clone_at {w : World} {p q cp : Nat} {l : List Slot} {pad : List Value} {f n : Int} (h : PoolAt w p q l pad cp f n) (hl : l.length ≤ 1024) : Calls Try.prog 24 #[.slice (some ⟨q, 0, none⟩) l.length cp] w fun e w' => ∃ v, e = .returned v ∧ w'.ownsRow w.heap.size 54 7 v l.length (row l) ∧ Below w.heap.size w w' := by
  go_enter Try.func24, Try.ntmps24
  obtain ⟨C, hC, hCl⟩ := h.slots
  have hEq : (binOp .eql 50 (.slice (some ⟨q, 0, none⟩) l.length cp) (.slice none 0 0)).run Try.prog w = .ok (.bool false) w := by kernel_rfl
  obtain ⟨i0, hi, hz0, hz1, hz2⟩ := info_parts info54
  have hO : (w.alloc (.cells #[] 54)).ownsRow w.heap.size 54 7 (.slice (some ⟨w.heap.size, 0, none⟩) 0 0) 0 [] :=
    ⟨rfl, .inr ⟨w.heap.size, 0, #[], rfl, Nat.le_refl _, heap_alloc_new w _, Nat.le_refl _, Nat.zero_le _, rfl, rfl⟩⟩
  have hN : ∀ (j : Nat) (u : Value), (row l)[j]? = some u → (w.alloc (.cells #[] 54)).cell? ((⟨q, 0, none⟩ : Addr).add j) = some u := by
    intro j u hj
    have e1 : (w.alloc (.cells #[] 54)).cell? ⟨q, j, none⟩ = some u := by
      rw [cell_of ((heap_alloc_old w _ q (heap_lt hC)).trans hC), ← Array.getElem?_toList, hCl]
      rw [List.getElem?_append_left (List.getElem?_eq_some_iff.1 hj).1]; exact hj
    have e2 : ((⟨q, 0, none⟩ : Addr).add j) = ⟨q, j, none⟩ := by simp [Addr.add]; intro h; exact h.symm
    rw [e2]; exact e1
  have hm1 : 0 + l.length ≤ maxLen := by simp only [maxLen]; omega
  have hm2 : (0 + l.length) * 56 ≤ 140737488355328 := by omega
  have hm3 : w.heap.size ≤ (w.alloc (.cells #[] 54)).heap.size := by simp
  go_wp2_with (first | ((with_reducible refine gate_builtin (b := .append) (xs := #[.tmp 5, .tmp 6]) rfl ?_); at_builtin; go_loud (refine wpList_append_own_at (w.alloc (.cells #[] 54)) rfl (.tmp 5) (.tmp 6) 50 rfl w.heap.size 54 i0 (.agg #[.bool false, .int .i64 0, .int .i64 0, .bool false, .int .i64 0, .int .u64 0, .int .i64 0]) 7 56 Try.underlying50 hi hz0 hz1 hz2 rfl (by decide) (.slice (some ⟨w.heap.size, 0, none⟩) 0 0) 0 [] rfl hO ⟨q, 0, none⟩ l.length cp (row l) rfl (row_len l) hN (row_one l) hm1 hm2 hm3 ?_); intro v1 w1 ho hg hnil hat; rw [Nat.zero_add] at ho))
  go_ret
  refine ⟨_, rfl, ho, ?_⟩
  refine ((Below.refl w.heap.size w).alloc (Nat.le_refl _) (.cells #[] 54)).trans (grown_below hg (Nat.le_refl _) hm3)
set_option maxHeartbeats 2000000 in
theorem copy_at {w : World} {p q cp : Nat} {l : List Slot} {pad : List Value} {f n : Int} (h : PoolAt w p q l pad cp f n) (hl : l.length ≤ 1024) (h1 : 1 ≤ l.length) : Calls Try.prog 18 #[.pointer (some ⟨p, 0, none⟩)] w fun e w' => ∃ p' q' cp' pad', e = .returned (.pointer (some ⟨p', 0, none⟩)) ∧ PoolAt w' p' q' l pad' cp' f n ∧ Below w.heap.size w w' ∧ w.heap.size ≤ p' ∧ w.heap.size ≤ q' := by
  go_enter Try.func18, Try.ntmps18
  have c0 := h.c0
  have c1 := h.c1
  have c2 := h.c2
  have hp := h.lp
  go_wp2_with (fail)
  have hb0 : Below w.heap.size w w.drew := ⟨rfl, rfl, rfl, Nat.le_refl _, fun _ _ => rfl⟩
  have hP0 : PoolAt w.drew p q l pad cp f n := h.else rfl rfl
  have hS0 : w.drew.cell? ⟨p, 0, none⟩ = some (.slice (some ⟨q, 0, none⟩) l.length cp) ∧ w.drew.cell? ⟨p, 1, none⟩ = some (.int .i64 f) ∧ w.drew.cell? ⟨p, 2, none⟩ = some (.int .i64 n) := ⟨hP0.c0, hP0.c1, hP0.c2⟩
  go_region_held3 (fun w' : World => w'.cell? ⟨p, 0, none⟩ = some (.slice (some ⟨q, 0, none⟩) l.length cp) ∧ w'.cell? ⟨p, 1, none⟩ = some (.int .i64 f) ∧ w'.cell? ⟨p, 2, none⟩ = some (.int .i64 n) ) (first | exact hS0 | assumption | go_keep | (simp; omega)) ((go_at_call 24; (with_reducible refine (clone_at hP0 hl).mono ?_); rintro e w1 ⟨v, rfl, ho, hb⟩; obtain ⟨B, m, c, rfl⟩ := own_slice ho; have hb1 := hb0.trans hb; have c1' : w1.cell? ⟨p, 1, none⟩ = some (.int .i64 f) := cell_of ((hb1.block p hp).trans h.head); have c2' : w1.cell? ⟨p, 2, none⟩ = some (.int .i64 n) := cell_of ((hb1.block p hp).trans h.head); have hp1 : p < w1.heap.size := Nat.lt_of_lt_of_le hp hb1.size; have c0' : w1.cell? ⟨p, 0, none⟩ = some (.slice (some ⟨q, 0, none⟩) l.length cp) := cell_of ((hb1.block p hp).trans h.head)))
  go_wp2
  go_ret
  rcases ho.2 with ⟨_, h0⟩ | ⟨q', cp', cur, hv, hq, hqh, hcp, _, hsz, htk⟩
  · exact absurd h0 (by omega)
  cases hv
  have hqs := heap_lt hqh
  have hcur : cur.toList = row l ++ cur.toList.drop (l.length * 7) := by rw [← htk, List.take_append_drop]
  refine ⟨w1.heap.size, q', c, cur.toList.drop (l.length * 7), rfl, ⟨heap_alloc_new _ _, ⟨cur, (heap_alloc_old _ _ q' hqs).trans hqh, hcur⟩, by omega⟩, hb1.alloc hb1.size _, hb1.size, hq⟩
end Go.Proofs.Ytmhnfcodppfaiaa.PoolCode
