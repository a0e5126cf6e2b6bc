
/- Counting a pool's slots: those that are taken, and those that are free, are all. -/
import Derived.Test.YtmhnfcodppfaiaaPoolList
import Derived.Test.YtmhnfcodppfaiaaObj
namespace Go.Proofs.Ytmhnfcodppfaiaa.PoolCode
open Go Go.RowKit
theorem filter_both (p : Nat → Bool) : ∀ l : List Nat, (l.filter p).length + (l.filter (fun i => !p i)).length = l.length
  | [] => rfl
  | a :: l => by
    have := filter_both p l
    cases h : p a <;> simp [h] <;> omega
theorem isAt_free {l : List Slot} {f n : Int} {ch : List Nat} (h : Sound l f n ch) (i : Nat) (hi : i < l.length) : isAt l i = decide (i ∉ ch) := by
  have hf := h.free i l[i] (List.getElem?_eq_getElem hi)
  simp only [isAt, List.getElem?_eq_getElem hi]
  cases hb : (l[i]).is with
  | false => rw [hb] at hf; simp [hf.1 rfl]
  | true => rw [hb] at hf; simp; intro hm; exact absurd (hf.2 hm) (by simp)
theorem count_taken {l : List Slot} {f n : Int} {ch : List Nat} (h : Sound l f n ch) : (tk l l.length).length + ch.length = l.length := by
  have hp : ch.Perm ((List.range l.length).filter (fun i => !isAt l i)) := by
    refine (List.perm_ext_iff_of_nodup h.nodup (List.nodup_range.filter _)).2 fun i => ?_
    rw [List.mem_filter, List.mem_range]
    constructor
    · intro hi
      have hlt := h.chain.lt i hi
      exact ⟨hlt, by rw [isAt_free h i hlt]; simpa using hi⟩
    · rintro ⟨hlt, hb⟩
      rw [isAt_free h i hlt] at hb
      simpa using hb
  rw [hp.length_eq]
  have := filter_both (isAt l) (List.range l.length)
  simp only [List.length_range] at this
  simp only [tk, List.length_map]
  omega
theorem info4 : (Try.prog.info? 4).map (fun i => (i.zero, i.size, i.bytes)) = some (some (.bool false), 1, 1) := by kernel_rfl
theorem made_bools (m : Nat) (W : World) (hm : m ≤ 1000) : (Instr.makeSlice 29 (.int .i64 (m : Int)) (.int .i64 (m : Int))).run Try.prog W = .ok (.slice (some ⟨W.heap.size, 0, none⟩) m m) (W.alloc (.cells (madeCells #[.bool false] m) 4)) := by
  obtain ⟨i0, hi, hz⟩ := Option.map_eq_some_iff.1 info4
  simp only [Prod.mk.injEq] at hz
  obtain ⟨h1, h2, h3⟩ := hz
  have := run_make (P := Try.prog) W 29 4 i0 (.bool false) Try.underlying29 hi h1 .i64 .i64 m m (by omega) (by omega) (by rw [h3]; omega) (by omega)
  simpa [h2, Value.cells] using this
theorem made_at (m k : Nat) (hk : k < m) : (madeCells #[Value.bool false] m)[k]? = some (.bool false) := by
  unfold madeCells
  simp [hk, Nat.mod_one]
end Go.Proofs.Ytmhnfcodppfaiaa.PoolCode
