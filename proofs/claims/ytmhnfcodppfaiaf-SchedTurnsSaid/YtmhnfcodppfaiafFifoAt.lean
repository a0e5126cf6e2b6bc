
/- fifo.At, Has, List: what they answer. -/
import Derived.Test.YtmhnfcodppfaiafFifoEach
namespace Go.Proofs.Ytmhnfcodppfaiaf.FifoCode
open Go Go.RowKit Go.Shelf Go.Proofs.Ytmhnfcodppfaiaf.Obj Go.Proofs.Ytmhnfcodppfaiaf.Iter Go.Proofs.Ytmhnfcodppfaiaf.Meth Go.Proofs.YtmhnfcodppfaiafW.PrintWords Go.Proofs.YtmhnfcodppfaiafW.PrintLast Go.Proofs.YtmhnfcodppfaiafW.PrintMore
attribute [local go_sem] Oper.semAt_some
set_option linter.unusedVariables false
set_option maxRecDepth 100000
/-- The place of one; below 0: it is none. -/
def at_ (L : List Int) (k : Int) : Int := if k ∈ L then (L.idxOf k : Int) else -1
theorem at_yes {L : List Int} {k : Int} (h : k ∈ L) : at_ L k = (L.idxOf k : Int) := if_pos h
theorem at_no {L : List Int} {k : Int} (h : k ∉ L) : at_ L k = -1 := if_neg h
theorem at_lt (L : List Int) (k : Int) : at_ L k < L.length := by
  unfold at_
  split
  · have := List.idxOf_lt_length_iff.2 (by assumption : k ∈ L); omega
  · omega
theorem at_nn {L : List Int} {k : Int} : 0 ≤ at_ L k ↔ k ∈ L := by
  unfold at_
  split
  · simp_all
  · simp_all
theorem idxOf_le : ∀ {L : List Int} {i : Nat} (h : i < L.length), L.idxOf L[i] ≤ i
  | [], i, h => by simp at h
  | a :: r, 0, h => by simp
  | a :: r, i + 1, h => by
    have := idxOf_le (L := r) (i := i) (by simpa using h)
    simp only [List.getElem_cons_succ, List.idxOf_cons]
    cases (a == r[i]'(by simpa using h)) <;> simp <;> omega
/-- Where the search has stopped. -/
theorem at_found {L : List Int} {k : Int} {m i : Nat} {pre : List (Nat × Int)} (hm : m ≤ L.length) (h : pre ++ [(i, k)] = upto L m) (hn : ∀ y ∈ pre, y.2 ≠ k) : at_ L k = i := by
  have hl := congrArg List.length h
  rw [List.length_append, upto_len] at hl
  simp at hl
  obtain ⟨q, rfl⟩ : ∃ q, m = q + 1 := ⟨m - 1, by omega⟩
  rw [upto_succ] at h
  obtain ⟨h1, h2⟩ := List.append_inj h (by rw [upto_len]; omega)
  simp only [List.cons.injEq, Prod.mk.injEq, and_true] at h2
  obtain ⟨rfl, hk⟩ := h2
  have hq : i < L.length := by omega
  have hLi : L[i] = k := by rw [hk]; simp [List.getD, List.getElem?_eq_getElem hq]
  have hmem : k ∈ L := hLi ▸ List.getElem_mem hq
  rw [at_yes hmem]
  have hle : ∀ j, j < i → L[j]? ≠ some k := fun j hj e => by
    refine hn (j, k) ?_ rfl
    rw [h1]
    refine List.mem_map.2 ⟨j, List.mem_range.2 hj, ?_⟩
    simp [List.getD, e]
  have h3 := List.idxOf_lt_length_iff.2 hmem
  rcases Nat.lt_trichotomy (L.idxOf k) i with h | h | h
  · exact absurd (by rw [List.getElem?_eq_getElem h3]; simp) (hle _ h)
  · rw [h]
  · have h4 : L.idxOf k ≤ i := by rw [← hLi]; exact idxOf_le hq
    omega
theorem at_all {L : List Int} {k : Int} (h : ∀ y ∈ upto L L.length, y.2 ≠ k) : at_ L k = -1 := by
  refine at_no fun hm => ?_
  rw [← upto_vals L] at hm
  obtain ⟨y, h1, h2⟩ := List.mem_map.1 hm
  exact h y h1 h2
def lastI (pre : List (Nat × Int)) : Value := match pre.getLast? with
  | some y => .int .i64 (y.1 : Nat)
  | none => undef
set_option maxHeartbeats 2000000 in
theorem At_in {p most : Nat} {L : List Int} {w : World} (h : FifoAt w p most L) (k : Int) : CallsIn Fence.wide 5 Try.prog 42 #[.pointer (some ⟨p, 0, none⟩), .int .i64 k] w fun e W' => e = .returned (.int .i64 (at_ L k)) ∧ Below w.heap.size w W' := by
  have hro : Fence.wide.round = none := rfl
  have h48 : Fence.wide.fn 39 := trivial
  have hwd : Fence.wide.depth = none := rfl
  have hmf : ∀ (fn : Fn) (first cap : Array Value) (w : World), (Instr.makeFunc fn first cap).run Try.prog w = .ok (.func fn first cap) w := fun _ _ _ _ => rfl
  have hL : L.length ≤ 32 := Nat.le_trans h.fit h.most32
  have hp := h.lt
  refine callsIn_of_wp_marks Try.func42 rfl trivial ?_ hro
  simp only [Try.ntmps42, List.size_toArray, List.length_cons, List.length_nil, Nat.reduceAdd, Nat.reduceSub, Array.replicate_succ, Array.replicate_zero, List.push_toArray, List.append_toArray, List.nil_append, List.cons_append]
  gi_wp2
  refine wpIn_scope_straight' ?_
  gi_wp2
  refine wpIn_label ?_
  gi_wp2
  have bK := Boxed.new w 3 (.int .i64 k)
  have bA := Boxed.new (w.alloc (.cells #[.int .i64 k] 3)) 3 (.int .i64 (-1))
  rw [World.size_alloc] at bA
  have hB0 : Below w.heap.size w ((w.alloc (.cells #[.int .i64 k] 3)).alloc (.cells #[.int .i64 (-1)] 3)) := ((Below.refl _ w).alloc (Nat.le_refl _) _).alloc (by simp) _
  have hS : FifoAt ((w.alloc (.cells #[.int .i64 k] 3)).alloc (.cells #[.int .i64 (-1)] 3)) p most L := (h.alloc _).alloc _
  refine wpIn_range_meth hro (by decide) (gf := 39) (fst := #[.pointer (some ⟨p, 0, none⟩)]) (lb := #[]) rfl h48 (enters_of Try.func39 (by kernel_rfl) rfl)
    (each_seq 4 p most L _ hS) Kb1_t (Kb1_b (by simp; omega)) (Below.refl _ _) (fun _ => rfl)
    (fun pre W => (∀ y ∈ pre, y.2 ≠ k) ∧ Boxed W w.heap.size 3 (.int .i64 k) ∧ Boxed W (w.heap.size + 1) 3 (.int .i64 (-1)) ∧ Below w.heap.size w W)
    (fun c pre W => (c = .exit 0 ∧ ∃ pr i, pre = pr ++ [(i, k)] ∧ ∀ y ∈ pr, y.2 ≠ k) ∧ Boxed W (w.heap.size + 1) 3 (lastI pre) ∧ Below w.heap.size w W)
    (OwnFrom.and (ownFrom_pure _ _) (OwnFrom.and (Own.from (boxed_own _ _ (fun _ => Value.int .i64 k)) _) (OwnFrom.and (Own.from (boxed_own _ _ (fun _ => Value.int .i64 (-1))) _) (ownFrom_below (Nat.le_refl _) (by simp; omega)))))
    (fun c => OwnFrom.and (ownFrom_pure _ _) (OwnFrom.and (Own.from (boxed_own _ _ lastI) _) (ownFrom_below (Nat.le_refl _) (by simp; omega))))
    ⟨fun y hy => absurd hy (List.not_mem_nil), bK.alloc _, bA, hB0⟩
    (fun x => { tmps := #[.pointer (some ⟨p, 0, none⟩), .int .i64 k, undef, .pointer (some ⟨w.heap.size, 0, none⟩), .int .i64 0, .pointer (some ⟨w.heap.size + 1, 0, none⟩), .int .i64 (x.1 : Nat), .int .i64 x.2, .pointer (some ⟨p, 0, none⟩), .bool false, undef, .pointer (some ⟨p, 0, none⟩), .func (.func 39) #[.pointer (some ⟨p, 0, none⟩)] #[], .int .i64 (x.1 : Nat), .int .i64 x.2, undef, undef, undef, undef, undef], defers := [] }) ?assign ?body ?done ?stop
  case assign =>
    intro l x W K hK
    gi_wp2
    first | exact hK | simpa using hK
  case body =>
    rintro lb pre x W ⟨hpre, hk, ha, hB⟩ hlt
    have hck := hk.cell
    have hca := ha.cell
    have hfa := ha.frozen
    by_cases e : x.2 = k
    · have e' := hid e
      have e2 : (x.2 == k) = true := by simp [e]
      have hpre2 := hpre
      clear e hpre
      gi_wp2
      have hpr := e'.out
      refine ⟨(KeepsOthers.setCell W _ _).from _, ⟨rfl, pre, x.1, by rw [← e'.out], hpre2⟩, ?_, hB.setCell (p := ⟨w.heap.size + 1, 0, none⟩) (by simp) _⟩
      rw [show lastI (pre ++ [x]) = .int .i64 (x.1 : Nat) by simp [lastI]]
      exact ha.set _
    · have e' : (x.2 == k) = false := by simp [e]
      gi_wp2
      refine ⟨KeepsFrom.refl _ _, rfl, fun y hy => ?_, hk, ha, hB⟩
      rcases List.mem_append.1 hy with h | h
      · exact hpre y h
      · rw [List.mem_singleton.1 h]; exact e
  case done =>
    rintro D ys W hD rfl ⟨hpre, hk, ha, hB⟩ hK
    have hca := ha.cell
    have hfa := ha.frozen
    gi_wp2
    simp only [Exit.noGoto]
    refine ⟨by simp, .inl ⟨_, _, rfl, run_takeDeferred hK, ?_⟩⟩
    refine ⟨.int .i64 (-1), ?_, ?_, hB.trans (belowK_b (w := w) (Nat.le_refl _) _ D _ _ (by simp at hD; omega) hK rfl rfl)⟩
    · simp [results, Try.f42, go_sem]
    · rw [at_all hpre]
  case stop =>
    rintro D c pre W hD ⟨m, hm, hpm⟩ ⟨⟨rfl, pr, i, rfl, hpr⟩, ha, hB⟩ hK
    have hca := ha.cell
    have hfa := ha.frozen
    gi_wp2
    have hat := at_found hm hpm hpr
    simp only [Exit.noGoto]
    refine ⟨by simp, .inl ⟨_, _, rfl, run_takeDeferred hK, ?_⟩⟩
    refine ⟨.int .i64 i, ?_, ?_, hB.trans (belowK_b (w := w) (Nat.le_refl _) _ D _ _ (by simp at hD; omega) hK rfl rfl)⟩
    · rw [← hpm]; simp [results, Try.f42, go_sem, lastI]
    · rw [hat]
end Go.Proofs.Ytmhnfcodppfaiaf.FifoCode
