
/- The document's cells: they are copied ahead of each change. -/
import Derived.Test.YtabcodjalacdjabRow
import Derived.Test.YtabcodjalacdjabIter
import Derived.BigQuiet
namespace Go.Proofs.Ytabcodjalacdjab.RefCells
open Go Go.RowKit Go.Proofs.Ytabcodjalacdjab.Obj Go.Proofs.Ytabcodjalacdjab.Row Go.Proofs.YtabcodjalacdjabW.PrintWords Go.Proofs.YtabcodjalacdjabW.PrintMore
set_option linter.unusedVariables false
set_option maxRecDepth 100000
def zs (L : List Nat) : List Int := L.map (fun n : Nat => (n : Int))
theorem zs_len (L : List Nat) : (zs L).length = L.length := List.length_map ..
theorem zs_set (L : List Nat) (i v : Nat) : zs (L.set i v) = (zs L).set i (v : Int) := List.map_set
theorem zs_get {L : List Nat} {i : Nat} (hi : i < L.length) : (zs L).getD i 0 = ((L.getD i 0 : Nat) : Int) := by
  unfold zs
  rw [List.getD_eq_getElem?_getD, List.getD_eq_getElem?_getD, List.getElem?_map, List.getElem?_eq_getElem hi]; rfl
theorem info48 : (Try.prog.info? 48).map (fun i => (i.zero, i.size, i.bytes)) = some (some (.int .u64 0), 1, 8) := by kernel_rfl
/-- Cells in memory: their row lies at lo, or behind it. -/
structure RC (w : World) (m lo : Nat) (L : List Nat) (N : Nat) : Prop where
  obj : ∃ b cap, Blk w m 50 [.slice (some ⟨b, 0, none⟩) L.length cap, .int .u64 (N : Int)] ∧ w.ownsRow lo 48 1 (.slice (some ⟨b, 0, none⟩) L.length cap) L.length (nums .u64 (zs L))
  low : lo ≤ w.heap.size
section
variable {w w' : World} {m lo : Nat} {L : List Nat} {N : Nat}
theorem RC.lt (h : RC w m lo L N) : m < w.heap.size := by obtain ⟨b, c, h1, _⟩ := h.obj; exact h1.lt
theorem RC.only {S : Nat → Prop} (h : RC w m lo L N) (o : Only S w w') (hm : ¬ S m) (hS : ∀ k, S k → lo ≤ k → ∀ vs, w.heap[k]? ≠ some (.cells vs 48 (0, 0))) : RC w' m lo L N := by
  obtain ⟨b, c, h1, h2⟩ := h.obj
  refine ⟨⟨b, c, h1.only o hm, own_only h2 o (fun k hk hs => ?_)⟩, Nat.le_trans h.low o.size⟩
  obtain ⟨vs, hv⟩ := own_typed h2 k hk
  exact hS k hs (own_block_ge h2 hk).1 vs hv
theorem RC.below (h : RC w m lo L N) (hb : Below w.heap.size w w') : RC w' m lo L N := h.only (Only.none_of_below hb) id (fun _ hk => hk.elim)
theorem RC.drewN (h : RC w m lo L N) (n : Nat) : RC (w.drewN n) m lo L N := ⟨h.obj, h.low⟩
theorem own_cell {b n cap i : Nat} {e : TypeId} {xs : List Int} {k : IntKind} (h : w.ownsRow lo e 1 (.slice (some ⟨b, 0, none⟩) n cap) n (nums k xs)) (hi : i < n) : w.cell? ⟨b, i, none⟩ = some (.int k (xs.getD i 0)) := by
  have h0 := (own_at h (i : Int) (by omega) (by omega)).1
  rw [Int.toNat_natCast] at h0
  rw [h0]
  have hl : xs.length = n := by have := h.1; simp [nums] at this; exact this
  simp [rd, List.getD_eq_getElem?_getD, List.getElem?_eq_getElem (show i < xs.length by omega)]
theorem own_frozen {b n cap i : Nat} {e : TypeId} {xs : List Int} {k : IntKind} (h : w.ownsRow lo e 1 (.slice (some ⟨b, 0, none⟩) n cap) n (nums k xs)) (hi : i < n) : w.frozen? ⟨b, i, none⟩ = false := by
  have h0 := (own_at h (i : Int) (by omega) (by omega)).2
  rw [Int.toNat_natCast] at h0
  exact h0
theorem has_at (h : RC w m lo L N) (i : Nat) (hi : i < L.length) : Calls Try.prog 57 #[.pointer (some ⟨m, 0, none⟩), .int .i64 (i : Int)] w fun e w' => e = .returned (.bool true) ∧ w' = w := by
  obtain ⟨b, cap, hO, hR⟩ := h.obj
  have h0 : w.cell? ⟨m, 0, none⟩ = some (.slice (some ⟨b, 0, none⟩) L.length cap) := hO.cell 0
  have hi' : (i : Int) < (L.length : Int) := by omega
  have hi0 : (0 : Int) ≤ (i : Int) := by omega
  generalize L.length = q at *
  clear h hO hR
  go_enter Try.func57, Try.ntmps57
  go_wp2_with (fail)
  go_ret
  exact ⟨rfl, rfl⟩
theorem peek_at (h : RC w m lo L N) (i : Nat) (hi : i < L.length) : Calls Try.prog 59 #[.pointer (some ⟨m, 0, none⟩), .int .i64 (i : Int)] w fun e w' => e = .returned (.int .u64 ((L.getD i 0 : Nat) : Int)) ∧ w' = w := by
  have hH := has_at h i hi
  obtain ⟨b, cap, hO, hR⟩ := h.obj
  have h0 : w.cell? ⟨m, 0, none⟩ = some (.slice (some ⟨b, 0, none⟩) L.length cap) := hO.cell 0
  have h1 := own_cell hR hi
  rw [zs_get hi] at h1
  have hi' : (i : Int) < (L.length : Int) := by omega
  have hi0 : (0 : Int) ≤ (i : Int) := by omega
  generalize L.getD i 0 = x at *
  generalize L.length = q at *
  clear h hO hR
  go_enter Try.func59, Try.ntmps59
  go_wp2_with (fail)
  refine hH.mono ?_
  rintro e w1 ⟨rfl, rfl⟩
  go_wp2_with (fail)
  go_ret
  exact ⟨rfl, rfl⟩
theorem u64_nat {n : Int} (h0 : 0 ≤ n) (h1 : n < 18446744073709551616) : IntKind.u64.wrap n = n := by
  have e : IntKind.u64.wrap n = n % 18446744073709551616 := by simp [IntKind.wrap, IntKind.bits, IntKind.signed]
  rw [e]; omega
theorem RC.count (h : RC w m lo L N) : RC (w.setCell ⟨m, 1, none⟩ (.int .u64 ((N : Int) + 1))) m lo L (N + 1) := by
  obtain ⟨b, c, h1, h2⟩ := h.obj
  refine ⟨⟨b, c, h1.set 1 (.int .u64 ((N : Int) + 1)), own_only h2 (Only.setCell (S := fun k => k = m) w ⟨m, 1, none⟩ _ rfl) (fun k hk hs => ?_)⟩, by rw [size_set]; exact h.low⟩
  subst hs
  obtain ⟨vs, hv⟩ := own_typed h2 _ hk
  have := h1.symm.trans hv
  simp at this
theorem read_at (h : RC w m lo L N) (i : Nat) (hi : i < L.length) (hN : N < 18446744073709551615) : Calls Try.prog 51 #[.pointer (some ⟨m, 0, none⟩), .int .i64 (i : Int)] w fun e w' => e = .returned (.int .u64 ((L.getD i 0 : Nat) : Int)) ∧ RC w' m lo L (N + 1) ∧ Only (· = m) w w' := by
  have hH := has_at h i hi
  have hP := peek_at h.count i hi
  have hC := hid h.count
  obtain ⟨b, cap, hO, hR⟩ := h.obj
  have h0 : w.cell? ⟨m, 1, none⟩ = some (.int .u64 (N : Int)) := hO.cell 1
  have f0 := hO.frozen 1
  have hq : IntKind.u64.wrap ((N : Int) + 1) = (N : Int) + 1 := by rw [u64_nat (by omega) (by omega)]
  generalize L.getD i 0 = x at *
  clear h hO hR hN hi
  go_enter Try.func51, Try.ntmps51
  go_wp2_with (fail)
  refine hH.mono ?_
  rintro e w1 ⟨rfl, hw⟩
  obtain rfl : w = w1 := hw.symm
  go_wp2_with (fail)
  refine hP.mono ?_
  rintro e w2 ⟨rfl, rfl⟩
  go_wp2_with (fail)
  go_ret
  exact ⟨rfl, hC.out, Only.setCell _ _ _ rfl⟩
set_option maxHeartbeats 1000000 in
theorem set_at (h : RC w m lo L N) (i : Nat) (hi : i < L.length) (hl : L.length ≤ 1000) (x : Nat) : Calls Try.prog 58 #[.pointer (some ⟨m, 0, none⟩), .int .i64 (i : Int), .int .u64 (x : Int)] w fun e w' => e = .returned (.tuple #[]) ∧ RC w' m lo (L.set i x) N ∧ Only (· = m) w w' := by
  obtain ⟨b, cap, hO, hR⟩ := h.obj
  have hml := hO.lt
  have hlow := h.low
  have h0 : w.cell? ⟨m, 0, none⟩ = some (.slice (some ⟨b, 0, none⟩) L.length cap) := hO.cell 0
  have hRd : ReadsInt w .u64 (some ⟨b, 0, none⟩) L.length (zs L) := own_reads' hR
  have hfin := hid (show ∀ w1 g cap', w1.ownsRow w.heap.size 48 1 (.slice (some ⟨g, 0, none⟩) L.length cap') L.length (nums .u64 (zs L)) → Below w.heap.size w w1 →
      w1.cell? ⟨g, i, none⟩ = some (.int .u64 ((zs L).getD i 0)) ∧ w1.frozen? ⟨g, i, none⟩ = false ∧ (w1.setCell ⟨g, i, none⟩ (.int .u64 (x : Int))).cell? ⟨m, 0, none⟩ = some (.slice (some ⟨b, 0, none⟩) L.length cap) ∧ (w1.setCell ⟨g, i, none⟩ (.int .u64 (x : Int))).frozen? ⟨m, 0, none⟩ = false ∧
      RC ((w1.setCell ⟨g, i, none⟩ (.int .u64 (x : Int))).setCell ⟨m, 0, none⟩ (.slice (some ⟨g, 0, none⟩) L.length cap')) m lo (L.set i x) N ∧ Only (· = m) w ((w1.setCell ⟨g, i, none⟩ (.int .u64 (x : Int))).setCell ⟨m, 0, none⟩ (.slice (some ⟨g, 0, none⟩) L.length cap')) from fun w1 g cap' ho hb => by
    have hgm : m ≠ g := by have := (own_block_ge ho (k := g) rfl).1; omega
    have hB := (hO.same (hb.block _ hml)).set_other ⟨g, i, none⟩ (.int .u64 (x : Int)) hgm
    have hs := (own_store ho (i : Int) (x : Int)).1
    rw [Int.toNat_natCast, ← zs_set] at hs
    have hll : (L.set i x).length = L.length := List.length_set
    refine ⟨own_cell ho hi, own_frozen ho hi, hB.cell 0, hB.frozen 0, ⟨⟨g, cap', ?_, ?_⟩, ?_⟩, ?_⟩
    · rw [hll]; exact hB.set 0 _
    · rw [hll]
      exact own_weaken (own_setCell hs (by simp [Value.ownBlock]; exact hgm) _) hlow
    · rw [size_set, size_set]; exact Nat.le_trans hlow hb.size
    · have hgs := (own_block_ge ho (k := g) rfl).1
      exact (((Only.none_of_below hb).mono (T := fun k => k = m) (fun _ _ hk => hk.elim)).trans' (Only.setCell (S := fun k => k = g) _ ⟨g, i, none⟩ _ rfl) (fun k hk hh => by subst hh; omega)).trans (Only.setCell _ ⟨m, 0, none⟩ _ rfl))
  have hlen := zs_len L
  have hi' : (i : Int) < (L.length : Int) := by omega
  have hi0 : (0 : Int) ≤ (i : Int) := by omega
  clear h hO hR
  go_enter Try.func58, Try.ntmps58
  go_wp2_with (first | ((with_reducible refine gate_builtin (b := .append) (xs := #[.const (Value.slice none 0 0), .tmp 10]) rfl ?_); at_builtin; go_loud (refine print_append_row (w0 := w) w.heap.size rfl (.const (Value.slice none 0 0)) (.tmp 10) 47 48 .u64 8 rfl Try.underlying47 info48 (by decide) (.slice none 0 0) [] (zs L) (some ⟨b, 0, none⟩) L.length cap rfl rfl (own_nil _ _ _ _) hRd (Below.refl _ _) (Nat.le_refl _) (by simp; omega) ?_); intro v1 w1 ho hb hgr hat; simp only [List.nil_append, hlen] at ho; obtain ⟨A1, c1, rfl⟩ := own_form ho; have hg : ∃ g, A1 = some ⟨g, 0, none⟩ := (by rcases own_cases ho with ⟨_, e, _⟩ | ⟨g, e, _⟩; (exact absurd e (by omega)); exact ⟨g, e⟩); obtain ⟨g, rfl⟩ := hg; obtain ⟨k1, k2, k3, k4, k5, k6⟩ := hfin.out _ _ _ ho hb))
  go_end0
  exact ⟨rfl, k5, k6⟩
theorem add_at (h : RC w m lo L N) (i : Nat) (hi : i < L.length) (hl : L.length ≤ 1000) (hN : N < 18446744073709551615) (hx : L.getD i 0 < 18446744073709551615) : Calls Try.prog 50 #[.pointer (some ⟨m, 0, none⟩), .int .i64 (i : Int), .int .u64 1] w fun e w' => e = .returned (.int .u64 ((L.getD i 0 : Nat) : Int)) ∧ RC w' m lo (L.set i (L.getD i 0 + 1)) (N + 1) ∧ Only (· = m) w w' := by
  have hH := has_at h i hi
  have hS := set_at h.count i hi hl (L.getD i 0 + 1)
  rw [show ((L.getD i 0 + 1 : Nat) : Int) = ((L.getD i 0 : Nat) : Int) + 1 by omega] at hS
  obtain ⟨b, cap, hO, hR⟩ := h.obj
  obtain ⟨b', cap', hO', hR'⟩ := h.count.obj
  have h0 : w.cell? ⟨m, 1, none⟩ = some (.int .u64 (N : Int)) := hO.cell 1
  have f0 := hO.frozen 1
  have h1 : (w.setCell ⟨m, 1, none⟩ (.int .u64 ((N : Int) + 1))).cell? ⟨m, 0, none⟩ = some (.slice (some ⟨b', 0, none⟩) L.length cap') := hO'.cell 0
  have h2 := own_cell hR' hi
  rw [zs_get hi] at h2
  have hq : IntKind.u64.wrap ((N : Int) + 1) = (N : Int) + 1 := by rw [u64_nat (by omega) (by omega)]
  have hq2 : IntKind.u64.wrap (((L.getD i 0 : Nat) : Int) + 1) = ((L.getD i 0 : Nat) : Int) + 1 := by rw [u64_nat (by omega) (by omega)]
  have hi' : (i : Int) < (L.length : Int) := by omega
  have hi0 : (0 : Int) ≤ (i : Int) := by omega
  have oc := hid (Only.setCell (S := fun k => k = m) w ⟨m, 1, none⟩ (.int .u64 ((N : Int) + 1)) rfl)
  clear h hO hR hN hi hO' hR' hx hl
  obtain ⟨L', hL'⟩ : ∃ L', L' = L.set i (L.getD i 0 + 1) := ⟨_, rfl⟩
  rw [← hL'] at hS ⊢
  clear hL'
  generalize L.getD i 0 = x at *
  generalize L.length = q at *
  go_enter Try.func50, Try.ntmps50
  go_wp2_with (fail)
  refine hH.mono ?_
  rintro e w1 ⟨rfl, hw⟩
  obtain rfl : w = w1 := hw.symm
  go_wp2_with (fail)
  refine hS.mono ?_
  rintro e w2 ⟨rfl, k1, k2⟩
  go_wp2_with (fail)
  go_ret
  exact ⟨rfl, k1, oc.out.trans k2⟩
end
end Go.Proofs.Ytabcodjalacdjab.RefCells
