
/- cell: shared numbers, and how many accesses there were. -/
import Derived.Test.YtabcodjalacdjabRow
import Derived.Test.YtabcodjalacdjabProg
import Derived.WalkKit
import Derived.KernelRfl
import Derived.Deep.QuietTactic
import Derived.Lib.Hide
import Derived.StillTailTactics
import Derived.Laws.ResultCell
import Derived.Deep.RegionHeld3
import Derived.BigQuiet
namespace Go.Proofs.Ytabcodjalacdjab.CellCode
open Go Go.RowKit Go.Proofs.Ytabcodjalacdjab.Obj Go.Proofs.Ytabcodjalacdjab.Row Go.Proofs.YtabcodjalacdjabW.PrintWords Go.Proofs.YtabcodjalacdjabW.PrintMore
set_option linter.unusedVariables false
set_option maxRecDepth 100000
def u64s (l : List Nat) : List Value := l.map (fun n : Nat => Value.int .u64 (n : Int))
theorem u64_nat {n : Int} (h0 : 0 ≤ n) (h1 : n < 18446744073709551616) : IntKind.u64.wrap n = n := by
  have e : IntKind.u64.wrap n = n % 18446744073709551616 := by simp [IntKind.wrap, IntKind.bits, IntKind.signed]
  rw [e]; omega
/-- Cells in memory. -/
structure CAt (w : World) (c lb : Nat) (L : List Nat) (N : Nat) : Prop where
  obj : Blk w c 86 [.slice (some ⟨lb, 0, none⟩) L.length L.length, .int .u64 (N : Int)]
  row : Blk w lb 48 (u64s L)
section
variable {w w' : World} {c lb : Nat} {L : List Nat} {N : Nat}
theorem CAt.same (h : CAt w c lb L N) (e1 : w'.heap[c]? = w.heap[c]?) (e2 : w'.heap[lb]? = w.heap[lb]?) : CAt w' c lb L N := ⟨h.obj.same e1, h.row.same e2⟩
theorem CAt.only {S : Nat → Prop} (h : CAt w c lb L N) (o : Only S w w') (h1 : ¬ S c) (h2 : ¬ S lb) : CAt w' c lb L N := ⟨h.obj.only o h1, h.row.only o h2⟩
theorem CAt.below (h : CAt w c lb L N) (hb : Below w.heap.size w w') : CAt w' c lb L N := h.same (hb.block _ h.obj.lt) (hb.block _ h.row.lt)
theorem blk_ne {p q : Nat} {t u : TypeId} {vs us : List Value} (h : Blk w p t vs) (k : Blk w q u us) (hne : t ≠ u) : p ≠ q := by
  rintro rfl
  have := h.symm.trans k
  simp at this
  exact hne this.2
theorem CAt.ne (h : CAt w c lb L N) : c ≠ lb := blk_ne h.obj h.row (by decide)
theorem row_get {i : Nat} (h : Blk w lb 48 (u64s L)) (hi : i < L.length) : w.cell? ⟨lb, i, none⟩ = some (.int .u64 (L[i] : Int)) := by
  rw [h.cell i, u64s, List.getElem?_map, List.getElem?_eq_getElem hi]; rfl
theorem has_at (h : CAt w c lb L N) (i : Nat) (hi : i < L.length) : Calls Try.prog 60 #[.pointer (some ⟨c, 0, none⟩), .int .i64 (i : Int)] w fun e w' => e = .returned (.bool true) ∧ w' = w := by
  have h0 : w.cell? ⟨c, 0, none⟩ = some (.slice (some ⟨lb, 0, none⟩) L.length L.length) := h.obj.cell 0
  have hi' : (i : Int) < (L.length : Int) := by omega
  have hi0 : (0 : Int) ≤ (i : Int) := by omega
  generalize L.length = m at *
  clear h
  go_enter Try.func60, Try.ntmps60
  go_wp2_with (fail)
  go_ret
  exact ⟨rfl, rfl⟩
theorem add1_at {w : World} (lb i by_ was x : Nat) (y : Value) (hx : w.cell? ⟨lb, i, none⟩ = some (.int .u64 (x : Int))) (hb : w.cell? ⟨by_, 0, none⟩ = some (.int .u64 1)) (hy : w.cell? ⟨was, 0, none⟩ = some y)
    (hf1 : w.frozen? ⟨lb, i, none⟩ = false) (hf2 : w.frozen? ⟨was, 0, none⟩ = false) (hne : was ≠ lb) (hne2 : was ≠ by_) (hlt : x < 18446744073709551615) :
    Calls Try.prog 55 #[.pointer (some ⟨lb, i, none⟩), .pointer (some ⟨by_, 0, none⟩), .pointer (some ⟨was, 0, none⟩)] w fun e w' => e = .returned (.tuple #[]) ∧ ∃ n, w' = ((w.setCell ⟨was, 0, none⟩ (.int .u64 (x : Int))).setCell ⟨lb, i, none⟩ (.int .u64 ((x : Int) + 1))).drewN n := by
  have hq : IntKind.u64.wrap ((x : Int) + 1) = (x : Int) + 1 := by rw [u64_nat (by omega) (by omega)]
  have hx2 : (w.setCell ⟨was, 0, none⟩ (.int .u64 (x : Int))).cell? ⟨lb, i, none⟩ = some (.int .u64 (x : Int)) := by rw [← hx]; exact cell_same (Below.heap_setCell _ _ _ _ (Ne.symm hne))
  have hb2 : (w.setCell ⟨was, 0, none⟩ (.int .u64 (x : Int))).cell? ⟨by_, 0, none⟩ = some (.int .u64 1) := by rw [← hb]; exact cell_same (Below.heap_setCell _ _ _ _ (Ne.symm hne2))
  clear hlt
  go_enter Try.func55, Try.ntmps55
  go_wp2_with (fail)
  go_region_with (fail)
  all_goals go_wp2_with (fail)
  all_goals go_end0
  all_goals exact ⟨rfl, 1, rfl⟩
theorem read1_at {w : World} (lb i is x : Nat) (y : Value) (hx : w.cell? ⟨lb, i, none⟩ = some (.int .u64 (x : Int))) (hy : w.cell? ⟨is, 0, none⟩ = some y) (hf2 : w.frozen? ⟨is, 0, none⟩ = false) :
    Calls Try.prog 56 #[.pointer (some ⟨lb, i, none⟩), .pointer (some ⟨is, 0, none⟩)] w fun e w' => e = .returned (.tuple #[]) ∧ w' = w.setCell ⟨is, 0, none⟩ (.int .u64 (x : Int)) := by
  go_enter Try.func56, Try.ntmps56
  go_wp2_with (fail)
  go_end0
  exact ⟨rfl, rfl⟩
/-- Behind the count. -/
theorem CAt.count (h : CAt w c lb L N) : CAt (w.setCell ⟨c, 1, none⟩ (.int .u64 ((N : Int) + 1))) c lb L (N + 1) := by
  have := h.obj.set 1 (.int .u64 ((N : Int) + 1))
  exact ⟨this, h.row.set_other _ _ (Ne.symm h.ne)⟩
theorem access2_at (h : CAt w c lb L N) (i : Nat) (hi : i < L.length) (hN : N < 18446744073709551615) (p q : Value) (Q : World → Prop)
    (hdo : Calls Try.prog 55 #[.pointer (some ⟨lb, i, none⟩), p, q] (w.setCell ⟨c, 1, none⟩ (.int .u64 ((N : Int) + 1))) fun e w' => e = .returned (.tuple #[]) ∧ Q w') :
    Calls Try.prog 54 #[.pointer (some ⟨c, 0, none⟩), .int .i64 (i : Int), .func (.func 55) #[] #[p, q]] w fun e w' => e = .returned (.tuple #[]) ∧ Q w' := by
  have hH := has_at h i hi
  have h1 : w.cell? ⟨c, 1, none⟩ = some (.int .u64 (N : Int)) := h.obj.cell 1
  have hf := h.obj.frozen 1
  have h0 : (w.setCell ⟨c, 1, none⟩ (.int .u64 ((N : Int) + 1))).cell? ⟨c, 0, none⟩ = some (.slice (some ⟨lb, 0, none⟩) L.length L.length) := h.count.obj.cell 0
  have hi' : (i : Int) < (L.length : Int) := by omega
  have hi0 : (0 : Int) ≤ (i : Int) := by omega
  have hq : IntKind.u64.wrap ((N : Int) + 1) = (N : Int) + 1 := by rw [u64_nat (by omega) (by omega)]
  generalize L.length = m at *
  clear h hN hi
  go_enter Try.func54, Try.ntmps54
  go_wp2_with (fail)
  refine hH.mono ?_
  rintro e w1 ⟨rfl, rfl⟩
  go_wp2_with (fail)
  refine hdo.mono ?_
  rintro e w2 ⟨rfl, hQ⟩
  go_wp2_with (fail)
  go_end0
  exact ⟨rfl, hQ⟩
theorem access1_at (h : CAt w c lb L N) (i : Nat) (hi : i < L.length) (hN : N < 18446744073709551615) (p : Value) (Q : World → Prop)
    (hdo : Calls Try.prog 56 #[.pointer (some ⟨lb, i, none⟩), p] (w.setCell ⟨c, 1, none⟩ (.int .u64 ((N : Int) + 1))) fun e w' => e = .returned (.tuple #[]) ∧ Q w') :
    Calls Try.prog 54 #[.pointer (some ⟨c, 0, none⟩), .int .i64 (i : Int), .func (.func 56) #[] #[p]] w fun e w' => e = .returned (.tuple #[]) ∧ Q w' := by
  have hH := has_at h i hi
  have h1 : w.cell? ⟨c, 1, none⟩ = some (.int .u64 (N : Int)) := h.obj.cell 1
  have hf := h.obj.frozen 1
  have h0 : (w.setCell ⟨c, 1, none⟩ (.int .u64 ((N : Int) + 1))).cell? ⟨c, 0, none⟩ = some (.slice (some ⟨lb, 0, none⟩) L.length L.length) := h.count.obj.cell 0
  have hi' : (i : Int) < (L.length : Int) := by omega
  have hi0 : (0 : Int) ≤ (i : Int) := by omega
  have hq : IntKind.u64.wrap ((N : Int) + 1) = (N : Int) + 1 := by rw [u64_nat (by omega) (by omega)]
  generalize L.length = m at *
  clear h hN hi
  go_enter Try.func54, Try.ntmps54
  go_wp2_with (fail)
  refine hH.mono ?_
  rintro e w1 ⟨rfl, rfl⟩
  go_wp2_with (fail)
  refine hdo.mono ?_
  rintro e w2 ⟨rfl, hQ⟩
  go_wp2_with (fail)
  go_end0
  exact ⟨rfl, hQ⟩
theorem CAt.alloc (h : CAt w c lb L N) (o : Obj) : CAt (w.alloc o) c lb L N := ⟨h.obj.alloc o, h.row.alloc o⟩
abbrev addL (L : List Nat) (i : Nat) : List Nat := L.set i (L.getD i 0 + 1)
theorem add_step {W : World} {b x i n : Nat} {y : Value} (h : CAt W c lb L N) (B : Blk W b 48 [y]) (h1 : b ≠ c) (h2 : b ≠ lb) (hi : i < L.length) (hx : L[i] = x) :
    CAt ((((W.setCell ⟨c, 1, none⟩ (.int .u64 ((N : Int) + 1))).setCell ⟨b, 0, none⟩ (.int .u64 (x : Int))).setCell ⟨lb, i, none⟩ (.int .u64 ((x : Int) + 1))).drewN n) c lb (addL L i) (N + 1) ∧
    Only (fun k => k = c ∨ k = lb ∨ k = b) W ((((W.setCell ⟨c, 1, none⟩ (.int .u64 ((N : Int) + 1))).setCell ⟨b, 0, none⟩ (.int .u64 (x : Int))).setCell ⟨lb, i, none⟩ (.int .u64 ((x : Int) + 1))).drewN n) ∧
    Blk ((((W.setCell ⟨c, 1, none⟩ (.int .u64 ((N : Int) + 1))).setCell ⟨b, 0, none⟩ (.int .u64 (x : Int))).setCell ⟨lb, i, none⟩ (.int .u64 ((x : Int) + 1))).drewN n) b 48 [.int .u64 (x : Int)] := by
  have h3 := h.count
  have B3 := B.set_other ⟨c, 1, none⟩ (.int .u64 ((N : Int) + 1)) h1
  have o4 := h3.obj.set_other ⟨b, 0, none⟩ (.int .u64 (x : Int)) (Ne.symm h1)
  have r4 := h3.row.set_other ⟨b, 0, none⟩ (.int .u64 (x : Int)) (Ne.symm h2)
  have o5 := o4.set_other ⟨lb, i, none⟩ (.int .u64 ((x : Int) + 1)) h.ne
  have r5 := r4.set i (.int .u64 ((x : Int) + 1))
  have e1 : (addL L i).length = L.length := List.length_set
  have e2 : u64s (addL L i) = (u64s L).set i (.int .u64 ((x : Int) + 1)) := by
    unfold u64s addL
    rw [List.map_set, List.getD_eq_getElem?_getD, List.getElem?_eq_getElem hi, hx]
    rfl
  refine ⟨⟨?_, ?_⟩, ?_, ?_⟩
  · rw [e1]; exact o5
  · rw [e2]; exact r5
  · exact ((Only.setCell W ⟨c, 1, none⟩ _ (.inl rfl)).trans (Only.setCell _ ⟨b, 0, none⟩ _ (.inr (.inr rfl)))).trans ((Only.setCell _ ⟨lb, i, none⟩ _ (.inr (.inl rfl))).trans (Only.drewN _ _ _))
  · have b4 := B3.set 0 (.int .u64 (x : Int))
    exact b4.set_other ⟨lb, i, none⟩ (.int .u64 ((x : Int) + 1)) h2
set_option maxHeartbeats 1000000 in
theorem add_at (h : CAt w c lb L N) (i : Nat) (hi : i < L.length) (hN : N < 18446744073709551615) (hL : L[i] < 18446744073709551615) :
    Calls Try.prog 46 #[.pointer (some ⟨c, 0, none⟩), .int .i64 (i : Int), .int .u64 1] w fun e w' => e = .returned (.int .u64 (L[i] : Int)) ∧ CAt w' c lb (addL L i) (N + 1) ∧ Only (fun k => k = c ∨ k = lb) w w' := by
  have hlc := h.obj.lt
  have hll := h.row.lt
  obtain ⟨W2, hW2⟩ : ∃ W2, W2 = (w.alloc (.cells #[.int .u64 1] 48)).alloc (.cells #[.int .u64 0] 48) := ⟨_, rfl⟩
  have h2 : CAt W2 c lb L N := by rw [hW2]; exact (h.alloc _).alloc _
  have B1 : Blk W2 w.heap.size 48 [.int .u64 1] := by rw [hW2]; exact (Blk.new w _ _).alloc _
  have B2 : Blk W2 (w.heap.size + 1) 48 [.int .u64 0] := by
    have := Blk.new (w.alloc (.cells #[.int .u64 1] 48)) 48 [.int .u64 0]
    rw [World.size_alloc] at this
    rw [hW2]; exact this
  have o2 : Only (fun k => k = c ∨ k = lb) w W2 := by rw [hW2]; exact (Only.alloc _ _ _).trans (Only.alloc _ _ _)
  obtain ⟨b1, hb1⟩ : ∃ b1, b1 = w.heap.size := ⟨_, rfl⟩
  have n1 : b1 ≠ c := by omega
  have n2 : b1 ≠ lb := by omega
  have n3 : b1 + 1 ≠ c := by omega
  have n4 : b1 + 1 ≠ lb := by omega
  rw [← hb1] at B1 B2
  obtain ⟨x, hx⟩ : ∃ x, L[i] = x := ⟨_, rfl⟩
  have hxl : x < 18446744073709551615 := by rw [← hx]; exact hL
  rw [hx]
  have hfin := fun n => add_step (n := n) h2 B2 n3 n4 hi hx
  have h3 := h2.count
  have B1' := B1.set_other ⟨c, 1, none⟩ (.int .u64 ((N : Int) + 1)) n1
  have B2' := B2.set_other ⟨c, 1, none⟩ (.int .u64 ((N : Int) + 1)) n3
  have hA := access2_at h2 i hi hN (.pointer (some ⟨b1, 0, none⟩)) (.pointer (some ⟨b1 + 1, 0, none⟩)) _
    (add1_at lb i b1 (b1 + 1) x (.int .u64 0) (by rw [← hx]; exact row_get h3.row hi) (B1'.cell 0) (B2'.cell 0) (h3.row.frozen i) (B2'.frozen 0) n4 (by omega) hxl)
  have hfinH := hid hfin
  have hup := hid (show ∀ W, Only (fun k => k = c ∨ k = lb ∨ k = b1 + 1) W2 W → Only (fun k => k = c ∨ k = lb) w W from fun W o => o2.trans' o (fun k hk hh => by rcases hh with hh | hh | hh; exact .inl hh; exact .inr hh; omega))
  have hne : Hid (c ≠ w.heap.size + 1 ∧ lb ≠ w.heap.size + 1) := hid (by omega)
  clear hfin B1 B2 B1' B2' h2 h3 h hlc hll hN hL o2 n1 n2 n3 n4 hx hxl
  go_enter Try.func46, Try.ntmps46
  rw [hb1] at hA hfinH hup
  go_wp2_with (fail)
  rw [← hW2]
  refine hA.mono ?_
  rintro e w3 ⟨rfl, n, rfl⟩
  obtain ⟨h1, h2, h3⟩ := hfinH.out n
  have h4 := hup.out _ h2
  generalize (((W2.setCell ⟨c, 1, none⟩ (.int .u64 ((N : Int) + 1))).setCell ⟨w.heap.size + 1, 0, none⟩ (.int .u64 (x : Int))).setCell ⟨lb, i, none⟩ (.int .u64 ((x : Int) + 1))).drewN n = W at *
  clear hA h2 hfinH hup
  have c0 : W.cell? ⟨w.heap.size + 1, 0, none⟩ = some (.int .u64 (x : Int)) := h3.cell 0
  have f0 := h3.frozen 0
  go_wp2_with (fail)
  have h5 := h3.set 0 (.int .u64 (x : Int))
  have c5 : (W.setCell ⟨w.heap.size + 1, 0, none⟩ (.int .u64 (x : Int))).cell? ⟨w.heap.size + 1, 0, none⟩ = some (.int .u64 (x : Int)) := h5.cell 0
  have hlc := hne.out.1
  have hll := hne.out.2
  refine bodyPost_ret (v := .int .u64 (x : Int)) (by simp [results, Try.f46, go_sem, c5]) rfl ?_
  refine ⟨rfl, ⟨h1.obj.set_other _ _ hlc, h1.row.set_other _ _ hll⟩, ?_⟩
  exact h4.trans' (Only.setCell (S := fun k => k = w.heap.size + 1) W ⟨w.heap.size + 1, 0, none⟩ _ rfl) (fun k hk hh => by omega)
theorem read_step {W : World} {b x i n : Nat} {y : Value} (h : CAt W c lb L N) (B : Blk W b 48 [y]) (h1 : b ≠ c) (h2 : b ≠ lb) :
    CAt ((W.setCell ⟨c, 1, none⟩ (.int .u64 ((N : Int) + 1))).setCell ⟨b, 0, none⟩ (.int .u64 (x : Int))) c lb L (N + 1) ∧
    Only (fun k => k = c ∨ k = lb ∨ k = b) W ((W.setCell ⟨c, 1, none⟩ (.int .u64 ((N : Int) + 1))).setCell ⟨b, 0, none⟩ (.int .u64 (x : Int))) ∧
    Blk ((W.setCell ⟨c, 1, none⟩ (.int .u64 ((N : Int) + 1))).setCell ⟨b, 0, none⟩ (.int .u64 (x : Int))) b 48 [.int .u64 (x : Int)] := by
  have h3 := h.count
  have B3 := B.set_other ⟨c, 1, none⟩ (.int .u64 ((N : Int) + 1)) h1
  refine ⟨⟨h3.obj.set_other ⟨b, 0, none⟩ _ (Ne.symm h1), h3.row.set_other ⟨b, 0, none⟩ _ (Ne.symm h2)⟩, ?_, B3.set 0 _⟩
  exact (Only.setCell W ⟨c, 1, none⟩ _ (.inl rfl)).trans (Only.setCell _ ⟨b, 0, none⟩ _ (.inr (.inr rfl)))
set_option maxHeartbeats 1000000 in
theorem read_at (h : CAt w c lb L N) (i : Nat) (hi : i < L.length) (hN : N < 18446744073709551615) :
    Calls Try.prog 49 #[.pointer (some ⟨c, 0, none⟩), .int .i64 (i : Int)] w fun e w' => e = .returned (.int .u64 (L[i] : Int)) ∧ CAt w' c lb L (N + 1) ∧ Only (fun k => k = c ∨ k = lb) w w' := by
  have hlc := h.obj.lt
  have hll := h.row.lt
  obtain ⟨W2, hW2⟩ : ∃ W2, W2 = w.alloc (.cells #[.int .u64 0] 48) := ⟨_, rfl⟩
  have h2 : CAt W2 c lb L N := by rw [hW2]; exact h.alloc _
  have B2 : Blk W2 w.heap.size 48 [.int .u64 0] := by rw [hW2]; exact Blk.new w _ _
  have o2 : Only (fun k => k = c ∨ k = lb) w W2 := by rw [hW2]; exact Only.alloc _ _ _
  have n3 : w.heap.size ≠ c := by omega
  have n4 : w.heap.size ≠ lb := by omega
  obtain ⟨x, hx⟩ : ∃ x, L[i] = x := ⟨_, rfl⟩
  rw [hx]
  have hfin := read_step (x := x) (i := i) (n := 0) h2 B2 n3 n4
  have h3 := h2.count
  have B2' := B2.set_other ⟨c, 1, none⟩ (.int .u64 ((N : Int) + 1)) n3
  have hA := access1_at h2 i hi hN (.pointer (some ⟨w.heap.size, 0, none⟩)) _
    (read1_at lb i w.heap.size x (.int .u64 0) (by rw [← hx]; exact row_get h3.row hi) (B2'.cell 0) (B2'.frozen 0))
  have hfinH := hid hfin
  have hne := hid (And.intro (Ne.symm n3) (Ne.symm n4))
  have hup := hid (show ∀ W, Only (fun k => k = c ∨ k = lb ∨ k = w.heap.size) W2 W → Only (fun k => k = c ∨ k = lb) w W from fun W o => o2.trans' o (fun k hk hh => by rcases hh with hh | hh | hh; exact .inl hh; exact .inr hh; omega))
  clear hfin B2 B2' h2 h3 h hlc hll hN o2 n3 n4 hx
  go_enter Try.func49, Try.ntmps49
  go_wp2_with (fail)
  rw [← hW2]
  refine hA.mono ?_
  rintro e w3 ⟨rfl, rfl⟩
  obtain ⟨h1, h2, h3⟩ := hfinH.out
  have h4 := hup.out _ h2
  generalize (W2.setCell ⟨c, 1, none⟩ (.int .u64 ((N : Int) + 1))).setCell ⟨w.heap.size, 0, none⟩ (.int .u64 (x : Int)) = W at *
  clear hA h2 hfinH hup
  have c0 : W.cell? ⟨w.heap.size, 0, none⟩ = some (.int .u64 (x : Int)) := h3.cell 0
  have f0 := h3.frozen 0
  go_wp2_with (fail)
  have h5 := h3.set 0 (.int .u64 (x : Int))
  have c5 : (W.setCell ⟨w.heap.size, 0, none⟩ (.int .u64 (x : Int))).cell? ⟨w.heap.size, 0, none⟩ = some (.int .u64 (x : Int)) := h5.cell 0
  have hlc := hne.out.1
  have hll := hne.out.2
  refine bodyPost_ret (v := .int .u64 (x : Int)) (by simp [results, Try.f49, go_sem, c5]) rfl ?_
  refine ⟨rfl, ⟨h1.obj.set_other _ _ hlc, h1.row.set_other _ _ hll⟩, ?_⟩
  exact h4.trans' (Only.setCell (S := fun k => k = w.heap.size) W ⟨w.heap.size, 0, none⟩ _ rfl) (fun k hk hh => by omega)
theorem peek_at (h : CAt w c lb L N) (i : Nat) (hi : i < L.length) :
    Calls Try.prog 53 #[.pointer (some ⟨c, 0, none⟩), .int .i64 (i : Int)] w fun e w' => e = .returned (.int .u64 (L[i] : Int)) ∧ w' = w := by
  have hH := has_at h i hi
  have h0 : w.cell? ⟨c, 0, none⟩ = some (.slice (some ⟨lb, 0, none⟩) L.length L.length) := h.obj.cell 0
  have hx := row_get h.row hi
  have hi' : (i : Int) < (L.length : Int) := by omega
  have hi0 : (0 : Int) ≤ (i : Int) := by omega
  generalize L[i] = x at *
  generalize L.length = m at *
  clear h hi
  go_enter Try.func53, Try.ntmps53
  go_wp2_with (fail)
  refine hH.mono ?_
  rintro e w1 ⟨rfl, rfl⟩
  go_wp2_with (fail)
  go_ret
  exact ⟨rfl, rfl⟩
theorem len_at (h : CAt w c lb L N) : Calls Try.prog 44 #[.pointer (some ⟨c, 0, none⟩)] w fun e w' => e = .returned (.int .i64 (L.length : Int)) ∧ w' = w := by
  have h0 : w.cell? ⟨c, 0, none⟩ = some (.slice (some ⟨lb, 0, none⟩) L.length L.length) := h.obj.cell 0
  generalize L.length = m at *
  clear h
  go_enter Try.func44, Try.ntmps44
  go_wp2_with (fail)
  go_ret
  exact ⟨rfl, rfl⟩
theorem count_at (h : CAt w c lb L N) : Calls Try.prog 20 #[.pointer (some ⟨c, 0, none⟩)] w fun e w' => e = .returned (.int .u64 (N : Int)) ∧ w' = w := by
  have h0 : w.cell? ⟨c, 1, none⟩ = some (.int .u64 (N : Int)) := h.obj.cell 1
  clear h
  go_enter Try.func20, Try.ntmps20
  go_wp2_with (fail)
  go_ret
  exact ⟨rfl, rfl⟩
theorem u64_info : (Try.prog.info? 48).map (fun i => (i.zero, i.size, i.bytes)) = some (some (.int .u64 0), 1, 8) := by kernel_rfl
theorem made_u64 (m : Nat) (hm : m ≤ 10000) (W : World) : (Instr.makeSlice 47 (.int .i64 (m : Int)) (.int .i64 (m : Int))).run Try.prog W = .ok (.slice (some ⟨W.heap.size, 0, none⟩) m m) (W.alloc (.cells (u64s (List.replicate m 0)).toArray 48)) := by
  obtain ⟨i0, hi, hz⟩ := Option.map_eq_some_iff.1 u64_info
  simp only [Prod.mk.injEq] at hz
  obtain ⟨h1, h2, h3⟩ := hz
  have := run_make (P := Try.prog) W 47 48 i0 (.int .u64 0) Try.underlying47 hi h1 .i64 .i64 m m (by omega) (by omega) (by rw [h3]; omega) (by omega)
  have e : madeCells #[Value.int .u64 0] m = (u64s (List.replicate m 0)).toArray := by
    apply Array.ext'
    apply List.ext_getElem?
    intro i
    unfold madeCells
    by_cases h : i < m
    · simp [h, u64s, Nat.mod_one]
    · simp [h, u64s]
  rw [← e]
  simpa [h2, Value.cells] using this
theorem new_at (w : World) : Calls Try.prog 25 #[.int .i64 20] w fun e w' => e = .returned (.tuple #[.pointer (some ⟨w.heap.size + 1, 0, none⟩), .int .i64 0]) ∧ CAt w' (w.heap.size + 1) w.heap.size (List.replicate 20 0) 0 ∧ Below w.heap.size w w' ∧ w'.heap.size = w.heap.size + 2 := by
  have hmk : ∀ W : World, (Instr.makeSlice 47 (.int .i64 20) (.int .i64 20)).run Try.prog W = .ok (.slice (some ⟨W.heap.size, 0, none⟩) 20 20) (W.alloc (.cells (u64s (List.replicate 20 0)).toArray 48)) := made_u64 20 (by decide)
  have hC : CAt ((w.alloc (.cells (u64s (List.replicate 20 0)).toArray 48)).alloc (.cells #[.slice (some ⟨w.heap.size, 0, none⟩) 20 20, .int .u64 0] 86)) (w.heap.size + 1) w.heap.size (List.replicate 20 0) 0 := by
    refine ⟨?_, (Blk.new w _ _).alloc _⟩
    have := Blk.new (w.alloc (.cells (u64s (List.replicate 20 0)).toArray 48)) 86 [.slice (some ⟨w.heap.size, 0, none⟩) 20 20, .int .u64 0]
    rw [World.size_alloc] at this
    exact this
  have hb : Below w.heap.size w ((w.alloc (.cells (u64s (List.replicate 20 0)).toArray 48)).alloc (.cells #[.slice (some ⟨w.heap.size, 0, none⟩) 20 20, .int .u64 0] 86)) := ((Below.refl _ _).alloc (Nat.le_refl _) _).alloc (by simp) _
  have hsz : ((w.alloc (.cells (u64s (List.replicate 20 0)).toArray 48)).alloc (.cells #[.slice (some ⟨w.heap.size, 0, none⟩) 20 20, .int .u64 0] 86)).heap.size = w.heap.size + 2 := by simp
  go_enter Try.func25, Try.ntmps25
  go_wp2_with (fail)
  go_ret2
  exact ⟨rfl, hC, hb, hsz⟩
end
end Go.Proofs.Ytabcodjalacdjab.CellCode
