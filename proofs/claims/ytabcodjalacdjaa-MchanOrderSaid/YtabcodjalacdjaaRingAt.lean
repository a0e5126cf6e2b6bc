
/- A ring in memory is the list of what it has: the contracts of package ring. -/
import Derived.Test.YtabcodjalacdjaaRing
namespace Go.Proofs.Ytabcodjalacdjaa.RingCode
open Go Go.RowKit Go.Proofs.Ytabcodjalacdjaa.Obj
set_option maxRecDepth 100000
set_option linter.unusedVariables false
section
variable {w w' : World} {p most : Nat} {L : List Int}
theorem RingAt.lt (h : RingAt w p most L) : p < w.heap.size := by obtain ⟨A, fr, h1, _⟩ := h; exact h1.lt
theorem RingAt.most8 (h : RingAt w p most L) : most ≤ 8 := by obtain ⟨A, fr, _, h2⟩ := h; exact h2.most8
theorem RingAt.fit (h : RingAt w p most L) : L.length ≤ most := by obtain ⟨A, fr, _, h2⟩ := h; exact h2.fit
theorem RingAt.same (h : RingAt w p most L) (e : w'.heap[p]? = w.heap[p]?) : RingAt w' p most L := by obtain ⟨A, fr, h1, h2⟩ := h; exact ⟨A, fr, h1.same e, h2⟩
theorem RingAt.only {S : Nat → Prop} (h : RingAt w p most L) (o : Only S w w') (hs : ¬ S p) : RingAt w' p most L := h.same (o.block p h.lt hs)
theorem RingAt.alloc (h : RingAt w p most L) (o : Obj) : RingAt (w.alloc o) p most L := h.same (Below.heap_alloc _ _ _ h.lt)
theorem only_draws {S : Nat → Prop} {w w' : World} (h : Only S w w') (n : Nat) : Only S w (w'.drewN n) := ⟨h.os, h.tape, h.output, h.size, h.block⟩
/-- What Put writes. -/
theorem put_world {A : List Int} {fr n : Nat} (h : Blk w p 88 (ringCells A most fr n)) (hA : A.length = 8) (i : Nat) (hi : i < 8) (v : Int) (o : Obj) :
    Blk (((w.setCell ⟨p, i, none⟩ (.int .i64 v)).setCell ⟨p, 10, none⟩ (.int .i64 ((n : Int) + 1))).alloc o).drew.drew.drew p 88 (ringCells (A.set i v) most fr (n + 1)) ∧
    Only (· = p) w (((w.setCell ⟨p, i, none⟩ (.int .i64 v)).setCell ⟨p, 10, none⟩ (.int .i64 ((n : Int) + 1))).alloc o).drew.drew.drew := by
  have h1 := (h.set i (.int .i64 v)).set 10 (.int .i64 ((n + 1 : Nat) : Int))
  rw [rset_A i v (by omega), rset_n (by rw [List.length_set, hA]) (n + 1)] at h1
  refine ⟨(h1.alloc o).same rfl, ?_⟩
  have h2 := ((Only.setCell (S := (· = p)) w ⟨p, i, none⟩ (.int .i64 v) rfl).trans (Only.setCell _ ⟨p, 10, none⟩ (.int .i64 ((n : Int) + 1)) rfl)).trans (Only.alloc _ _ o)
  exact ⟨h2.os, h2.tape, h2.output, h2.size, h2.block⟩
theorem put_at (h : RingAt w p most L) (hl : L.length < most) (v : Int) : Calls Try.prog 38 #[.pointer (some ⟨p,0,none⟩), .int .i64 v] w fun e w' => e = .returned (.int .i64 0) ∧ RingAt w' p most (L ++ [v]) ∧ Only (· = p) w w' := by
  obtain ⟨A, fr, h1, h2⟩ := h
  obtain ⟨c8, c9, c10⟩ := rc8 h1 h2.len
  have h8 := h2.most8
  have hi : (fr + L.length) % most < 8 := by have := Nat.mod_lt (fr + L.length) (show most > 0 by omega); omega
  obtain ⟨x, hx⟩ : ∃ x, A[(fr + L.length) % most]? = some x := ⟨_, List.getElem?_eq_getElem (by rw [h2.len]; exact hi)⟩
  refine (put_raw p most fr L.length v x w h1.lt hl h8 (by rcases h2.frm with h | h <;> omega) c8 c9 c10 (rcA h1 _ x hx) h1.frozen).mono ?_
  rintro e w' ⟨rfl, rfl⟩
  obtain ⟨k1, k2⟩ := put_world h1 h2.len ((fr + L.length) % most) hi v (.cells #[.pointer (some ⟨p,0,none⟩)] 65)
  exact ⟨rfl, ⟨_, _, by rw [List.length_append]; exact k1, h2.put hl v⟩, k2⟩
theorem put_full_at (h : RingAt w p most L) (hl : L.length = most) (v : Int) : Calls Try.prog 38 #[.pointer (some ⟨p,0,none⟩), .int .i64 v] w fun e w' => e = .returned (.int .i64 4) ∧ RingAt w' p most L ∧ Only (fun _ => False) w w' := by
  obtain ⟨A, fr, h1, h2⟩ := h
  obtain ⟨c8, c9, c10⟩ := rc8 h1 h2.len
  refine (put_full_raw p most L.length v w (by omega) c8 c10).mono ?_
  rintro e w' ⟨rfl, rfl⟩
  exact ⟨rfl, ⟨A, fr, h1.same rfl, h2⟩, Only.drew _ _⟩
theorem take_at {v : Int} {r : List Int} (h : RingAt w p most (v :: r)) : Calls Try.prog 39 #[.pointer (some ⟨p,0,none⟩)] w fun e w' => e = .returned (.tuple #[.int .i64 v, .int .i64 0]) ∧ RingAt w' p most r ∧ Only (· = p) w w' := by
  obtain ⟨A, fr, h1, h2⟩ := h
  obtain ⟨c8, c9, c10⟩ := rc8 h1 h2.len
  have h8 := h2.most8
  have hf := h2.fit
  simp only [List.length_cons] at hf
  obtain ⟨hx, h3⟩ := h2.take
  refine (take_raw p most fr (v :: r).length v w h1.lt (by simp) h2.fit h8 (by rcases h2.frm with h | h <;> omega) c8 c9 c10 (rcA h1 _ _ hx) h1.frozen).mono ?_
  rintro e w' ⟨rfl, rfl⟩
  have e1 : (((v :: r).length : Nat) : Int) - 1 = ((r.length : Nat) : Int) := by simp
  rw [e1]
  have k1 := (h1.set 9 (.int .i64 (((fr + 1) % most : Nat) : Int))).set 10 (.int .i64 ((r.length : Nat) : Int))
  rw [rset_fr h2.len, rset_n h2.len] at k1
  have k2 := ((Only.setCell (S := (· = p)) w ⟨p, 9, none⟩ (.int .i64 (((fr + 1) % most : Nat) : Int)) rfl).trans (Only.setCell _ ⟨p, 10, none⟩ (.int .i64 ((r.length : Nat) : Int)) rfl)).trans (Only.alloc _ _ (.cells #[.pointer (some ⟨p,0,none⟩)] 65))
  exact ⟨rfl, ⟨_, _, (k1.alloc _).same rfl, h3⟩, ⟨k2.os, k2.tape, k2.output, k2.size, k2.block⟩⟩
theorem take_none_at (h : RingAt w p most []) : Calls Try.prog 39 #[.pointer (some ⟨p,0,none⟩)] w fun e w' => e = .returned (.tuple #[.int .i64 0, .int .i64 3]) ∧ w' = w := by
  obtain ⟨A, fr, h1, h2⟩ := h
  exact take_none_raw p w (rc8 h1 h2.len).2.2
theorem len_at (h : RingAt w p most L) : Calls Try.prog 25 #[.pointer (some ⟨p,0,none⟩)] w fun e w' => e = .returned (.int .i64 (L.length : Int)) ∧ w' = w := by
  obtain ⟨A, fr, h1, h2⟩ := h
  exact len_raw p _ w (rc8 h1 h2.len).2.2
theorem cap_at (h : RingAt w p most L) : Calls Try.prog 26 #[.pointer (some ⟨p,0,none⟩)] w fun e w' => e = .returned (.int .i64 (most : Int)) ∧ w' = w := by
  obtain ⟨A, fr, h1, h2⟩ := h
  exact cap_raw p _ w (rc8 h1 h2.len).1
theorem new_at (most : Nat) (w : World) (h : most ≤ 8) : Calls Try.prog 24 #[.int .i64 most] w fun e w' => e = .returned (.tuple #[.pointer (some ⟨w.heap.size, 0, none⟩), .int .i64 0]) ∧ RingAt w' w.heap.size most [] ∧ Below w.heap.size w w' ∧ w.heap.size < w'.heap.size := by
  refine (new_raw most w h).mono ?_
  rintro e w' ⟨rfl, rfl⟩
  exact ⟨rfl, ⟨_, 0, Blk.new _ _ _, RingSt.new most h⟩, (Below.refl _ _).alloc (Nat.le_refl _) _, by simp⟩
end
end Go.Proofs.Ytabcodjalacdjaa.RingCode
