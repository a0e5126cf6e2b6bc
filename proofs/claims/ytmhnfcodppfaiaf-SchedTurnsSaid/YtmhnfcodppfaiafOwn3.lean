
/- Three rows of numbers of one's own, apart from one another. -/
import Derived.Test.YtmhnfcodppfaiafRow
namespace Go.Proofs.Ytmhnfcodppfaiaf.Own3
open Go Go.RowKit Go.Proofs.Ytmhnfcodppfaiaf.Obj Go.Proofs.Ytmhnfcodppfaiaf.Row Go.Proofs.YtmhnfcodppfaiafW.PrintWords
set_option linter.unusedVariables false
structure Own3 (W : World) (B : Nat) (u : Value) (R : List Int) (v : Value) (K : List Int) (z : Value) (Y : List Int) : Prop where
  r : IRow 3 .i64 W B u R
  k : IRow 3 .i64 W B v K
  y : IRow 3 .i64 W B z Y
  rk : ∀ g, u.ownBlock = some g → v.ownBlock ≠ some g
  ry : ∀ g, u.ownBlock = some g → z.ownBlock ≠ some g
  ky : ∀ g, v.ownBlock = some g → z.ownBlock ≠ some g
section
variable {W W' : World} {B : Nat} {u v z t : Value} {R K Y M : List Int}
theorem Own3.nil (W : World) (B : Nat) : Own3 W B (.slice none 0 0) [] (.slice none 0 0) [] (.slice none 0 0) [] := ⟨IRow.nil _ _ _ _, IRow.nil _ _ _ _, IRow.nil _ _ _ _, (fun g h => by cases h), (fun g h => by cases h), (fun g h => by cases h)⟩
theorem Own3.only {S : Nat → Prop} (h : Own3 W B u R v K z Y) (o : Only S W W') (hs : ∀ g, B ≤ g → g < W.heap.size → ¬ S g) : Own3 W' B u R v K z Y := ⟨h.r.far o hs, h.k.far o hs, h.y.far o hs, h.rk, h.ry, h.ky⟩
theorem Own3.below (h : Own3 W B u R v K z Y) (hb : Below W.heap.size W W') : Own3 W' B u R v K z Y := h.only (Only.none_of_below hb) (fun _ _ _ => id)
/-- One of the rows is another one: grown in place, or made anew, or a part of it. -/
theorem Own3.setR {S : Nat → Prop} (h : Own3 W B u R v K z Y) (o : Only S W W') (hn : IRow 3 .i64 W' B t M) (hS : ∀ g, S g → u.ownBlock = some g) (ht : ∀ g, t.ownBlock = some g → u.ownBlock = some g ∨ W.heap.size ≤ g) : Own3 W' B t M v K z Y := by
  refine ⟨hn, h.k.only o (fun g hg hs => h.rk g (hS g hs) hg), h.y.only o (fun g hg hs => h.ry g (hS g hs) hg), fun g hg e => ?_, fun g hg e => ?_, h.ky⟩
  · rcases ht g hg with h1 | h1
    · exact h.rk g h1 e
    · have := (h.k.block e).2; omega
  · rcases ht g hg with h1 | h1
    · exact h.ry g h1 e
    · have := (h.y.block e).2; omega
theorem Own3.setK {S : Nat → Prop} (h : Own3 W B u R v K z Y) (o : Only S W W') (hn : IRow 3 .i64 W' B t M) (hS : ∀ g, S g → v.ownBlock = some g) (ht : ∀ g, t.ownBlock = some g → v.ownBlock = some g ∨ W.heap.size ≤ g) : Own3 W' B u R t M z Y := by
  refine ⟨h.r.only o (fun g hg hs => h.rk g hg (hS g hs)), hn, h.y.only o (fun g hg hs => h.ky g (hS g hs) hg), fun g hg e => ?_, h.ry, fun g hg e => ?_⟩
  · rcases ht g e with h1 | h1
    · exact h.rk g hg h1
    · have := (h.r.block hg).2; omega
  · rcases ht g hg with h1 | h1
    · exact h.ky g h1 e
    · have := (h.y.block e).2; omega
theorem Own3.setY {S : Nat → Prop} (h : Own3 W B u R v K z Y) (o : Only S W W') (hn : IRow 3 .i64 W' B t M) (hS : ∀ g, S g → z.ownBlock = some g) (ht : ∀ g, t.ownBlock = some g → z.ownBlock = some g ∨ W.heap.size ≤ g) : Own3 W' B u R v K t M := by
  refine ⟨h.r.only o (fun g hg hs => h.ry g hg (hS g hs)), h.k.only o (fun g hg hs => h.ky g hg (hS g hs)), hn, h.rk, fun g hg e => ?_, fun g hg e => ?_⟩
  · rcases ht g e with h1 | h1
    · exact h.ry g hg h1
    · have := (h.r.block hg).2; omega
  · rcases ht g e with h1 | h1
    · exact h.ky g hg h1
    · have := (h.k.block hg).2; omega
theorem at_of (h : t.ownBlock = u.ownBlock ∨ ∃ b, t.ownBlock = some b ∧ W.heap.size ≤ b) : ∀ g, t.ownBlock = some g → u.ownBlock = some g ∨ W.heap.size ≤ g := fun g hg => by
  rcases h with h | ⟨b, hb, hl⟩
  · exact .inl (by rw [← h]; exact hg)
  · rw [hb] at hg; obtain rfl := Option.some.inj hg; exact .inr hl
theorem Own3.growR (h : Own3 W B u R v K z Y) (hn : IRow 3 .i64 W' B t M) (hg : W.grownBy W' u.ownBlock) (hat : t.ownBlock = u.ownBlock ∨ ∃ b, t.ownBlock = some b ∧ W.heap.size ≤ b) : Own3 W' B t M v K z Y := h.setR (Only.of_grown hg) hn (fun _ => id) (at_of hat)
theorem Own3.growK (h : Own3 W B u R v K z Y) (hn : IRow 3 .i64 W' B t M) (hg : W.grownBy W' v.ownBlock) (hat : t.ownBlock = v.ownBlock ∨ ∃ b, t.ownBlock = some b ∧ W.heap.size ≤ b) : Own3 W' B u R t M z Y := h.setK (Only.of_grown hg) hn (fun _ => id) (at_of hat)
theorem Own3.freshR (h : Own3 W B u R v K z Y) (hf : Fresh W W' B 3 .i64 t M) : Own3 W' B t M v K z Y := h.setR hf.keep (q_of_own hf.own) (fun _ h => h.elim) (fun g hg => .inr (hf.new g hg))
theorem Own3.freshK (h : Own3 W B u R v K z Y) (hf : Fresh W W' B 3 .i64 t M) : Own3 W' B u R t M z Y := h.setK hf.keep (q_of_own hf.own) (fun _ h => h.elim) (fun g hg => .inr (hf.new g hg))
theorem Own3.freshY (h : Own3 W B u R v K z Y) (hf : Fresh W W' B 3 .i64 t M) : Own3 W' B u R v K t M := h.setY hf.keep (q_of_own hf.own) (fun _ h => h.elim) (fun g hg => .inr (hf.new g hg))
theorem Own3.partR (h : Own3 W B u R v K z Y) (hn : IRow 3 .i64 W B t M) (ht : ∀ g, t.ownBlock = some g → u.ownBlock = some g) : Own3 W B t M v K z Y := h.setR (Only.refl (fun _ => False) W) hn (fun _ h => h.elim) (fun g hg => .inl (ht g hg))
theorem Own3.partY (h : Own3 W B u R v K z Y) (hn : IRow 3 .i64 W B t M) (ht : ∀ g, t.ownBlock = some g → z.ownBlock = some g) : Own3 W B u R v K t M := h.setY (Only.refl (fun _ => False) W) hn (fun _ h => h.elim) (fun g hg => .inl (ht g hg))
theorem reads_of {A : Option Addr} {n c : Nat} (h : IRow 3 .i64 W B (.slice A n c) M) : ReadsInt W .i64 A n M := by
  obtain ⟨A', c', e, hc⟩ := h.form
  simp only [Value.slice.injEq] at e
  obtain ⟨rfl, rfl, rfl⟩ := e
  refine ⟨rfl, q_max h, fun hp => ?_⟩
  obtain ⟨g, o, rfl, _, _, _, _, _, hcs⟩ := h.head hp
  refine ⟨_, rfl, fun j hj => ?_⟩
  rw [← hcs j hj]
  congr 1
  unfold Addr.add
  split
  · rename_i h0; rw [h0, Nat.add_zero]
  · rfl
end
end Go.Proofs.Ytmhnfcodppfaiaf.Own3
