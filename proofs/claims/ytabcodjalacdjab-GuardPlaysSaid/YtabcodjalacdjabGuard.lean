
/- guard: a guard in memory; New, All, may. -/
import Derived.Test.YtabcodjalacdjabTicketOps
import Derived.Shelf.RegionOpen
namespace Go.Proofs.Ytabcodjalacdjab.GuardCode
open Go Go.RowKit Go.Proofs.Ytabcodjalacdjab.Obj Go.Proofs.Ytabcodjalacdjab.Row Go.Proofs.Ytabcodjalacdjab.CellCode Go.Proofs.Ytabcodjalacdjab.TicketCode Go.Proofs.YtabcodjalacdjabW.PrintWords Go.Proofs.YtabcodjalacdjabW.PrintMore
set_option linter.unusedVariables false
set_option maxRecDepth 100000
/-- What a guard has: its row, how many of it, its ticket, whether it was drawn. -/
structure Gs where
  row : List Int
  n : Nat
  mine : Nat
  drawn : Bool
/-- A slice of numbers that lies in a block of such. -/
structure RowM (w : World) (A : Option Addr) (r : List Int) : Prop where
  nums : Nums w .i64 A r
  typ : ∀ a, A = some a → ∃ vs, w.heap[a.block]? = some (.cells vs 3 (0, 0))
structure GAt (w : World) (g x : Nat) (s : Gs) : Prop where
  obj : ∃ A cap, Blk w g 76 [.pointer (some ⟨x, 0, none⟩), .slice A s.row.length cap, .int .i64 (s.n : Int), .int .u16 (s.mine : Int), .bool s.drawn] ∧ s.row.length ≤ cap ∧ RowM w A s.row
  le : s.n ≤ s.row.length
  few : s.row.length ≤ 100000
section
variable {w w' : World} {g x : Nat} {s : Gs} {A : Option Addr} {r : List Int}
theorem RowM.same (h : RowM w A r) (e : ∀ a, A = some a → w'.heap[a.block]? = w.heap[a.block]?) : RowM w' A r :=
  ⟨h.nums.same e, fun a ha => by obtain ⟨vs, hv⟩ := h.typ a ha; exact ⟨vs, (e a ha).trans hv⟩⟩
theorem RowM.only {S : Nat → Prop} (h : RowM w A r) (o : Only S w w') (hS : ∀ k, S k → ∀ vs, w.heap[k]? ≠ some (.cells vs 3 (0, 0))) : RowM w' A r :=
  h.same fun a ha => by
    obtain ⟨vs, hv⟩ := h.typ a ha
    exact o.block _ (by
      rcases Nat.lt_or_ge a.block w.heap.size with h1 | h1
      · exact h1
      · rw [Array.getElem?_eq_none h1] at hv; cases hv) (fun hs => hS _ hs vs hv)
theorem RowM.lt (h : RowM w A r) {a : Addr} (ha : A = some a) : a.block < w.heap.size := by
  obtain ⟨vs, hv⟩ := h.typ a ha
  rcases Nat.lt_or_ge a.block w.heap.size with h1 | h1
  · exact h1
  · rw [Array.getElem?_eq_none h1] at hv; cases hv
theorem RowM.below (h : RowM w A r) (hb : Below w.heap.size w w') : RowM w' A r := h.same fun a ha => hb.block _ (h.lt ha)
theorem RowM.nil (w : World) : RowM w none [] := ⟨Nums.nil _ _ _, fun a e => by cases e⟩
theorem not_int {p : Nat} {t : TypeId} {vs : List Value} (h : Blk w p t vs) (ht : t ≠ 3) (us : Array Value) : w.heap[p]? ≠ some (.cells us 3 (0, 0)) := by
  intro e
  have := h.symm.trans e
  simp at this
  exact ht this.2
theorem GAt.lt (h : GAt w g x s) : g < w.heap.size := by obtain ⟨A, c, h1, _⟩ := h.obj; exact h1.lt
theorem GAt.only {S : Nat → Prop} (h : GAt w g x s) (o : Only S w w') (hg : ¬ S g) (hS : ∀ k, S k → ∀ vs, w.heap[k]? ≠ some (.cells vs 3 (0, 0))) : GAt w' g x s := by
  obtain ⟨A, c, h1, h2, h3⟩ := h.obj
  exact ⟨⟨A, c, h1.only o hg, h2, h3.only o hS⟩, h.le, h.few⟩
theorem GAt.below (h : GAt w g x s) (hb : Below w.heap.size w w') : GAt w' g x s := by
  obtain ⟨A, c, h1, h2, h3⟩ := h.obj
  exact ⟨⟨A, c, h1.same (hb.block _ h1.lt), h2, h3.below hb⟩, h.le, h.few⟩
theorem GAt.drewN (h : GAt w g x s) (n : Nat) : GAt (w.drewN n) g x s := by
  obtain ⟨A, c, h1, h2, h3⟩ := h.obj
  exact ⟨⟨A, c, h1, h2, ⟨h3.nums.drewN n, h3.typ⟩⟩, h.le, h.few⟩
theorem new_at (x : Nat) (w : World) : Calls Try.prog 8 #[.pointer (some ⟨x, 0, none⟩)] w fun e w' => e = .returned (.tuple #[.pointer (some ⟨w.heap.size, 0, none⟩), .int .i64 0]) ∧ GAt w' w.heap.size x ⟨[], 0, 0, false⟩ ∧ Below w.heap.size w w' ∧ w'.heap.size = w.heap.size + 1 := by
  have hG : GAt (w.alloc (.cells #[.pointer (some ⟨x, 0, none⟩), .slice none 0 0, .int .i64 0, .int .u16 0, .bool false] 76)) w.heap.size x ⟨[], 0, 0, false⟩ :=
    ⟨⟨none, 0, Blk.new w _ _, Nat.le_refl _, RowM.nil _⟩, Nat.le_refl _, by simp⟩
  have hb : Below w.heap.size w (w.alloc (.cells #[.pointer (some ⟨x, 0, none⟩), .slice none 0 0, .int .i64 0, .int .u16 0, .bool false] 76)) := (Below.refl _ _).alloc (Nat.le_refl _) _
  have hsz : (w.alloc (.cells #[.pointer (some ⟨x, 0, none⟩), .slice none 0 0, .int .i64 0, .int .u16 0, .bool false] 76)).heap.size = w.heap.size + 1 := by simp
  go_enter Try.func8, Try.ntmps8
  go_wp2_with (fail)
  go_ret2
  exact ⟨rfl, hG, hb, hsz⟩
theorem all_at (h : GAt w g x s) : Calls Try.prog 11 #[.pointer (some ⟨g, 0, none⟩)] w fun e w' => e = .returned (.bool (decide (s.n = s.row.length))) ∧ ∃ n, w' = w.drewN n := by
  obtain ⟨A, cap, h1, h2, h3⟩ := h.obj
  have c1 : w.cell? ⟨g, 1, none⟩ = some (.slice A s.row.length cap) := h1.cell 1
  have c2 : w.cell? ⟨g, 2, none⟩ = some (.int .i64 (s.n : Int)) := h1.cell 2
  have hq : (((s.n : Nat) : Int) == ((s.row.length : Nat) : Int)) = decide (s.n = s.row.length) := by rw [Bool.eq_iff_iff, beq_iff_eq, decide_eq_true_eq]; omega
  clear h h1 h2 h3
  generalize s.row.length = m at *
  generalize s.n = k at *
  generalize decide (k = m) = d at *
  go_enter Try.func11, Try.ntmps11
  go_wp2_with (go_quiet (fail))
  go_ret
  exact ⟨rfl, _, rfl⟩
theorem step1_at {b : Nat} (h : GAt w g x s) (hB : Blk w b 29 [.pointer (some ⟨g, 0, none⟩)]) : Calls Try.prog 32 #[.pointer (some ⟨b, 0, none⟩)] w fun e w' => e = .returned (.bool (decide (s.n = s.row.length))) ∧ ∃ n, w' = w.drewN n := by
  have hA := all_at h
  have c0 : w.cell? ⟨b, 0, none⟩ = some (.pointer (some ⟨g, 0, none⟩)) := hB.cell 0
  clear h hB
  generalize decide (s.n = s.row.length) = d at *
  go_enter Try.func32, Try.ntmps32
  go_wp2_with (fail)
  refine hA.mono ?_
  rintro e w1 ⟨rfl, n, rfl⟩
  go_wp2_with (fail)
  go_ret
  exact ⟨rfl, _, rfl⟩
theorem give1_at {b : Nat} (h : GAt w g x s) (hB : Blk w b 29 [.pointer (some ⟨g, 0, none⟩)]) : Calls Try.prog 30 #[.pointer (some ⟨b, 0, none⟩)] w fun e w' => e = .returned (.bool (decide (s.n = 0))) ∧ w' = w := by
  obtain ⟨A, cap, h1, h2, h3⟩ := h.obj
  have c2 : w.cell? ⟨g, 2, none⟩ = some (.int .i64 (s.n : Int)) := h1.cell 2
  have c0 : w.cell? ⟨b, 0, none⟩ = some (.pointer (some ⟨g, 0, none⟩)) := hB.cell 0
  have hq : (((s.n : Nat) : Int) == 0) = decide (s.n = 0) := by rw [Bool.eq_iff_iff, beq_iff_eq, decide_eq_true_eq]; omega
  have hqH := hid hq
  clear h h1 h2 h3 hB hq
  generalize s.n = k at *
  go_enter Try.func30, Try.ntmps30
  go_wp2_with (fail)
  go_ret
  exact ⟨by rw [← hqH.out]; rfl, rfl⟩
/-- What may answers. -/
def mayV (d : Bool) : Int := if d then 3 else 0
theorem may_step {b : Nat} (h : GAt w g x s) (hB : Blk w b 29 [.pointer (some ⟨g, 0, none⟩)]) : Calls Try.prog 29 #[.pointer (some ⟨g, 0, none⟩), .func (.func 32) #[] #[.pointer (some ⟨b, 0, none⟩)]] w fun e w' => e = .returned (.int .i64 (mayV (decide (s.n = s.row.length)))) ∧ ∃ n, w' = w.drewN n := by
  have hA := step1_at h hB
  clear h hB
  generalize decide (s.n = s.row.length) = d at *
  cases d
  all_goals
    go_enter Try.func29, Try.ntmps29
    go_wp2_with (fail)
    refine hA.mono ?_
    rintro e w1 ⟨rfl, n, rfl⟩
    go_wp2_with (fail)
    go_ret
    exact ⟨rfl, _, rfl⟩
theorem may_give {b : Nat} (h : GAt w g x s) (hB : Blk w b 29 [.pointer (some ⟨g, 0, none⟩)]) : Calls Try.prog 29 #[.pointer (some ⟨g, 0, none⟩), .func (.func 30) #[] #[.pointer (some ⟨b, 0, none⟩)]] w fun e w' => e = .returned (.int .i64 (mayV (decide (s.n = 0)))) ∧ w' = w := by
  have hA := give1_at h hB
  clear h hB
  generalize decide (s.n = 0) = d at *
  cases d
  all_goals
    go_enter Try.func29, Try.ntmps29
    go_wp2_with (fail)
    refine hA.mono ?_
    rintro e w1 ⟨rfl, rfl⟩
    go_wp2_with (fail)
    go_ret
    exact ⟨rfl, rfl⟩
/-- A guard and its locks, apart. -/
structure Both (w : World) (g x c lb : Nat) (s : Gs) (L : List Nat) (N : Nat) : Prop where
  g : GAt w g x s
  t : TAt w x c lb L N
theorem Both.ne {c lb : Nat} {L : List Nat} {N : Nat} (h : Both w g x c lb s L N) : g ≠ x ∧ g ≠ c ∧ g ≠ lb := by
  obtain ⟨A, cap, h1, h2, h3⟩ := h.g.obj
  exact ⟨CellCode.blk_ne h1 h.t.obj (by decide), CellCode.blk_ne h1 h.t.cells.obj (by decide), CellCode.blk_ne h1 h.t.cells.row (by decide)⟩
theorem step_none {c lb : Nat} {L : List Nat} {N : Nat} (h : GAt w g x s) (hn : s.n = s.row.length) : Calls Try.prog 13 #[.pointer (some ⟨g, 0, none⟩)] w fun e w' => e = .returned (.tuple #[.bool false, .int .i64 3]) ∧ Below w.heap.size w w' := by
  have hG := h.below ((Below.refl _ w).alloc (Nat.le_refl _) (.cells #[.pointer (some ⟨g, 0, none⟩)] 29))
  have hM := may_step hG (Blk.new w 29 [.pointer (some ⟨g, 0, none⟩)])
  rw [decide_eq_true hn] at hM
  have hb : Below w.heap.size w (w.alloc (.cells #[.pointer (some ⟨g, 0, none⟩)] 29)) := (Below.refl _ w).alloc (Nat.le_refl _) _
  have e3 : mayV true = 3 := rfl
  rw [e3] at hM
  clear h hG hn e3
  go_enter Try.func13, Try.ntmps13
  go_wp2_with (fail)
  refine hM.mono ?_
  rintro e w1 ⟨rfl, n, rfl⟩
  go_wp2_with (fail)
  go_ret2
  exact ⟨rfl, ⟨hb.os, hb.tape, hb.output, hb.size, hb.block⟩⟩
/-- Which lock it goes for. -/
def Gs.lock (s : Gs) : Nat := (s.row.getD s.n 0).toNat
end
end Go.Proofs.Ytabcodjalacdjab.GuardCode
