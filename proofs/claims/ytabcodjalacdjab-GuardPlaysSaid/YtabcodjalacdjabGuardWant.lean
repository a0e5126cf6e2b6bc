
/- guard: Want, Held; the law's made, locks. -/
import Derived.Test.YtabcodjalacdjabGuardGive
import Derived.Test.YtabcodjalacdjabGuardClone
namespace Go.Proofs.Ytabcodjalacdjab.GuardCode
open Go Go.RowKit Go.Proofs.Ytabcodjalacdjab.Obj Go.Proofs.Ytabcodjalacdjab.Row Go.Proofs.Ytabcodjalacdjab.CellCode Go.Proofs.Ytabcodjalacdjab.TicketCode Go.Proofs.YtabcodjalacdjabW.PrintWords Go.Proofs.YtabcodjalacdjabW.PrintMore
set_option linter.unusedVariables false
set_option maxRecDepth 100000
section
variable {w w' : World} {g x c lb : Nat} {s : Gs} {L : List Nat} {N : Nat} {A : Option Addr} {r : List Int}
theorem rowM_of_own {base m cap : Nat} {A : Option Addr} {r : List Int} (h : w.ownsRow base 3 1 (.slice A m cap) r.length (nums .i64 r)) : RowM w A r ∧ m = r.length ∧ r.length ≤ cap := by
  have hI : IRow 3 .i64 w base (.slice A m cap) r := IRow.of_own h
  obtain ⟨A', c', e1, hle⟩ := hI.form
  simp only [Value.slice.injEq] at e1
  obtain ⟨rfl, rfl, rfl⟩ := e1
  refine ⟨⟨hI.nums, fun a ha => ?_⟩, rfl, hle⟩
  subst ha
  rcases own_cases h with ⟨e, _, _⟩ | ⟨gb, e, _, _, _⟩
  · cases e
  · cases e
    exact hI.typed (g := gb) (by rfl)
theorem clone_some {a : Addr} {cap : Nat} (hR : RowM w (some a) r) (hl : r.length ≤ 1000) : Calls Try.prog 28 #[.slice (some a) r.length cap] w fun e w' => ∃ A' cap', e = .returned (.slice A' r.length cap') ∧ r.length ≤ cap' ∧ RowM w' A' r ∧ Below w.heap.size w w' := by
  refine (GuardClone.clone_some hR.nums hl).mono ?_
  rintro e w1 ⟨v, rfl, ho, hb⟩
  obtain ⟨A', cap', rfl⟩ := own_form ho
  obtain ⟨h1, h2, h3⟩ := rowM_of_own ho
  exact ⟨A', cap', rfl, h3, h1, hb⟩
/-- A slice of numbers; nil: it has none. -/
structure SlM (w : World) (A : Option Addr) (cap : Nat) (r : List Int) : Prop where
  row : RowM w A r
  nil : A = none → r = [] ∧ cap = 0
  le : r.length ≤ cap
  few : r.length ≤ 1000
theorem clone_at {cap : Nat} (h : SlM w A cap r) : Calls Try.prog 28 #[.slice A r.length cap] w fun e w' => ∃ A' cap', e = .returned (.slice A' r.length cap') ∧ r.length ≤ cap' ∧ RowM w' A' r ∧ Below w.heap.size w w' := by
  cases A with
  | none =>
    obtain ⟨rfl, rfl⟩ := h.nil rfl
    refine (GuardClone.clone_nil w 0).mono ?_
    rintro e w' ⟨rfl, rfl⟩
    exact ⟨none, 0, rfl, Nat.le_refl _, h.row, Below.refl _ _⟩
  | some a =>
    exact clone_some h.row h.few
theorem SlM.below {cap : Nat} (h : SlM w A cap r) (hb : Below w.heap.size w w') : SlM w' A cap r := ⟨h.row.below hb, h.nil, h.le, h.few⟩
/-- The one ahead; -1: there is none. -/
def lastOf (r : List Int) (i : Nat) : Int := if i = 0 then -1 else r.getD (i - 1) 0
def Rise (r : List Int) : Prop := ∀ i, i < r.length → lastOf r i < r.getD i 0 ∧ r.getD i 0 < 6
set_option maxHeartbeats 2000000 in
theorem want_at {cap : Nat} (h : GAt w g x s) (T : TAt w x c lb L N) (hS : SlM w A cap r) (hr : Rise r) (hn : s.n = 0) (hd : s.drawn = false) (hm : s.mine = 0) :
    Calls Try.prog 9 #[.pointer (some ⟨g, 0, none⟩), .slice A r.length cap] w fun e w' => e = .returned (.int .i64 0) ∧ GAt w' g x { s with row := r } ∧ Only (· = g) w w' := by
  have hC := clone_at hS
  have hLen := len_lock T
  obtain ⟨A0, cap0, hO, hcap0, hR0⟩ := h.obj
  rw [hn, hd] at hO
  have g0 : w.cell? ⟨g, 0, none⟩ = some (.pointer (some ⟨x, 0, none⟩)) := hO.cell 0
  have g2 : w.cell? ⟨g, 2, none⟩ = some (.int .i64 0) := hO.cell 2
  have g4 : w.cell? ⟨g, 4, none⟩ = some (.bool false) := hO.cell 4
  have hfew := hS.few
  have hrw := hS.row.nums
  have hfin := hid (show ∀ w' A' cap', r.length ≤ cap' → RowM w' A' r → Below w.heap.size w w' → w'.cell? ⟨g, 1, none⟩ = some (.slice A0 s.row.length cap0) ∧ w'.frozen? ⟨g, 1, none⟩ = false ∧ GAt (w'.setCell ⟨g, 1, none⟩ (.slice A' r.length cap')) g x { s with row := r } ∧ Only (· = g) w (w'.setCell ⟨g, 1, none⟩ (.slice A' r.length cap')) from fun w' A' cap' hle' hR' hb => by
    have Bg := hO.same (hb.block _ hO.lt)
    have og : Only (fun k => k = g) w' (w'.setCell ⟨g, 1, none⟩ (.slice A' r.length cap')) := Only.setCell _ _ _ rfl
    refine ⟨Bg.cell 1, Bg.frozen 1, ⟨⟨A', cap', ?_, hle', hR'.only og (fun j hj vs => by subst hj; exact not_int Bg (by decide) vs)⟩, by show s.n ≤ r.length; omega, by show r.length ≤ 100000; omega⟩, ?_⟩
    · show Blk _ g _ [_, _, .int .i64 (s.n : Int), _, .bool s.drawn]
      rw [hn, hd]; exact Bg.set 1 _
    · exact ((Only.none_of_below hb).mono (fun k _ hk => hk.elim)).trans og)
  clear h hO T hR0 hn hd hm hcap0
  go_enter Try.func9, Try.ntmps9
  go_wp2_with (fail)
  go_step3
  go_wp2_with (fail)
  go_step3
  go_wp2_with (fail)
  go_loopg [5, 6, 26] r.length (fun kq v5 v6 v26 w' => ∃ i : Nat, kq + i = r.length ∧ v26 = .int .i64 (i : Int) ∧ v5 = .int .i64 (lastOf r i) ∧ v6 = .int .i64 0 ∧ w' = w)
  case atStart => exact ⟨0, rfl, rfl, rfl, rfl, rfl⟩
  case round =>
    obtain ⟨i, hi, rfl, rfl, rfl, rfl⟩ := hrel
    cases gk with
    | zero =>
      have hin : ¬ ((i : Int) < (r.length : Int)) := by omega
      go_wp2_with (fail)
      refine hC.mono ?_
      rintro e w3 ⟨A', cap', rfl, hle, hR', hb⟩
      obtain ⟨f1, f2, f3, f4⟩ := hfin.out _ _ _ hle hR' hb
      clear hC hLen hle hR' hb
      go_wp2_with (fail)
      rw [Exit.noGoto_ret]
      go_ret
      exact ⟨rfl, f3, f4⟩
    | succ k1 =>
      have hin : ((i : Int) < (r.length : Int)) := by omega
      have hir : i < r.length := by omega
      obtain ⟨rb, ro, rfl, hrl, hrc⟩ := lock_cell hS.row hir
      obtain ⟨q1, q2⟩ := hr i hir
      obtain ⟨y, hy⟩ : ∃ y, y = r.getD i 0 := ⟨_, rfl⟩
      rw [← hy] at q1 q2 hrc
      obtain ⟨z, hz⟩ : ∃ z, z = lastOf r i := ⟨_, rfl⟩
      rw [← hz] at q1 ⊢
      have n1 : ¬ (y ≤ z) := by omega
      have n2 : ¬ (y ≥ 6) := by omega
      have hz' : lastOf r (i + 1) = y := by rw [hy]; simp [lastOf]
      have hy' := hid hy
      have hz2 := hid hz'
      clear hy hz hz' hrw hS hr
      go_wp2_with (fail)
      refine hLen.mono ?_
      rintro e w3 ⟨rfl, hw⟩
      obtain rfl : wr = w3 := hw.symm
      go_wp2_with (fail)
      go_roundg k1
      case rel => exact ⟨i + 1, by omega, rfl, by rw [hz2.out], rfl, rfl⟩
      case measure => omega
end
end Go.Proofs.Ytabcodjalacdjab.GuardCode
