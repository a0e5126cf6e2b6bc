
/- Two rows of numbers are compared. -/
import Derived.Test.YtabcodjalacdjabProg
import Derived.Test.YtabcodjalacdjabObj
import Derived.WalkKit
import Derived.KernelRfl
import Derived.Deep.QuietTactic
import Derived.BigQuiet
namespace Go.Proofs.Ytabcodjalacdjab.Same08
open Go Go.RowKit Go.Proofs.Ytabcodjalacdjab.Obj
set_option maxRecDepth 100000
set_option linter.unusedVariables false
theorem take_more {xs ys : List Int} {i : Nat} (h : xs.take i = ys.take i) (hx : i < xs.length) (hy : i < ys.length) (e : xs.getD i 0 = ys.getD i 0) : xs.take (i + 1) = ys.take (i + 1) := by
  rw [List.take_succ_eq_append_getElem hx, List.take_succ_eq_append_getElem hy, h]
  simp only [List.getD, List.getElem?_eq_getElem hx, List.getElem?_eq_getElem hy, Option.getD_some] at e
  rw [e]
set_option maxHeartbeats 1000000 in
theorem same_at (a b : Option Addr) (ca cb : Nat) (xs ys : List Int) (w : World) (hx : Nums w .i64 a xs) (hy : Nums w .i64 b ys) (hl : xs.length ≤ 140737488355328) :
    Calls Try.prog 22 #[.slice a xs.length ca, .slice b ys.length cb] w fun e w' => e = .returned (.bool (decide (xs = ys))) ∧ ∃ n, w' = w.drewN n := by
  by_cases hlen : xs.length = ys.length
  · have hlH := hid hlen
    have hll : ys.length = xs.length := hlen.symm
    rw [hll]
    clear hll hlen
    generalize hxl : xs.length = n at *
    have hxlH := hid hxl
    clear hxl
    go_enter Try.func22, Try.ntmps22
    go_wp2_with (fail)
    go_loopg [5] n (fun kq v5 w' => ∃ i : Nat, kq + i = n ∧ v5 = .int .i64 (i : Int) ∧ xs.take i = ys.take i ∧ ∃ m, w' = w.drewN m)
    case atStart => exact ⟨0, rfl, rfl, rfl, 0, rfl⟩
    case round =>
      obtain ⟨i, hi, rfl, ht, m, rfl⟩ := hrel
      cases gk with
      | zero =>
        have hin : ¬ ((i : Int) < (n : Int)) := by omega
        have hd : decide (xs = ys) = true := by
          rw [decide_eq_true_eq]
          have h1 := hxlH.out
          have h2 := hlH.out
          rw [List.take_of_length_le (by omega), List.take_of_length_le (by omega)] at ht
          exact ht
        have hdH := hid hd
        clear ht hd
        go_wp2_with (fail)
        go_ret
        exact ⟨by rw [hdH.out]; rfl, m, rfl⟩
      | succ k =>
        have hin : ((i : Int) < (n : Int)) := by omega
        have hi1 : i < xs.length := by have := hxlH.out; omega
        have hi2 : i < ys.length := by have := hxlH.out; have := hlH.out; omega
        obtain ⟨b1, o1, rfl, _, c1⟩ := hx.at i hi1
        obtain ⟨b2, o2, rfl, _, c2⟩ := hy.at i hi2
        have htH := hid ht
        by_cases e : xs.getD i 0 = ys.getD i 0
        · have hr := hid (take_more ht hi1 hi2 e)
          rw [← e] at c2
          clear ht e
          go_wp2_with (go_quiet (fail))
          go_roundg k
          case measure => omega
          case rel => exact ⟨i + 1, by omega, by go_num, hr.out, _, rfl⟩
        · have hne : (xs.getD i 0 != ys.getD i 0) = true := by rw [bne_iff_ne]; exact e
          have hd : decide (xs = ys) = false := decide_eq_false (fun h => e (by rw [h]))
          generalize xs.getD i 0 = x at *
          generalize ys.getD i 0 = y at *
          have hdH := hid hd
          clear ht hd e
          go_wp2_with (go_quiet (fail))
          go_ret
          exact ⟨by rw [hdH.out]; rfl, _, World.drewN_drewN _ _ _⟩
  · have hne : ((xs.length : Int) != (ys.length : Int)) = true := by rw [bne_iff_ne]; omega
    have hd : decide (xs = ys) = false := decide_eq_false (fun h => hlen (by rw [h]))
    have hdH := hid hd
    clear hd hlen
    go_enter Try.func22, Try.ntmps22
    go_wp2_with (fail)
    go_ret
    exact ⟨by rw [hdH.out]; rfl, 0, rfl⟩
theorem same_eq (a b : Option Addr) (ca cb : Nat) (xs : List Int) (w : World) (hx : Nums w .i64 a xs) (hy : Nums w .i64 b xs) (hl : xs.length ≤ 140737488355328) :
    Calls Try.prog 22 #[.slice a xs.length ca, .slice b xs.length cb] w fun e w' => e = .returned (.bool true) ∧ ∃ n, w' = w.drewN n := by
  have h := same_at a b ca cb xs xs w hx hy hl
  rw [decide_eq_true rfl] at h
  exact h
end Go.Proofs.Ytabcodjalacdjab.Same08
