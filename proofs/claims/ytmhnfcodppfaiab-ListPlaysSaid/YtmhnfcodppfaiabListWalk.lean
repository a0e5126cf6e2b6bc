
/- The walk of ListWalk. -/
import Derived.Test.YtmhnfcodppfaiabListAlive
namespace Go.Proofs.Ytmhnfcodppfaiab.ListCode
open Go Go.RowKit Go.Proofs.Ytmhnfcodppfaiab.Obj Go.Proofs.Ytmhnfcodppfaiab.ListPure
set_option linter.unusedVariables false
set_option maxRecDepth 100000
def popV (L : List Int) : Int := L.headD 0
def popC (L : List Int) : Int := if L = [] then 3 else 0
theorem pop_any {w : World} {p b : Nat} {L : List Int} (h : LsAt w p b L) : Calls Try.prog 11 #[.pointer (some ⟨p, 0, none⟩)] w fun e w' => e = .returned (.tuple #[.int .i64 (popV L), .int .i64 (popC L)]) ∧ LsAt w' p b L.tail ∧ Only (fun k => k = p ∨ k = b) w w' := by
  cases L with
  | nil =>
    refine (pop_none h).mono ?_
    rintro e w' ⟨rfl, rfl⟩
    exact ⟨rfl, h, Only.refl _ _⟩
  | cons x r => exact pop_at h
set_option maxHeartbeats 4000000 in
theorem walk_walk (ad : Option Addr) (len cap : Nat) (w : World) (ha : Obj.Rows w [.int .i64, .int .i64] ad len cap) :
    Calls Try.prog 4 #[.slice ad len cap] w fun e w' => e = .returned (.bool true) ∧ Below w.heap.size w w' := by
  by_cases h200 : 200 < len
  · go_enter Try.func4, Try.ntmps4
    go_wp2_with (fail)
    refine (alive_at _).mono ?_
    rintro e w2 ⟨rfl, hb2⟩
    go_wp2_with (fail)
    go_ret
    exact ⟨rfl, hb2⟩
  · have hlen : len ≤ 200 := by omega
    go_enter Try.func4, Try.ntmps4
    go_wp2_with (fail)
    refine (lnew_at w).mono ?_
    rintro e w1 ⟨rfl, h0, hb0⟩
    go_wp2_with (fail)
    go_loopg [4] len (fun kq v4 w' => ∃ (i : Nat) (L : List Int), kq + i = len ∧ v4 = .int .i64 (i : Int) ∧ LsAt w' (w.heap.size + 1) w.heap.size L ∧ Below w.heap.size w w')
    case atStart => exact ⟨0, [], rfl, rfl, h0, hb0⟩
    case round =>
      clear h0 hb0
      obtain ⟨i, L, hi, rfl, hS, hb⟩ := hrel
      cases gk with
      | zero =>
        have hin : ¬ ((i : Int) < (len : Int)) := by omega
        have hlen2 := hS.len
        have hsz0 := hS.lt
        go_wp2_with (fail)
        refine (all_nums hS).mono ?_
        rintro e w2 ⟨A, c, rfl, hN, hB2, hA2⟩
        have hS2 := hS.below hB2
        have hb2 := hb.trans (hB2.mono hb.size)
        clear hS hb hB2
        go_wp2_with (fail)
        refine (front_any hS2).mono ?_
        rintro e w3 ⟨rfl, rfl⟩
        go_wp2_with (fail)
        go_loopg [6, 7, 8] L.length (fun kq v6 v7 v8 w' => ∃ k : Nat, kq + k = L.length ∧ v8 = .int .i64 (k : Int) ∧ v6 = .int .i64 (L.getD k 0) ∧ v7 = .bool (decide (k < L.length)) ∧ LsAt w' (w.heap.size + 1) w.heap.size L ∧ Nums w' .i64 A L ∧ Below w.heap.size w w')
        case atStart => exact ⟨0, rfl, rfl, by simp, rfl, hS2, hN, hb2⟩
        case round =>
          clear hS2 hN hb2
          obtain ⟨k, hk, rfl, rfl, rfl, hS, hN, hb⟩ := hrel
          cases gk with
          | zero =>
            have hin2 : ¬ ((k : Int) < (L.length : Int)) := by omega
            have hd : decide (k < L.length) = false := by simp; omega
            rw [hd]
            have hL := llen_at hS
            clear hS hN
            go_wp2_with (fail)
            refine hL.mono ?_
            rintro e w4 ⟨rfl, rfl⟩
            go_wp2_with (fail)
            refine (alive_at _).mono ?_
            rintro e w5 ⟨rfl, hb5⟩
            have hb6 := hb.trans (hb5.mono hb.size)
            go_wp2_with (fail)
            go_ret
            exact ⟨rfl, hb6⟩
          | succ k1 =>
            have hin2 : ((k : Int) < (L.length : Int)) := by omega
            have hlt : k < L.length := by omega
            have hd : decide (k < L.length) = true := by simp; omega
            obtain ⟨x, hx⟩ : ∃ x, L[k]? = some x := ⟨_, List.getElem?_eq_getElem hlt⟩
            have hxd : L.getD k 0 = x := by simp [List.getD, hx]
            obtain ⟨g, o, rfl, hgb, hcx⟩ := hN.at k hlt
            rw [hxd] at hcx ⊢
            rw [hd]
            have hmem := List.mem_of_getElem? hx
            obtain ⟨hr0, hr1⟩ := hS.rng x hmem
            have hwf := wf64 (k := x) (by omega) (by omega)
            have hHas := has_at hS hwf
            rw [show decide (x ∈ L) = true by simpa using hmem] at hHas
            have hnx := nextV_at hS.nodup hS.rng hx
            have hnxH := hid hnx
            clear hnx hxd hx hmem hd
            go_wp2_with (fail)
            refine hHas.mono ?_
            rintro e w4 ⟨rfl, hB4⟩
            have hS4 := hS.below hB4
            have hN4 := hN.below hB4
            have hb4 := hb.trans (hB4.mono hb.size)
            have hNx := next_at hS4 hwf
            rw [hnxH.out] at hNx
            clear hS hN hb hHas hB4 hcx
            go_wp2_with (fail)
            refine hNx.mono ?_
            rintro e w5 ⟨rfl, hB5⟩
            have hS5 := hS4.below hB5
            have hN5 := hN4.below hB5
            have hb5 := hb4.trans (hB5.mono hb4.size)
            go_wp2_with (fail)
            go_roundg k1
            case measure => omega
            case rel => exact ⟨k + 1, by omega, by go_num, rfl, rfl, hS5, hN5, hb5⟩
      | succ k1 =>
        have hin : ((i : Int) < (len : Int)) := by omega
        obtain ⟨xb, xo, rfl, hxb, hx⟩ := ha.at (by decide) i (by omega)
        obtain ⟨t0, c0, d0, rfl, wd0⟩ := hx 0 _ rfl
        obtain ⟨t1, c1, d1, rfl, wd1⟩ := hx 1 _ rfl
        simp only [List.length_cons, List.length_nil, Nat.reduceAdd, Nat.add_zero] at c0 c1
        rw [← hb.cell (p := ⟨_, _, none⟩) hxb] at c0 c1
        clear hx
        by_cases hd0 : d0 = 0
        · subst hd0
          go_wp2_with (fail)
          refine (put_at hS d1).mono ?_
          rintro e w2 ⟨rfl, hS2, o2⟩
          have hb2 := up hb (Nat.le_refl _) o2 (fun k h => by omega)
          go_wp2_with (fail)
          go_roundg k1
          case measure => omega
          case rel => exact ⟨i + 1, _, by omega, by go_num, hS2, hb2⟩
        · by_cases hd1 : d0 = 1
          · subst hd1
            go_wp2_with (fail)
            refine (pop_any hS).mono ?_
            rintro e w2 ⟨rfl, hS2, o2⟩
            have hb2 := up hb (Nat.le_refl _) o2 (fun k h => by omega)
            go_wp2_with (fail)
            go_roundg k1
            case measure => omega
            case rel => exact ⟨i + 1, _, by omega, by go_num, hS2, hb2⟩
          · by_cases hd2 : d0 = 2
            · subst hd2
              go_wp2_with (fail)
              refine (drop_at hS wd1).mono ?_
              rintro e w2 ⟨rfl, hS2, o2⟩
              have hb2 := up hb (Nat.le_refl _) o2 (fun k h => by omega)
              go_wp2_with (fail)
              go_roundg k1
              case measure => omega
              case rel => exact ⟨i + 1, _, by omega, by go_num, hS2, hb2⟩
            · go_wp2_with (fail)
              go_roundg k1
              case measure => omega
              case rel => exact ⟨i + 1, L, by omega, by go_num, hS, hb⟩
end Go.Proofs.Ytmhnfcodppfaiab.ListCode
