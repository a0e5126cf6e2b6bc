
/- The walk of MchanOrder. -/
import Derived.Test.YtabcodjalacdjaaMchanAlive
import Derived.Test.YtabcodjalacdjaaMchanPlain
namespace Go.Proofs.Ytabcodjalacdjaa.MchanCode
open Go Go.RowKit Go.Proofs.Ytabcodjalacdjaa.Obj Go.Proofs.Ytabcodjalacdjaa.RingCode Go.Proofs.YtabcodjalacdjaaW.PrintWords Go.Proofs.YtabcodjalacdjaaW.PrintMore
set_option linter.unusedVariables false
set_option linter.unusedSimpArgs false
set_option maxRecDepth 100000
set_option maxHeartbeats 16000000 in
theorem order_walk (n : Nat) (hn : n < 256) (a : Option Addr) (len cap : Nat) (w : World) (ha : Obj.Rows w [.bool] a len cap) :
    Calls Try.prog 5 #[.int .u8 (n : Int), .slice a len cap] w fun e w' => e = .returned (.bool true) ∧ Below w.heap.size w w' := by
  by_cases h200 : 200 < len
  · go_enter Try.func5, Try.ntmps5
    go_wp2_with (fail)
    refine (alive_at _).mono ?_
    rintro e w2 ⟨rfl, hb2⟩
    go_wp2_with (fail)
    go_ret
    exact ⟨rfl, hb2⟩
  · go_enter Try.func5, Try.ntmps5
    go_wp2_with (fail)
    rw [show ((n : Int) % 9) = ((n % 9 : Nat) : Int) by omega]
    refine (new_at (n % 9) (by omega) w).mono ?_
    rintro e w1 ⟨c, rfl, h0, hb1⟩
    have hlen : len ≤ 200 := by omega
    generalize hM : n % 9 = most at *
    go_wp2_with (fail)
    go_loopg [7, 8, 9, 10, 11] len (fun kq v7 v8 v9 v10 v11 w' => ∃ (i nx gt : Nat) (sd rc : Int) (Bf : List Int) (R0 R1 : List Wt), kq + i = len ∧ v7 = .int .i64 (nx : Int) ∧ v8 = .int .i64 (gt : Int) ∧ v9 = .int .i64 sd ∧ v10 = .int .i64 rc ∧ v11 = .int .i64 (i : Int) ∧ St most nx gt sd rc i Bf R0 R1 ∧ ChAt w.heap.size w' c most Bf R0 R1 ∧ Below w.heap.size w w')
    case atStart => exact ⟨0, 0, 0, 0, 0, [], [], [], rfl, rfl, rfl, rfl, rfl, rfl, St.new most, h0, hb1⟩
    case round =>
      clear h0 hb1
      obtain ⟨i, nx, gt, sd, rc, Bf, R0, R1, hi, rfl, rfl, rfl, rfl, rfl, hSt, hC, hB⟩ := hrel
      cases gk with
      | zero =>
        have hin : ¬ ((i : Int) < (len : Int)) := by omega
        have hnx := hSt.nxi
        have hcnt := hSt.cnt
        have hBuf := buf_at hC
        clear hSt ha
        go_wp2_with (fail)
        refine hBuf.mono ?_
        rintro e w2 ⟨A2, c2, rfl, b2⟩
        have hC2 := hC.below b2
        have hB2 := hB.trans (b2.mono hB.size)
        have hRow := rowlen_at hC2 true
        rw [if_pos rfl] at hRow
        clear hBuf hC hB b2
        go_wp2_with (fail)
        refine hRow.mono ?_
        rintro e w3 ⟨A3, c3, rfl, b3⟩
        have hB3 := hB2.trans (b3.mono hB2.size)
        have hA := alive_at w3
        have hwa : IntKind.i64.wrap ((Bf.length : Int) + (R1.length : Int)) = (nx : Int) - (gt : Int) := by rw [IntWalk.i64_in _ (by omega)]; omega
        have hws : IntKind.i64.wrap ((nx : Int) - (gt : Int)) = (nx : Int) - (gt : Int) := by rw [IntWalk.i64_in _ (by omega)]
        clear hRow hC2 hB2 b3
        go_wp2_with (fail)
        refine hA.mono ?_
        rintro e w4 ⟨rfl, b4⟩
        have hB4 := hB3.trans (b4.mono hB3.size)
        clear hA
        go_wp2_with (fail)
        go_ret
        exact ⟨rfl, hB4⟩
      | succ k1 =>
        have hin : ((i : Int) < (len : Int)) := by omega
        obtain ⟨xb, xo, rfl, hxb, hx⟩ := ha.at (by decide) i (by omega)
        obtain ⟨t0, c0, d0, rfl⟩ := hx 0 _ rfl
        simp only [List.length_cons, List.length_nil, Nat.reduceAdd, Nat.add_zero, Nat.zero_add, Nat.mul_one] at c0
        rw [← hB.cell (p := ⟨_, _, none⟩) hxb] at c0
        clear hx
        have hnx := hSt.nxi
        have hrc := hSt.rc0
        have hsd := hSt.sd0
        cases d0 with
        | true =>
          cases R0 with
          | cons x l =>
            obtain ⟨rfl, rfl, rfl, q1, q2, hSt2⟩ := hSt.meet1
            have hW := what_at hC true
            rw [show whatV true most [] (x :: l) [] = 2 from rfl] at hW
            clear hSt ha
            go_wp2_with (fail)
            refine hW.mono ?_
            rintro e w2 ⟨rfl, m, rfl⟩
            have hC2 := hC.drewN m
            have hB2 := bl_drewN (n := m) hB
            clear hW hC hB c0
            generalize World.drewN _ m = w2 at *
            have hS := serve_meet1 (gt : Int) hC2 hB2.size
            go_wp2_with (fail)
            refine hS.mono ?_
            rintro e w3 ⟨rfl, hC3, b3, -⟩
            have hB3 := hB2.trans b3
            have hl1 : ¬ (x.task < rc) := by omega
            have hl2 : ¬ ((i : Int) ≤ x.task) := by omega
            have hB4 := hid (hB3.alloc (o := .cells (gcells 2 x gt true 0).toArray 50) hB3.size)
            have hC4 := hid (hC3.below ((Below.refl _ w3).alloc (o := .cells (gcells 2 x gt true 0).toArray 50) (Nat.le_refl _)))
            have hSt3 := hid hSt2
            clear hS hC2 hB2 hC3 hB3 b3 hSt2
            simp only [got, zeroW]
            go_wp2_with (fail)
            go_roundg k1
            case measure => omega
            case rel => exact ⟨i + 1, gt + 1, gt + 1, sd, x.task + 1, [], l, [], by omega, by go_num, by go_num, rfl, rfl, by go_num, hSt3.out, hC4.out, hB4.out⟩
          | nil =>
            by_cases hbf : Bf.length < most
            · skip
              obtain ⟨rfl, hSt2⟩ := hSt.put hbf
              have hW := what_at hC true
              rw [show whatV true most Bf [] [] = 3 by simp [whatV, hbf]] at hW
              clear hSt ha
              go_wp2_with (fail)
              refine hW.mono ?_
              rintro e w2 ⟨rfl, m, rfl⟩
              have hC2 := hC.drewN m
              have hB2 := bl_drewN (n := m) hB
              clear hW hC hB c0
              generalize World.drewN _ m = w2 at *
              have hS := serve_put (nx : Int) hC2 hB2.size hbf
              go_wp2_with (fail)
              refine hS.mono ?_
              rintro e w3 ⟨rfl, hC3, b3, -⟩
              have hB3 := hB2.trans b3
              have hB4 := hid (hB3.alloc (o := .cells (gcells 3 zeroW nx true 0).toArray 50) hB3.size)
              have hC4 := hid (hC3.below ((Below.refl _ w3).alloc (o := .cells (gcells 3 zeroW nx true 0).toArray 50) (Nat.le_refl _)))
              have hSt3 := hid hSt2
              clear hS hC2 hB2 hC3 hB3 b3 hSt2
              simp only [got, zeroW]
              go_wp2_with (fail)
              go_roundg k1
              case measure => omega
              case rel => exact ⟨i + 1, nx + 1, gt, sd, rc, Bf ++ [(nx : Int)], [], [], by omega, by go_num, rfl, rfl, rfl, by go_num, hSt3.out, hC4.out, hB4.out⟩
            · skip
              have hSt2 := hSt.wait1 hbf
              have hnew := hSt.a1.lt
              have hl1 : R1.length ≤ nx := by have := hSt.cnt; omega
              have hW := what_at hC true
              rw [show whatV true most Bf [] R1 = 6 by simp [whatV, hbf]] at hW
              clear hSt ha
              go_wp2_with (fail)
              refine hW.mono ?_
              rintro e w2 ⟨rfl, m, rfl⟩
              have hC2 := hC.drewN m
              have hB2 := bl_drewN (n := m) hB
              clear hW hC hB c0
              generalize World.drewN _ m = w2 at *
              have hT := wait_at true ⟨(i : Int), 0, nx⟩ hC2 hB2.size (fun y hy => Int.ne_of_lt (hnew y hy)) (by simp) (by omega)
              simp only [Wt.v, if_true, Bool.false_eq_true, if_false] at hT
              clear hnew
              go_wp2_with (fail)
              refine hT.mono ?_
              rintro e w3 ⟨rfl, hC3, b3, -⟩
              have hB3 := hid (hB2.trans b3)
              have hC4 := hid hC3
              have hSt3 := hid hSt2
              clear hT hC2 hB2 hC3 b3 hSt2
              go_wp2_with (fail)
              go_roundg k1
              case measure => omega
              case rel => exact ⟨i + 1, nx + 1, gt, sd, rc, Bf, [], R1 ++ [⟨i, 0, nx⟩], by omega, by go_num, rfl, rfl, rfl, by go_num, hSt3.out, hC4.out, hB3.out⟩
        | false =>
          cases R1 with
          | cons x l =>
            by_cases hm0 : most = 0
            · skip
              subst hm0
              have hgt : gt ≤ nx := by have := hSt.cnt; omega
              obtain ⟨rfl, rfl, hv, q1, q2, hSt2⟩ := hSt.meet0
              obtain ⟨xt, xc, xv⟩ := x
              obtain rfl : xv = (gt : Int) := hv
              simp only at q1 q2
              have hW := what_at hC false
              rw [show whatV false 0 [] [] (⟨xt, xc, (gt : Int)⟩ :: l) = 2 from rfl] at hW
              clear hSt ha
              go_wp2_with (fail)
              refine hW.mono ?_
              rintro e w2 ⟨rfl, m, rfl⟩
              have hC2 := hC.drewN m
              have hB2 := bl_drewN (n := m) hB
              clear hW hC hB c0
              generalize World.drewN _ m = w2 at *
              have hS := serve_meet0 (nx : Int) hC2 hB2.size
              go_wp2_with (fail)
              refine hS.mono ?_
              rintro e w3 ⟨rfl, hC3, b3, -⟩
              have hB3 := hB2.trans b3
              have hl1 : ¬ (xt < sd) := by omega
              have hl2 : ¬ ((i : Int) ≤ xt) := by omega
              have hB4 := hid (hB3.alloc (o := .cells (gcells 2 ⟨xt, xc, gt⟩ gt true 0).toArray 50) hB3.size)
              have hC4 := hid (hC3.below ((Below.refl _ w3).alloc (o := .cells (gcells 2 ⟨xt, xc, gt⟩ gt true 0).toArray 50) (Nat.le_refl _)))
              have hSt3 := hid hSt2
              clear hS hC2 hB2 hC3 hB3 b3 hSt2
              simp only [got, zeroW]
              go_wp2_with (fail)
              go_roundg k1
              case measure => omega
              case rel => exact ⟨i + 1, nx, gt + 1, xt + 1, rc, [], [], l, by omega, rfl, by go_num, rfl, rfl, by go_num, hSt3.out, hC4.out, hB4.out⟩
            · skip
              have hgt : gt ≤ nx := by have := hSt.cnt; omega
              obtain ⟨b, rfl, rfl, q1, q2, hSt2⟩ := hSt.refill hm0
              have hW := what_at hC false
              rw [show whatV false most ((gt : Int) :: b) [] (x :: l) = 4 by simp [whatV, hm0]] at hW
              clear hSt ha
              go_wp2_with (fail)
              refine hW.mono ?_
              rintro e w2 ⟨rfl, m, rfl⟩
              have hC2 := hC.drewN m
              have hB2 := bl_drewN (n := m) hB
              clear hW hC hB c0
              generalize World.drewN _ m = w2 at *
              have hS := serve_refill (nx : Int) hC2 hB2.size hm0
              go_wp2_with (fail)
              refine hS.mono ?_
              rintro e w3 ⟨rfl, hC3, b3, -⟩
              have hB3 := hB2.trans b3
              have hl1 : ¬ (x.task < sd) := by omega
              have hl2 : ¬ ((i : Int) ≤ x.task) := by omega
              have hB4 := hid (hB3.alloc (o := .cells (gcells 4 x gt true x.val).toArray 50) hB3.size)
              have hC4 := hid (hC3.below ((Below.refl _ w3).alloc (o := .cells (gcells 4 x gt true x.val).toArray 50) (Nat.le_refl _)))
              have hSt3 := hid hSt2
              clear hS hC2 hB2 hC3 hB3 b3 hSt2
              simp only [got, zeroW]
              go_wp2_with (fail)
              go_roundg k1
              case measure => omega
              case rel => exact ⟨i + 1, nx, gt + 1, x.task + 1, rc, b ++ [x.val], [], l, by omega, rfl, by go_num, rfl, rfl, by go_num, hSt3.out, hC4.out, hB4.out⟩
          | nil =>
            cases Bf with
            | cons v b =>
              have hgt : gt ≤ nx := by have := hSt.cnt; omega
              obtain ⟨rfl, rfl, hSt2⟩ := hSt.take
              have hW := what_at hC false
              rw [show whatV false most ((gt : Int) :: b) [] [] = 3 from rfl] at hW
              clear hSt ha
              go_wp2_with (fail)
              refine hW.mono ?_
              rintro e w2 ⟨rfl, m, rfl⟩
              have hC2 := hC.drewN m
              have hB2 := bl_drewN (n := m) hB
              clear hW hC hB c0
              generalize World.drewN _ m = w2 at *
              have hS := serve_take (nx : Int) hC2 hB2.size
              go_wp2_with (fail)
              refine hS.mono ?_
              rintro e w3 ⟨rfl, hC3, b3, -⟩
              have hB3 := hB2.trans b3
              have hB4 := hid (hB3.alloc (o := .cells (gcells 3 zeroW gt true 0).toArray 50) hB3.size)
              have hC4 := hid (hC3.below ((Below.refl _ w3).alloc (o := .cells (gcells 3 zeroW gt true 0).toArray 50) (Nat.le_refl _)))
              have hSt3 := hid hSt2
              clear hS hC2 hB2 hC3 hB3 b3 hSt2
              simp only [got, zeroW]
              go_wp2_with (fail)
              go_roundg k1
              case measure => omega
              case rel => exact ⟨i + 1, nx, gt + 1, sd, rc, b, [], [], by omega, rfl, by go_num, rfl, rfl, by go_num, hSt3.out, hC4.out, hB4.out⟩
            | nil =>
              have hSt2 := hSt.wait0 (nx : Int)
              have hnew := hSt.a0.lt
              have hl1 := hSt.l0
              have hW := what_at hC false
              rw [show whatV false most [] R0 [] = 6 from rfl] at hW
              clear hSt ha
              go_wp2_with (fail)
              refine hW.mono ?_
              rintro e w2 ⟨rfl, m, rfl⟩
              have hC2 := hC.drewN m
              have hB2 := bl_drewN (n := m) hB
              clear hW hC hB c0
              generalize World.drewN _ m = w2 at *
              have hT := wait_at false ⟨(i : Int), 0, nx⟩ hC2 hB2.size (fun y hy => Int.ne_of_lt (hnew y hy)) (by omega) (by simp)
              simp only [Wt.v, if_true, Bool.false_eq_true, if_false] at hT
              clear hnew
              go_wp2_with (fail)
              refine hT.mono ?_
              rintro e w3 ⟨rfl, hC3, b3, -⟩
              have hB3 := hid (hB2.trans b3)
              have hC4 := hid hC3
              have hSt3 := hid hSt2
              clear hT hC2 hB2 hC3 b3 hSt2
              go_wp2_with (fail)
              go_roundg k1
              case measure => omega
              case rel => exact ⟨i + 1, nx, gt, sd, rc, [], R0 ++ [⟨i, 0, nx⟩], [], by omega, rfl, rfl, rfl, rfl, by go_num, hSt3.out, hC4.out, hB3.out⟩
theorem order_z (m : Int) (a : Option Addr) (len cap : Nat) (w : World) (hm : (Lit.int .u8 m).wf = true) (ha : Obj.Rows w [.bool] a len cap) :
    Calls Try.prog 5 #[.int .u8 m, .slice a len cap] w fun e w' => e = .returned (.bool true) ∧ Below w.heap.size w w' := by
  have h := u8_of hm
  obtain ⟨n, rfl⟩ : ∃ n : Nat, m = (n : Int) := ⟨m.toNat, by omega⟩
  exact order_walk n (by omega) a len cap w ha
end Go.Proofs.Ytabcodjalacdjaa.MchanCode
