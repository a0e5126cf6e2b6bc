-- BY PROGRAM (wip/tools/myprint.sh)
import Derived.Test.YtghbcdpnngheoabPOctetRx0
import Derived.Test.YtghbcdpnngheoabPOctetRx1
import Derived.Test.YtghbcdpnngheoabPOctetRx2
import Derived.Test.YtghbcdpnngheoabPOctetRx3
namespace Go.Proofs.Ytghbcdpnngheoab.POctetR
open Go.RowKit Go.Proofs.YtghbcdpnngheoabW.PrintWords Go.Proofs.YtghbcdpnngheoabW.PrintLast Go.Proofs.YtghbcdpnngheoabW.PrintMore
attribute [local go_sem] max2_int min2_int max_two min_two max_three min_three max_four min_four   -- for this text's walks alone
set_option linter.unusedVariables false
set_option linter.unusedSimpArgs false

/-! ### tollbarlaw01_OctetRows: function 5 -/
mutual
def tollbarlaw01_OctetRows.j0 : Nat → List Int → ByteArray → Int → Int → Int → Bool → Option (Bool)
  | 0, _, _, _, _, _, _ => none
  | k + 1, x0, x1, x2, x3, x4, x31 => if x31 = true then ((tollbarlaw01_alive.f k).bind fun t155 => (some t155)) else ((octet_Row.f k x0).bind fun t156 => ((octet_GetRow.f k x1 x2).bind fun bt157 => ((tollbarref01_GetRow.f k x1 (mn x2 (wrap64 ((x1.size : Int) + 1)))).bind fun bt162 => (if t156.size + x1.size ≤ 9223372036854775807 then ((octet_GetRow.f k (t156 ++ x1) (x0.length : Int)).bind fun bt167 => ((tollbarref01_Row.f k x0).bind fun t172 => (if t156.toList = t172.toList then ((tollbarref01_Same.f k bt157.1 bt162.1).bind fun t173 => (if t173 = true then (if bt157.2.1.toList = bt162.2.1.toList then (if bt157.2.2 = bt162.2.2 then ((tollbarref01_Same.f k bt167.1 x0).bind fun t174 => (if t174 = true then (if bt167.2.1.toList = x1.toList then (tollbarlaw01_OctetRows.j1 k x3 x4 (bt167.2.2 != 0)) else (tollbarlaw01_OctetRows.j1 k x3 x4 true)) else (tollbarlaw01_OctetRows.j1 k x3 x4 true))) else (tollbarlaw01_OctetRows.j1 k x3 x4 true)) else (tollbarlaw01_OctetRows.j1 k x3 x4 true)) else (tollbarlaw01_OctetRows.j1 k x3 x4 true))) else (tollbarlaw01_OctetRows.j1 k x3 x4 true)))) else (none)))))
def tollbarlaw01_OctetRows.j1 : Nat → Int → Int → Bool → Option (Bool)
  | 0, _, _, _ => none
  | k + 1, x3, x4, x98 => if x98 = true then (some false) else ((octet_Num.f k x3).bind fun t175 => ((octet_Num.f k x4).bind fun t176 => (if (t175.size : Int) ≤ (t176.size : Int) then (if 0 ≤ (t175.size : Int) then (if (((t176.extract 0 ((t175.size : Int) : Int).toNat).toList == t175.toList) == (x3 == x4)) = true then ((tollbarlaw01_alive.f k).bind fun t177 => (some t177)) else (some false)) else (none)) else (if (false == (x3 == x4)) = true then ((tollbarlaw01_alive.f k).bind fun t178 => (some t178)) else (some false)))))
end
def tollbarlaw01_OctetRows.f (k : Nat) (l0 : List Int) (a1 : ByteArray) (a2 : Int) (a3 : Int) (a4 : Int) : Option (Bool) := if (l0.length : Int) > 200 then (tollbarlaw01_OctetRows.j0 k l0 a1 a2 a3 a4 true) else (tollbarlaw01_OctetRows.j0 k l0 a1 a2 a3 a4 (decide ((a1.size : Int) > 4096)))
theorem tollbarlaw01_OctetRows.mono_l : ∀ k, (∀ y0 y1 y2 y3 y4 y5, LeO (tollbarlaw01_OctetRows.j0 k y0 y1 y2 y3 y4 y5) (tollbarlaw01_OctetRows.j0 (k + 1) y0 y1 y2 y3 y4 y5)) ∧ (∀ y0 y1 y2, LeO (tollbarlaw01_OctetRows.j1 k y0 y1 y2) (tollbarlaw01_OctetRows.j1 (k + 1) y0 y1 y2))
  | 0 => ⟨fun _ _ _ _ _ _ r h => by simp [tollbarlaw01_OctetRows.j0] at h, fun _ _ _ r h => by simp [tollbarlaw01_OctetRows.j1] at h⟩
  | k + 1 => by
    obtain ⟨ih0, ih1⟩ := tollbarlaw01_OctetRows.mono_l k
    refine ⟨?_, ?_⟩
    · intro y0 y1 y2 y3 y4 y5
      unfold tollbarlaw01_OctetRows.j0
      repeat' first
      | (with_reducible exact ih0 _ _ _ _ _ _)
      | (with_reducible exact ih1 _ _ _)
      | (with_reducible exact octet_GetRow.mono _ _ _)
      | (with_reducible exact octet_Num.mono _ _)
      | (with_reducible exact octet_Row.mono _ _)
      | (with_reducible exact tollbarlaw01_alive.mono _)
      | (with_reducible exact tollbarref01_GetRow.mono _ _ _)
      | (with_reducible exact tollbarref01_Row.mono _ _)
      | (with_reducible exact tollbarref01_Same.mono _ _ _)
      | (with_reducible exact LeO.refl _)
      | (with_reducible exact LeO.none _)
      | (with_reducible refine LeO.ite ?_ ?_)
      | (with_reducible refine LeO.bind ?_ (fun _ => ?_))
      | exact ih0 _ _ _ _ _ _
      | exact ih1 _ _ _
      | exact octet_GetRow.mono _ _ _
      | exact octet_Num.mono _ _
      | exact octet_Row.mono _ _
      | exact tollbarlaw01_alive.mono _
      | exact tollbarref01_GetRow.mono _ _ _
      | exact tollbarref01_Row.mono _ _
      | exact tollbarref01_Same.mono _ _ _
      | exact LeO.none _
      | refine LeO.ite ?_ ?_
      | refine LeO.bind ?_ (fun _ => ?_)
    · intro y0 y1 y2
      unfold tollbarlaw01_OctetRows.j1
      repeat' first
      | (with_reducible exact ih0 _ _ _ _ _ _)
      | (with_reducible exact ih1 _ _ _)
      | (with_reducible exact octet_GetRow.mono _ _ _)
      | (with_reducible exact octet_Num.mono _ _)
      | (with_reducible exact octet_Row.mono _ _)
      | (with_reducible exact tollbarlaw01_alive.mono _)
      | (with_reducible exact tollbarref01_GetRow.mono _ _ _)
      | (with_reducible exact tollbarref01_Row.mono _ _)
      | (with_reducible exact tollbarref01_Same.mono _ _ _)
      | (with_reducible exact LeO.refl _)
      | (with_reducible exact LeO.none _)
      | (with_reducible refine LeO.ite ?_ ?_)
      | (with_reducible refine LeO.bind ?_ (fun _ => ?_))
      | exact ih0 _ _ _ _ _ _
      | exact ih1 _ _ _
      | exact octet_GetRow.mono _ _ _
      | exact octet_Num.mono _ _
      | exact octet_Row.mono _ _
      | exact tollbarlaw01_alive.mono _
      | exact tollbarref01_GetRow.mono _ _ _
      | exact tollbarref01_Row.mono _ _
      | exact tollbarref01_Same.mono _ _ _
      | exact LeO.none _
      | refine LeO.ite ?_ ?_
      | refine LeO.bind ?_ (fun _ => ?_)
theorem tollbarlaw01_OctetRows.mono : ∀ a0 a1 a2 a3 a4 k, LeO (tollbarlaw01_OctetRows.f k a0 a1 a2 a3 a4) (tollbarlaw01_OctetRows.f (k + 1) a0 a1 a2 a3 a4) := by
  intro a0 a1 a2 a3 a4 k
  obtain ⟨ih0, ih1⟩ := tollbarlaw01_OctetRows.mono_l k
  unfold tollbarlaw01_OctetRows.f
  repeat' first
      | (with_reducible exact ih0 _ _ _ _ _ _)
      | (with_reducible exact ih1 _ _ _)
      | (with_reducible exact octet_GetRow.mono _ _ _)
      | (with_reducible exact octet_Num.mono _ _)
      | (with_reducible exact octet_Row.mono _ _)
      | (with_reducible exact tollbarlaw01_alive.mono _)
      | (with_reducible exact tollbarref01_GetRow.mono _ _ _)
      | (with_reducible exact tollbarref01_Row.mono _ _)
      | (with_reducible exact tollbarref01_Same.mono _ _ _)
      | (with_reducible exact LeO.refl _)
      | (with_reducible exact LeO.none _)
      | (with_reducible refine LeO.ite ?_ ?_)
      | (with_reducible refine LeO.bind ?_ (fun _ => ?_))
      | exact ih0 _ _ _ _ _ _
      | exact ih1 _ _ _
      | exact octet_GetRow.mono _ _ _
      | exact octet_Num.mono _ _
      | exact octet_Row.mono _ _
      | exact tollbarlaw01_alive.mono _
      | exact tollbarref01_GetRow.mono _ _ _
      | exact tollbarref01_Row.mono _ _
      | exact tollbarref01_Same.mono _ _ _
      | exact LeO.none _
      | refine LeO.ite ?_ ?_
      | refine LeO.bind ?_ (fun _ => ?_)
set_option maxHeartbeats 8000000 in
set_option maxRecDepth 100000 in
theorem tollbarlaw01_OctetRows.calls (k : Nat) (A0 : Option Addr) (c0 : Nat) (l0 : List Int) (a1 : ByteArray) (a2 : Int) (a3 : Int) (a4 : Int) (r : Bool) (w : World) (hr0 : Kd.C (Kd.int .u64) w A0 l0.length l0) (hc0 : l0.length ≤ c0) (hL : l0.length * 8 ≤ 140737488351232) (h : tollbarlaw01_OctetRows.f k l0 a1 a2 a3 a4 = some r) :
    Calls Try.prog 5 #[.slice A0 l0.length c0, .string a1, .int .i64 a2, .int .u64 a3, .int .u64 a4] w fun e w' => e = .returned (.bool r) ∧ Below w.heap.size w w' := by
  have HR0 := Aside0.mk hr0
  have HL0 := Aside0.mk hL
  clear hL
  have HC0 := Aside0.mk hc0
  clear hr0 hc0
  have HB := Aside0.mk (Below.refl w.heap.size w)
  have H : (if (l0.length : Int) > 200 then (tollbarlaw01_OctetRows.j0 k l0 a1 a2 a3 a4 true) else (tollbarlaw01_OctetRows.j0 k l0 a1 a2 a3 a4 (decide ((a1.size : Int) > 4096)))) = some r := h
  clear h
  have HC6 := Aside0.mk H
  clear H
  go_enter Try.func5, Try.ntmps5
  go_upto_region 1 with (fail)
  go_cut [31] (fun v31 wc => ∃ (kq : Nat) (x31_5 : Bool), v31 = .bool x31_5 ∧ Aside0 (tollbarlaw01_OctetRows.j0 kq l0 a1 a2 a3 a4 x31_5 = some r) ∧ Aside0 (kq ≤ k) ∧ Aside0 (Below w.heap.size w wc))
  case first =>
    have H := HC6.out
    clear HC6
    by_cases c7 : (l0.length : Int) > 200
    · rw [if_pos c7] at H
      have c7b0 : decide (200 < (l0.length : Int)) = true := decide_eq_true c7
      have c7b1 : decide (200 < l0.length) = true := decide_eq_true (by omega)
      clear c7
      (first | rw [c7b0] | (simp only [i64_w, i32_w]; rw [c7b0]) | skip)
      have H' := Aside0.mk H
      clear H
      go_wp2
      go_meet
      case rel => exact ⟨_, (true), (by first | rfl | (simp; done) | (simp [*]; done)), H', ⟨by first | omega | exact Nat.le_refl _⟩, ⟨by repeat (first | (with_reducible first | exact HB.out | apply below_alloc | apply pw_below_drewN | apply below_drew1) | exact HB.out)⟩⟩
    · rw [if_neg c7] at H
      have c7b0 : decide (200 < (l0.length : Int)) = false := decide_eq_false c7
      have c7b1 : decide (200 < l0.length) = false := decide_eq_false (by omega)
      clear c7
      (first | rw [c7b0] | (simp only [i64_w, i32_w]; rw [c7b0]) | skip)
      have H' := Aside0.mk H
      clear H
      go_wp2
      go_meet
      case rel => exact ⟨_, (decide ((a1.size : Int) > 4096)), (by first | rfl | (simp; done) | (simp [*]; done)), H', ⟨by first | omega | exact Nat.le_refl _⟩, ⟨by repeat (first | (with_reducible first | exact HB.out | apply below_alloc | apply pw_below_drewN | apply below_drew1) | exact HB.out)⟩⟩
  case rest =>
    clear HC6
    try clear p2
    try clear c5
    try clear c7
    try clear c7b0
    try clear c7b1
    obtain ⟨kq, x31_5, rfl, HA, HJ5, HB⟩ := hcut
    cases kq with
    | zero => exact absurd HA.out (by simp [tollbarlaw01_OctetRows.j0])
    | succ kj5 =>
      have H := HA.out
      clear HA
      simp only [tollbarlaw01_OctetRows.j0] at H
      by_cases c8 : x31_5 = true
      · subst c8
        have H1 : ((tollbarlaw01_alive.f kj5).bind fun t155 => (some t155)) = some r := by rw [if_pos rfl] at H; exact H
        clear H
        have H := H1
        clear H1
        replace H := Option.bind_eq_some_iff.mp H
        obtain ⟨t155, A90, H⟩ := H
        replace H : (some t155) = some r := H
        have A9 := Aside0.mk A90
        clear A90
        obtain rfl := Option.some.inj H
        go_wp2_with (first | ((with_reducible refine gate_callee (f := 8) rfl ?_); refine goesL_ (some 32) rfl rfl Try.func8 (by kernel_rfl) rfl #[] rfl (by (try simp only [List.map_toArray, List.map_cons, List.map_nil]); first | done | rfl | (simp only [List.length_drop, List.length_take]; rfl)) ?_; (with_reducible refine (tollbarlaw01_alive.calls kj5  t155 _ A9.out).mono ?_); rintro e w10 ⟨rfl, hb⟩; refine ⟨_, rfl, ?_⟩; have n0_ := Aside0.mk (below_step (by repeat (first | (with_reducible first | exact HB.out | apply below_alloc | apply pw_below_drewN | apply below_drew1) | exact HB.out)) hb); clear HB; have HB := n0_; clear n0_; (try clear hb); (try clear hb2); (try clear hk); (try clear hi)))
        go_ret
        exact ⟨by first | rfl | (simp [errW_none, errW_some] <;> rfl) | (simp [*, errW_none, errW_some] <;> rfl), by repeat (first | (with_reducible first | exact HB.out | apply below_alloc | apply pw_below_drewN | apply below_drew1) | exact HB.out)⟩
      · replace c8 := Bool.eq_false_iff.mpr c8
        subst c8
        have H1 : ((octet_Row.f kj5 l0).bind fun t156 => ((octet_GetRow.f kj5 a1 a2).bind fun bt157 => ((tollbarref01_GetRow.f kj5 a1 (mn a2 (wrap64 ((a1.size : Int) + 1)))).bind fun bt162 => (if t156.size + a1.size ≤ 9223372036854775807 then ((octet_GetRow.f kj5 (t156 ++ a1) (l0.length : Int)).bind fun bt167 => ((tollbarref01_Row.f kj5 l0).bind fun t172 => (if t156.toList = t172.toList then ((tollbarref01_Same.f kj5 bt157.1 bt162.1).bind fun t173 => (if t173 = true then (if bt157.2.1.toList = bt162.2.1.toList then (if bt157.2.2 = bt162.2.2 then ((tollbarref01_Same.f kj5 bt167.1 l0).bind fun t174 => (if t174 = true then (if bt167.2.1.toList = a1.toList then (tollbarlaw01_OctetRows.j1 kj5 a3 a4 (bt167.2.2 != 0)) else (tollbarlaw01_OctetRows.j1 kj5 a3 a4 true)) else (tollbarlaw01_OctetRows.j1 kj5 a3 a4 true))) else (tollbarlaw01_OctetRows.j1 kj5 a3 a4 true)) else (tollbarlaw01_OctetRows.j1 kj5 a3 a4 true)) else (tollbarlaw01_OctetRows.j1 kj5 a3 a4 true))) else (tollbarlaw01_OctetRows.j1 kj5 a3 a4 true)))) else (none))))) = some r := by rw [if_neg (show ¬ (false = true) by decide)] at H; exact H
        clear H
        have H := H1
        clear H1
        replace H := Option.bind_eq_some_iff.mp H
        obtain ⟨t156, A110, H⟩ := H
        replace H : ((octet_GetRow.f kj5 a1 a2).bind fun bt157 => ((tollbarref01_GetRow.f kj5 a1 (mn a2 (wrap64 ((a1.size : Int) + 1)))).bind fun bt162 => (if t156.size + a1.size ≤ 9223372036854775807 then ((octet_GetRow.f kj5 (t156 ++ a1) (l0.length : Int)).bind fun bt167 => ((tollbarref01_Row.f kj5 l0).bind fun t172 => (if t156.toList = t172.toList then ((tollbarref01_Same.f kj5 bt157.1 bt162.1).bind fun t173 => (if t173 = true then (if bt157.2.1.toList = bt162.2.1.toList then (if bt157.2.2 = bt162.2.2 then ((tollbarref01_Same.f kj5 bt167.1 l0).bind fun t174 => (if t174 = true then (if bt167.2.1.toList = a1.toList then (tollbarlaw01_OctetRows.j1 kj5 a3 a4 (bt167.2.2 != 0)) else (tollbarlaw01_OctetRows.j1 kj5 a3 a4 true)) else (tollbarlaw01_OctetRows.j1 kj5 a3 a4 true))) else (tollbarlaw01_OctetRows.j1 kj5 a3 a4 true)) else (tollbarlaw01_OctetRows.j1 kj5 a3 a4 true)) else (tollbarlaw01_OctetRows.j1 kj5 a3 a4 true))) else (tollbarlaw01_OctetRows.j1 kj5 a3 a4 true)))) else (none)))) = some r := H
        have A11 := Aside0.mk A110
        clear A110
        replace H := Option.bind_eq_some_iff.mp H
        obtain ⟨⟨t157, t158, t159⟩, A120, H⟩ := H
        replace H : ((tollbarref01_GetRow.f kj5 a1 (mn a2 (wrap64 ((a1.size : Int) + 1)))).bind fun bt162 => (if t156.size + a1.size ≤ 9223372036854775807 then ((octet_GetRow.f kj5 (t156 ++ a1) (l0.length : Int)).bind fun bt167 => ((tollbarref01_Row.f kj5 l0).bind fun t172 => (if t156.toList = t172.toList then ((tollbarref01_Same.f kj5 t157 bt162.1).bind fun t173 => (if t173 = true then (if t158.toList = bt162.2.1.toList then (if t159 = bt162.2.2 then ((tollbarref01_Same.f kj5 bt167.1 l0).bind fun t174 => (if t174 = true then (if bt167.2.1.toList = a1.toList then (tollbarlaw01_OctetRows.j1 kj5 a3 a4 (bt167.2.2 != 0)) else (tollbarlaw01_OctetRows.j1 kj5 a3 a4 true)) else (tollbarlaw01_OctetRows.j1 kj5 a3 a4 true))) else (tollbarlaw01_OctetRows.j1 kj5 a3 a4 true)) else (tollbarlaw01_OctetRows.j1 kj5 a3 a4 true)) else (tollbarlaw01_OctetRows.j1 kj5 a3 a4 true))) else (tollbarlaw01_OctetRows.j1 kj5 a3 a4 true)))) else (none))) = some r := H
        have A12 := Aside0.mk A120
        clear A120
        obtain ⟨ji13, hji13⟩ : ∃ j_ : Int, (mn a2 (wrap64 ((a1.size : Int) + 1))) = j_ := ⟨_, rfl⟩
        replace H : ((tollbarref01_GetRow.f kj5 a1 (ji13)).bind fun bt162 => (if t156.size + a1.size ≤ 9223372036854775807 then ((octet_GetRow.f kj5 (t156 ++ a1) (l0.length : Int)).bind fun bt167 => ((tollbarref01_Row.f kj5 l0).bind fun t172 => (if t156.toList = t172.toList then ((tollbarref01_Same.f kj5 t157 bt162.1).bind fun t173 => (if t173 = true then (if t158.toList = bt162.2.1.toList then (if t159 = bt162.2.2 then ((tollbarref01_Same.f kj5 bt167.1 l0).bind fun t174 => (if t174 = true then (if bt167.2.1.toList = a1.toList then (tollbarlaw01_OctetRows.j1 kj5 a3 a4 (bt167.2.2 != 0)) else (tollbarlaw01_OctetRows.j1 kj5 a3 a4 true)) else (tollbarlaw01_OctetRows.j1 kj5 a3 a4 true))) else (tollbarlaw01_OctetRows.j1 kj5 a3 a4 true)) else (tollbarlaw01_OctetRows.j1 kj5 a3 a4 true)) else (tollbarlaw01_OctetRows.j1 kj5 a3 a4 true))) else (tollbarlaw01_OctetRows.j1 kj5 a3 a4 true)))) else (none))) = some r := by first | (rw [hji13] at H; exact H) | (simp only [hji13] at H ⊢; exact H)
        (try rw [hji13] at A11)
        (try rw [hji13] at A12)
        have hji13_ : (if (wrap64 ((a1.size : Int) + 1)) < a2 then (wrap64 ((a1.size : Int) + 1)) else a2) = ji13 := hji13
        replace H := Option.bind_eq_some_iff.mp H
        obtain ⟨⟨t162, t163, t164⟩, A140, H⟩ := H
        replace H : (if t156.size + a1.size ≤ 9223372036854775807 then ((octet_GetRow.f kj5 (t156 ++ a1) (l0.length : Int)).bind fun bt167 => ((tollbarref01_Row.f kj5 l0).bind fun t172 => (if t156.toList = t172.toList then ((tollbarref01_Same.f kj5 t157 t162).bind fun t173 => (if t173 = true then (if t158.toList = t163.toList then (if t159 = t164 then ((tollbarref01_Same.f kj5 bt167.1 l0).bind fun t174 => (if t174 = true then (if bt167.2.1.toList = a1.toList then (tollbarlaw01_OctetRows.j1 kj5 a3 a4 (bt167.2.2 != 0)) else (tollbarlaw01_OctetRows.j1 kj5 a3 a4 true)) else (tollbarlaw01_OctetRows.j1 kj5 a3 a4 true))) else (tollbarlaw01_OctetRows.j1 kj5 a3 a4 true)) else (tollbarlaw01_OctetRows.j1 kj5 a3 a4 true)) else (tollbarlaw01_OctetRows.j1 kj5 a3 a4 true))) else (tollbarlaw01_OctetRows.j1 kj5 a3 a4 true)))) else (none)) = some r := H
        have A14 := Aside0.mk A140
        clear A140
        by_cases c15 : t156.size + a1.size ≤ 9223372036854775807
        · rw [if_pos c15] at H
          have c15b0 := eq_true c15
          have c15b1 : decide (t156.size + a1.size ≤ 9223372036854775807) = true := decide_eq_true c15
          try have c15b2 : (9223372036854775807 < t156.size + a1.size) = False := eq_false (Nat.not_lt.2 c15)
          replace H := Option.bind_eq_some_iff.mp H
          obtain ⟨⟨t167, t168, t169⟩, A160, H⟩ := H
          replace H : ((tollbarref01_Row.f kj5 l0).bind fun t172 => (if t156.toList = t172.toList then ((tollbarref01_Same.f kj5 t157 t162).bind fun t173 => (if t173 = true then (if t158.toList = t163.toList then (if t159 = t164 then ((tollbarref01_Same.f kj5 t167 l0).bind fun t174 => (if t174 = true then (if t168.toList = a1.toList then (tollbarlaw01_OctetRows.j1 kj5 a3 a4 (t169 != 0)) else (tollbarlaw01_OctetRows.j1 kj5 a3 a4 true)) else (tollbarlaw01_OctetRows.j1 kj5 a3 a4 true))) else (tollbarlaw01_OctetRows.j1 kj5 a3 a4 true)) else (tollbarlaw01_OctetRows.j1 kj5 a3 a4 true)) else (tollbarlaw01_OctetRows.j1 kj5 a3 a4 true))) else (tollbarlaw01_OctetRows.j1 kj5 a3 a4 true))) = some r := H
          have A16 := Aside0.mk A160
          clear A160
          have HC17 := Aside0.mk H
          clear H
          go_upto_region 7 with (first | ((with_reducible refine gate_builtin (b := .append) (xs := #[.const (.slice none 0 0), .tmp 33]) rfl ?_); at_builtin; refine Kd.R_append_row (Value.int .u64) (0 : Int) (h1 := fun _ => rfl) (w0 := w) w.heap.size rfl (.const (.slice none 0 0)) (.tmp 33) 33 22 (.int .u64 0) 8 rfl Try.underlying33 info22 rfl (by decide) (.slice none 0 0) [] l0 A0 l0.length c0 (fun _ => True) rfl rfl (fun _ _ => trivial) (Kd.R_nil (Kd.int .u64) 22 _ _ _) ?aC ?aB ?aS ?aL ?_; (case aC => exact (by repeat (first | exact (Kd.C_below HR0.out HB.out) | (with_reducible refine Kd.C_alloc ?_ _) | (with_reducible refine Kd.C_drewN ?_ _) | (with_reducible refine Kd.C_drew ?_)))); (case aB => exact (by repeat (first | (with_reducible first | exact HB.out | apply below_alloc | apply pw_below_drewN | apply below_drew1) | exact HB.out))); (case aS => exact (below_size (by repeat (first | (with_reducible first | exact HB.out | apply below_alloc | apply pw_below_drewN | apply below_drew1) | exact HB.out)))); (case aL => have := HL0.out; simp only [List.length_nil]; omega); intro v300 w300 ho300 hb300 hg300 hat300; obtain ⟨A301, c301, rfl, hc301, hC301⟩ := Kd.R_reads ho300; rw [List.nil_append] at hc301 hC301; simp only [List.nil_append]; have HCC301 := Aside0.mk hC301; have HCc301 := Aside0.mk hc301; have n0_ := Aside0.mk hb300; clear HB; have HB := n0_; clear n0_; clear ho300 hb300 hg300 hat300 hc301 hC301) | ((with_reducible refine gate_callee (f := 17) rfl ?_); refine goesL_ (some 35) rfl rfl Try.func17 (by kernel_rfl) rfl #[.slice A301 l0.length c301] rfl (by (try simp only [List.map_toArray, List.map_cons, List.map_nil]); first | done | rfl | (simp only [List.length_drop, List.length_take]; rfl)) ?_; (with_reducible refine (octet_Row.calls kj5 _ _ l0 t156 _ ?side1 ?side2 A11.out).mono ?_); (case side1 => repeat (first | exact HCC301.out | (with_reducible refine Kd.C_alloc ?_ _) | (with_reducible refine Kd.C_drewN ?_ _) | (with_reducible refine Kd.C_drew ?_))); (case side2 => exact HCc301.out); rintro e w18 ⟨rfl, hb⟩; refine ⟨_, rfl, ?_⟩; have n0_ := Aside0.mk (below_step (by repeat (first | (with_reducible first | exact HB.out | apply below_alloc | apply pw_below_drewN | apply below_drew1) | exact HB.out)) hb); clear HB; have HB := n0_; clear n0_; (try clear hb); (try clear hb2); (try clear hk); (try clear hi)) | ((with_reducible refine gate_callee (f := 18) rfl ?_); refine goesL_ (some 39) rfl rfl Try.func18 (by kernel_rfl) rfl #[.string a1, .int .i64 a2] rfl (by (try simp only [List.map_toArray, List.map_cons, List.map_nil]); first | done | rfl | (simp only [List.length_drop, List.length_take]; rfl)) ?_; (with_reducible refine (octet_GetRow.calls kj5 a1 a2 t157 t158 t159 _ A12.out).mono ?_); rintro e w19 ⟨v160, rfl, ho0, hb⟩; refine ⟨_, rfl, ?_⟩; have n0_ := Aside0.mk (Kd.R_lower ho0 (below_size (by repeat (first | (with_reducible first | exact HB.out | apply below_alloc | apply pw_below_drewN | apply below_drew1) | exact HB.out)))); have n1_ := Aside0.mk (below_step (by repeat (first | (with_reducible first | exact HB.out | apply below_alloc | apply pw_below_drewN | apply below_drew1) | exact HB.out)) hb); clear HB; have HO161 := n0_; have HB := n1_; clear n0_ n1_; (try clear hb); (try clear hb2); (try clear hk); (try clear hi); (try clear ho0)) | ((with_reducible refine gate_callee (f := 19) rfl ?_); refine goesL_ (some 50) rfl rfl Try.func19 (by kernel_rfl) rfl #[.string a1, .int .i64 ji13] rfl (by (try simp only [List.map_toArray, List.map_cons, List.map_nil]); first | done | (simp only [hji13]; rfl) | rfl | (simp only [List.length_drop, List.length_take]; rfl)) ?_; (with_reducible refine (tollbarref01_GetRow.calls kj5 a1 ji13 t162 t163 t164 _ A14.out).mono ?_); rintro e w20 ⟨v165, rfl, ho0, hb⟩; refine ⟨_, rfl, ?_⟩; have n0_ := Aside0.mk (Kd.R_elder' (by (with_reducible repeat (first | apply Kd.R_alloc | apply Kd.R_drewN | apply Kd.R_drew)); exact HO161.out) (Kd.R_base ho0) hb); have n1_ := Aside0.mk (Kd.R_lower (Kd.R_new' ho0 (Kd.R_lt (by (with_reducible repeat (first | apply Kd.R_alloc | apply Kd.R_drewN | apply Kd.R_drew)); exact HO161.out))) (below_size (by repeat (first | (with_reducible first | exact HB.out | apply below_alloc | apply pw_below_drewN | apply below_drew1) | exact HB.out)))); have n2_ := Aside0.mk (below_step (by repeat (first | (with_reducible first | exact HB.out | apply below_alloc | apply pw_below_drewN | apply below_drew1) | exact HB.out)) hb); clear HO161; clear HB; have HO161 := n0_; have HO166 := n1_; have HB := n2_; clear n0_ n1_ n2_; (try clear hb); (try clear hb2); (try clear hk); (try clear hi); (try clear ho0)) | ((with_reducible refine gate_callee (f := 18) rfl ?_); refine goesL_ (some 60) rfl rfl Try.func18 (by kernel_rfl) rfl #[.string (t156 ++ a1), .int .i64 (l0.length : Int)] rfl (by (try simp only [List.map_toArray, List.map_cons, List.map_nil]); first | done | rfl | (simp only [List.length_drop, List.length_take]; rfl)) ?_; (with_reducible refine (octet_GetRow.calls kj5 (t156 ++ a1) (l0.length : Int) t167 t168 t169 _ A16.out).mono ?_); rintro e w21 ⟨v170, rfl, ho0, hb⟩; refine ⟨_, rfl, ?_⟩; have n0_ := Aside0.mk (Kd.R_elder' (by (with_reducible repeat (first | apply Kd.R_alloc | apply Kd.R_drewN | apply Kd.R_drew)); exact HO161.out) (Kd.R_base ho0) hb); have n1_ := Aside0.mk (Kd.R_elder' (by (with_reducible repeat (first | apply Kd.R_alloc | apply Kd.R_drewN | apply Kd.R_drew)); exact HO166.out) (Kd.R_base ho0) hb); have n2_ := Aside0.mk (Kd.R_lower (Kd.R_new' (Kd.R_new' ho0 (Kd.R_lt (by (with_reducible repeat (first | apply Kd.R_alloc | apply Kd.R_drewN | apply Kd.R_drew)); exact HO161.out))) (Kd.R_lt (by (with_reducible repeat (first | apply Kd.R_alloc | apply Kd.R_drewN | apply Kd.R_drew)); exact HO166.out))) (below_size (by repeat (first | (with_reducible first | exact HB.out | apply below_alloc | apply pw_below_drewN | apply below_drew1) | exact HB.out)))); have n3_ := Aside0.mk (below_step (by repeat (first | (with_reducible first | exact HB.out | apply below_alloc | apply pw_below_drewN | apply below_drew1) | exact HB.out)) hb); clear HO161; clear HO166; clear HB; have HO161 := n0_; have HO166 := n1_; have HO171 := n2_; have HB := n3_; clear n0_ n1_ n2_ n3_; (try clear hb); (try clear hb2); (try clear hk); (try clear hi); (try clear ho0)))
          (try simp only [Act.put, List.setIfInBounds_toArray, List.set_cons_zero, List.set_cons_succ])
          go_cut [98] (fun v98 wc => ∃ (kq : Nat) (x98_16 : Bool), v98 = .bool x98_16 ∧ Aside0 (tollbarlaw01_OctetRows.j1 kq a3 a4 x98_16 = some r) ∧ Aside0 (kq ≤ kj5) ∧ Aside0 (Below w.heap.size w wc))
          case first =>
            have H := HC17.out
            clear HC17
            replace H := Option.bind_eq_some_iff.mp H
            obtain ⟨t172, A220, H⟩ := H
            replace H : (if t156.toList = t172.toList then ((tollbarref01_Same.f kj5 t157 t162).bind fun t173 => (if t173 = true then (if t158.toList = t163.toList then (if t159 = t164 then ((tollbarref01_Same.f kj5 t167 l0).bind fun t174 => (if t174 = true then (if t168.toList = a1.toList then (tollbarlaw01_OctetRows.j1 kj5 a3 a4 (t169 != 0)) else (tollbarlaw01_OctetRows.j1 kj5 a3 a4 true)) else (tollbarlaw01_OctetRows.j1 kj5 a3 a4 true))) else (tollbarlaw01_OctetRows.j1 kj5 a3 a4 true)) else (tollbarlaw01_OctetRows.j1 kj5 a3 a4 true)) else (tollbarlaw01_OctetRows.j1 kj5 a3 a4 true))) else (tollbarlaw01_OctetRows.j1 kj5 a3 a4 true)) = some r := H
            have A22 := Aside0.mk A220
            clear A220
            by_cases c23 : t156.toList = t172.toList
            · rw [if_pos c23] at H
              have c23b0 : (t156.toList == t172.toList) = true := beq_iff_eq.mpr c23
              have c23b1 : (t156.toList != t172.toList) = false := bne_eq_false_iff_eq.mpr c23
              clear c23
              (first | rw [c23b0] | (simp only [i64_w, i32_w]; rw [c23b0]) | skip)
              replace H := Option.bind_eq_some_iff.mp H
              obtain ⟨t173, A240, H⟩ := H
              replace H : (if t173 = true then (if t158.toList = t163.toList then (if t159 = t164 then ((tollbarref01_Same.f kj5 t167 l0).bind fun t174 => (if t174 = true then (if t168.toList = a1.toList then (tollbarlaw01_OctetRows.j1 kj5 a3 a4 (t169 != 0)) else (tollbarlaw01_OctetRows.j1 kj5 a3 a4 true)) else (tollbarlaw01_OctetRows.j1 kj5 a3 a4 true))) else (tollbarlaw01_OctetRows.j1 kj5 a3 a4 true)) else (tollbarlaw01_OctetRows.j1 kj5 a3 a4 true)) else (tollbarlaw01_OctetRows.j1 kj5 a3 a4 true)) = some r := H
              have A24 := Aside0.mk A240
              clear A240
              by_cases c25 : t173 = true
              · subst c25
                have H1 : (if t158.toList = t163.toList then (if t159 = t164 then ((tollbarref01_Same.f kj5 t167 l0).bind fun t174 => (if t174 = true then (if t168.toList = a1.toList then (tollbarlaw01_OctetRows.j1 kj5 a3 a4 (t169 != 0)) else (tollbarlaw01_OctetRows.j1 kj5 a3 a4 true)) else (tollbarlaw01_OctetRows.j1 kj5 a3 a4 true))) else (tollbarlaw01_OctetRows.j1 kj5 a3 a4 true)) else (tollbarlaw01_OctetRows.j1 kj5 a3 a4 true)) = some r := by rw [if_pos rfl] at H; exact H
                clear H
                have H := H1
                clear H1
                by_cases c26 : t158.toList = t163.toList
                · rw [if_pos c26] at H
                  have c26b0 : (t158.toList == t163.toList) = true := beq_iff_eq.mpr c26
                  have c26b1 : (t158.toList != t163.toList) = false := bne_eq_false_iff_eq.mpr c26
                  clear c26
                  by_cases c27 : t159 = t164
                  · rw [if_pos c27] at H
                    have c27b0 : (t159 == t164) = true := beq_iff_eq.mpr c27
                    have c27b1 : (t159 != t164) = false := bne_eq_false_iff_eq.mpr c27
                    clear c27
                    replace H := Option.bind_eq_some_iff.mp H
                    obtain ⟨t174, A280, H⟩ := H
                    replace H : (if t174 = true then (if t168.toList = a1.toList then (tollbarlaw01_OctetRows.j1 kj5 a3 a4 (t169 != 0)) else (tollbarlaw01_OctetRows.j1 kj5 a3 a4 true)) else (tollbarlaw01_OctetRows.j1 kj5 a3 a4 true)) = some r := H
                    have A28 := Aside0.mk A280
                    clear A280
                    by_cases c29 : t174 = true
                    · subst c29
                      have H1 : (if t168.toList = a1.toList then (tollbarlaw01_OctetRows.j1 kj5 a3 a4 (t169 != 0)) else (tollbarlaw01_OctetRows.j1 kj5 a3 a4 true)) = some r := by rw [if_pos rfl] at H; exact H
                      clear H
                      have H := H1
                      clear H1
                      by_cases c30 : t168.toList = a1.toList
                      · rw [if_pos c30] at H
                        have c30b0 : (t168.toList == a1.toList) = true := beq_iff_eq.mpr c30
                        have c30b1 : (t168.toList != a1.toList) = false := bne_eq_false_iff_eq.mpr c30
                        clear c30
                        have H' := Aside0.mk H
                        clear H
                        go_wp2_with (first | ((with_reducible refine gate_callee (f := 20) rfl ?_); refine goesL_ (some 66) rfl rfl Try.func20 (by kernel_rfl) rfl #[.slice A0 l0.length c0] rfl (by (try simp only [List.map_toArray, List.map_cons, List.map_nil]); first | done | rfl | (simp only [List.length_drop, List.length_take]; rfl)) ?_; (with_reducible refine (tollbarref01_Row.calls kj5 _ _ l0 t172 _ ?side1 ?side2 A22.out).mono ?_); (case side1 => repeat (first | exact (Kd.C_below HR0.out HB.out) | (with_reducible refine Kd.C_alloc ?_ _) | (with_reducible refine Kd.C_drewN ?_ _) | (with_reducible refine Kd.C_drew ?_))); (case side2 => exact HC0.out); rintro e w31 ⟨rfl, hb⟩; refine ⟨_, rfl, ?_⟩; have n0_ := Aside0.mk (Kd.R_below (by (with_reducible repeat (first | apply Kd.R_alloc | apply Kd.R_drewN | apply Kd.R_drew)); exact HO161.out) hb); have n1_ := Aside0.mk (Kd.R_below (by (with_reducible repeat (first | apply Kd.R_alloc | apply Kd.R_drewN | apply Kd.R_drew)); exact HO166.out) hb); have n2_ := Aside0.mk (Kd.R_below (by (with_reducible repeat (first | apply Kd.R_alloc | apply Kd.R_drewN | apply Kd.R_drew)); exact HO171.out) hb); have n3_ := Aside0.mk (below_step (by repeat (first | (with_reducible first | exact HB.out | apply below_alloc | apply pw_below_drewN | apply below_drew1) | exact HB.out)) hb); clear HO161; clear HO166; clear HO171; clear HB; have HO161 := n0_; have HO166 := n1_; have HO171 := n2_; have HB := n3_; clear n0_ n1_ n2_ n3_; (try clear hb); (try clear hb2); (try clear hk); (try clear hi); obtain ⟨Ao32, co32, eo32⟩ := Kd.R_slice HO161.out; subst eo32; obtain ⟨Ao33, co33, eo33⟩ := Kd.R_slice HO166.out; subst eo33) | (go_at_call 21; (with_reducible refine (tollbarref01_Same.calls kj5 _ _ t157 _ _ t162 true _ ?side1 ?side2 ?side3 ?side4 A24.out).mono ?_); (case side1 => repeat (first | exact (Kd.R_reads' HO161.out).2.2 | (with_reducible refine Kd.C_alloc ?_ _) | (with_reducible refine Kd.C_drewN ?_ _) | (with_reducible refine Kd.C_drew ?_))); (case side2 => exact (Kd.R_reads' HO161.out).2.1); (case side3 => repeat (first | exact (Kd.R_reads' HO166.out).2.2 | (with_reducible refine Kd.C_alloc ?_ _) | (with_reducible refine Kd.C_drewN ?_ _) | (with_reducible refine Kd.C_drew ?_))); (case side4 => exact (Kd.R_reads' HO166.out).2.1); rintro e w' ⟨rfl, ⟨nd, rfl⟩⟩; obtain ⟨Ao34, co34, eo34⟩ := Kd.R_slice HO171.out; subst eo34) | (go_at_call 21; (with_reducible refine (tollbarref01_Same.calls kj5 _ _ t167 _ _ l0 true _ ?side1 ?side2 ?side3 ?side4 A28.out).mono ?_); (case side1 => repeat (first | exact (Kd.R_reads' HO171.out).2.2 | (with_reducible refine Kd.C_alloc ?_ _) | (with_reducible refine Kd.C_drewN ?_ _) | (with_reducible refine Kd.C_drew ?_))); (case side2 => exact (Kd.R_reads' HO171.out).2.1); (case side3 => repeat (first | exact (Kd.C_below HR0.out (by repeat (first | (with_reducible first | exact HB.out | apply below_alloc | apply pw_below_drewN | apply below_drew1) | exact HB.out))) | (with_reducible refine Kd.C_alloc ?_ _) | (with_reducible refine Kd.C_drewN ?_ _) | (with_reducible refine Kd.C_drew ?_))); (case side4 => exact HC0.out); rintro e w' ⟨rfl, ⟨nd, rfl⟩⟩))
                        go_meet
                        case rel => exact ⟨_, ((t169 != 0)), (by first | rfl | (simp; done) | (simp [*]; done)), H', ⟨by have := HJ5.out; first | omega | exact Nat.le_refl _⟩, ⟨by repeat (first | (with_reducible first | exact HB.out | apply below_alloc | apply pw_below_drewN | apply below_drew1) | exact HB.out)⟩⟩
                      · rw [if_neg c30] at H
                        have c30b0 : (t168.toList == a1.toList) = false := beq_eq_false_iff_ne.mpr c30
                        have c30b1 : (t168.toList != a1.toList) = true := bne_iff_ne.mpr c30
                        have H' := Aside0.mk H
                        clear H
                        go_wp2_with (first | ((with_reducible refine gate_callee (f := 20) rfl ?_); refine goesL_ (some 66) rfl rfl Try.func20 (by kernel_rfl) rfl #[.slice A0 l0.length c0] rfl (by (try simp only [List.map_toArray, List.map_cons, List.map_nil]); first | done | rfl | (simp only [List.length_drop, List.length_take]; rfl)) ?_; (with_reducible refine (tollbarref01_Row.calls kj5 _ _ l0 t172 _ ?side1 ?side2 A22.out).mono ?_); (case side1 => repeat (first | exact (Kd.C_below HR0.out HB.out) | (with_reducible refine Kd.C_alloc ?_ _) | (with_reducible refine Kd.C_drewN ?_ _) | (with_reducible refine Kd.C_drew ?_))); (case side2 => exact HC0.out); rintro e w35 ⟨rfl, hb⟩; refine ⟨_, rfl, ?_⟩; have n0_ := Aside0.mk (Kd.R_below (by (with_reducible repeat (first | apply Kd.R_alloc | apply Kd.R_drewN | apply Kd.R_drew)); exact HO161.out) hb); have n1_ := Aside0.mk (Kd.R_below (by (with_reducible repeat (first | apply Kd.R_alloc | apply Kd.R_drewN | apply Kd.R_drew)); exact HO166.out) hb); have n2_ := Aside0.mk (Kd.R_below (by (with_reducible repeat (first | apply Kd.R_alloc | apply Kd.R_drewN | apply Kd.R_drew)); exact HO171.out) hb); have n3_ := Aside0.mk (below_step (by repeat (first | (with_reducible first | exact HB.out | apply below_alloc | apply pw_below_drewN | apply below_drew1) | exact HB.out)) hb); clear HO161; clear HO166; clear HO171; clear HB; have HO161 := n0_; have HO166 := n1_; have HO171 := n2_; have HB := n3_; clear n0_ n1_ n2_ n3_; (try clear hb); (try clear hb2); (try clear hk); (try clear hi); obtain ⟨Ao36, co36, eo36⟩ := Kd.R_slice HO161.out; subst eo36; obtain ⟨Ao37, co37, eo37⟩ := Kd.R_slice HO166.out; subst eo37) | (go_at_call 21; (with_reducible refine (tollbarref01_Same.calls kj5 _ _ t157 _ _ t162 true _ ?side1 ?side2 ?side3 ?side4 A24.out).mono ?_); (case side1 => repeat (first | exact (Kd.R_reads' HO161.out).2.2 | (with_reducible refine Kd.C_alloc ?_ _) | (with_reducible refine Kd.C_drewN ?_ _) | (with_reducible refine Kd.C_drew ?_))); (case side2 => exact (Kd.R_reads' HO161.out).2.1); (case side3 => repeat (first | exact (Kd.R_reads' HO166.out).2.2 | (with_reducible refine Kd.C_alloc ?_ _) | (with_reducible refine Kd.C_drewN ?_ _) | (with_reducible refine Kd.C_drew ?_))); (case side4 => exact (Kd.R_reads' HO166.out).2.1); rintro e w' ⟨rfl, ⟨nd, rfl⟩⟩; obtain ⟨Ao38, co38, eo38⟩ := Kd.R_slice HO171.out; subst eo38) | (go_at_call 21; (with_reducible refine (tollbarref01_Same.calls kj5 _ _ t167 _ _ l0 true _ ?side1 ?side2 ?side3 ?side4 A28.out).mono ?_); (case side1 => repeat (first | exact (Kd.R_reads' HO171.out).2.2 | (with_reducible refine Kd.C_alloc ?_ _) | (with_reducible refine Kd.C_drewN ?_ _) | (with_reducible refine Kd.C_drew ?_))); (case side2 => exact (Kd.R_reads' HO171.out).2.1); (case side3 => repeat (first | exact (Kd.C_below HR0.out (by repeat (first | (with_reducible first | exact HB.out | apply below_alloc | apply pw_below_drewN | apply below_drew1) | exact HB.out))) | (with_reducible refine Kd.C_alloc ?_ _) | (with_reducible refine Kd.C_drewN ?_ _) | (with_reducible refine Kd.C_drew ?_))); (case side4 => exact HC0.out); rintro e w' ⟨rfl, ⟨nd, rfl⟩⟩))
                        go_meet
                        case rel => exact ⟨_, (true), (by first | rfl | (simp; done) | (simp [*]; done)), H', ⟨by have := HJ5.out; first | omega | exact Nat.le_refl _⟩, ⟨by repeat (first | (with_reducible first | exact HB.out | apply below_alloc | apply pw_below_drewN | apply below_drew1) | exact HB.out)⟩⟩
                    · replace c29 := Bool.eq_false_iff.mpr c29
                      subst c29
                      have H1 : (tollbarlaw01_OctetRows.j1 kj5 a3 a4 true) = some r := by rw [if_neg (show ¬ (false = true) by decide)] at H; exact H
                      clear H
                      have H := H1
                      clear H1
                      have H' := Aside0.mk H
                      clear H
                      go_wp2_with (first | ((with_reducible refine gate_callee (f := 20) rfl ?_); refine goesL_ (some 66) rfl rfl Try.func20 (by kernel_rfl) rfl #[.slice A0 l0.length c0] rfl (by (try simp only [List.map_toArray, List.map_cons, List.map_nil]); first | done | rfl | (simp only [List.length_drop, List.length_take]; rfl)) ?_; (with_reducible refine (tollbarref01_Row.calls kj5 _ _ l0 t172 _ ?side1 ?side2 A22.out).mono ?_); (case side1 => repeat (first | exact (Kd.C_below HR0.out HB.out) | (with_reducible refine Kd.C_alloc ?_ _) | (with_reducible refine Kd.C_drewN ?_ _) | (with_reducible refine Kd.C_drew ?_))); (case side2 => exact HC0.out); rintro e w39 ⟨rfl, hb⟩; refine ⟨_, rfl, ?_⟩; have n0_ := Aside0.mk (Kd.R_below (by (with_reducible repeat (first | apply Kd.R_alloc | apply Kd.R_drewN | apply Kd.R_drew)); exact HO161.out) hb); have n1_ := Aside0.mk (Kd.R_below (by (with_reducible repeat (first | apply Kd.R_alloc | apply Kd.R_drewN | apply Kd.R_drew)); exact HO166.out) hb); have n2_ := Aside0.mk (Kd.R_below (by (with_reducible repeat (first | apply Kd.R_alloc | apply Kd.R_drewN | apply Kd.R_drew)); exact HO171.out) hb); have n3_ := Aside0.mk (below_step (by repeat (first | (with_reducible first | exact HB.out | apply below_alloc | apply pw_below_drewN | apply below_drew1) | exact HB.out)) hb); clear HO161; clear HO166; clear HO171; clear HB; have HO161 := n0_; have HO166 := n1_; have HO171 := n2_; have HB := n3_; clear n0_ n1_ n2_ n3_; (try clear hb); (try clear hb2); (try clear hk); (try clear hi); obtain ⟨Ao40, co40, eo40⟩ := Kd.R_slice HO161.out; subst eo40; obtain ⟨Ao41, co41, eo41⟩ := Kd.R_slice HO166.out; subst eo41) | (go_at_call 21; (with_reducible refine (tollbarref01_Same.calls kj5 _ _ t157 _ _ t162 true _ ?side1 ?side2 ?side3 ?side4 A24.out).mono ?_); (case side1 => repeat (first | exact (Kd.R_reads' HO161.out).2.2 | (with_reducible refine Kd.C_alloc ?_ _) | (with_reducible refine Kd.C_drewN ?_ _) | (with_reducible refine Kd.C_drew ?_))); (case side2 => exact (Kd.R_reads' HO161.out).2.1); (case side3 => repeat (first | exact (Kd.R_reads' HO166.out).2.2 | (with_reducible refine Kd.C_alloc ?_ _) | (with_reducible refine Kd.C_drewN ?_ _) | (with_reducible refine Kd.C_drew ?_))); (case side4 => exact (Kd.R_reads' HO166.out).2.1); rintro e w' ⟨rfl, ⟨nd, rfl⟩⟩; obtain ⟨Ao42, co42, eo42⟩ := Kd.R_slice HO171.out; subst eo42) | (go_at_call 21; (with_reducible refine (tollbarref01_Same.calls kj5 _ _ t167 _ _ l0 false _ ?side1 ?side2 ?side3 ?side4 A28.out).mono ?_); (case side1 => repeat (first | exact (Kd.R_reads' HO171.out).2.2 | (with_reducible refine Kd.C_alloc ?_ _) | (with_reducible refine Kd.C_drewN ?_ _) | (with_reducible refine Kd.C_drew ?_))); (case side2 => exact (Kd.R_reads' HO171.out).2.1); (case side3 => repeat (first | exact (Kd.C_below HR0.out (by repeat (first | (with_reducible first | exact HB.out | apply below_alloc | apply pw_below_drewN | apply below_drew1) | exact HB.out))) | (with_reducible refine Kd.C_alloc ?_ _) | (with_reducible refine Kd.C_drewN ?_ _) | (with_reducible refine Kd.C_drew ?_))); (case side4 => exact HC0.out); rintro e w' ⟨rfl, ⟨nd, rfl⟩⟩))
                      go_meet
                      case rel => exact ⟨_, (true), (by first | rfl | (simp; done) | (simp [*]; done)), H', ⟨by have := HJ5.out; first | omega | exact Nat.le_refl _⟩, ⟨by repeat (first | (with_reducible first | exact HB.out | apply below_alloc | apply pw_below_drewN | apply below_drew1) | exact HB.out)⟩⟩
                  · rw [if_neg c27] at H
                    have c27b0 : (t159 == t164) = false := beq_eq_false_iff_ne.mpr c27
                    have c27b1 : (t159 != t164) = true := bne_iff_ne.mpr c27
                    have H' := Aside0.mk H
                    clear H
                    go_wp2_with (first | ((with_reducible refine gate_callee (f := 20) rfl ?_); refine goesL_ (some 66) rfl rfl Try.func20 (by kernel_rfl) rfl #[.slice A0 l0.length c0] rfl (by (try simp only [List.map_toArray, List.map_cons, List.map_nil]); first | done | rfl | (simp only [List.length_drop, List.length_take]; rfl)) ?_; (with_reducible refine (tollbarref01_Row.calls kj5 _ _ l0 t172 _ ?side1 ?side2 A22.out).mono ?_); (case side1 => repeat (first | exact (Kd.C_below HR0.out HB.out) | (with_reducible refine Kd.C_alloc ?_ _) | (with_reducible refine Kd.C_drewN ?_ _) | (with_reducible refine Kd.C_drew ?_))); (case side2 => exact HC0.out); rintro e w43 ⟨rfl, hb⟩; refine ⟨_, rfl, ?_⟩; have n0_ := Aside0.mk (Kd.R_below (by (with_reducible repeat (first | apply Kd.R_alloc | apply Kd.R_drewN | apply Kd.R_drew)); exact HO161.out) hb); have n1_ := Aside0.mk (Kd.R_below (by (with_reducible repeat (first | apply Kd.R_alloc | apply Kd.R_drewN | apply Kd.R_drew)); exact HO166.out) hb); have n2_ := Aside0.mk (Kd.R_below (by (with_reducible repeat (first | apply Kd.R_alloc | apply Kd.R_drewN | apply Kd.R_drew)); exact HO171.out) hb); have n3_ := Aside0.mk (below_step (by repeat (first | (with_reducible first | exact HB.out | apply below_alloc | apply pw_below_drewN | apply below_drew1) | exact HB.out)) hb); clear HO161; clear HO166; clear HO171; clear HB; have HO161 := n0_; have HO166 := n1_; have HO171 := n2_; have HB := n3_; clear n0_ n1_ n2_ n3_; (try clear hb); (try clear hb2); (try clear hk); (try clear hi); obtain ⟨Ao44, co44, eo44⟩ := Kd.R_slice HO161.out; subst eo44; obtain ⟨Ao45, co45, eo45⟩ := Kd.R_slice HO166.out; subst eo45) | (go_at_call 21; (with_reducible refine (tollbarref01_Same.calls kj5 _ _ t157 _ _ t162 true _ ?side1 ?side2 ?side3 ?side4 A24.out).mono ?_); (case side1 => repeat (first | exact (Kd.R_reads' HO161.out).2.2 | (with_reducible refine Kd.C_alloc ?_ _) | (with_reducible refine Kd.C_drewN ?_ _) | (with_reducible refine Kd.C_drew ?_))); (case side2 => exact (Kd.R_reads' HO161.out).2.1); (case side3 => repeat (first | exact (Kd.R_reads' HO166.out).2.2 | (with_reducible refine Kd.C_alloc ?_ _) | (with_reducible refine Kd.C_drewN ?_ _) | (with_reducible refine Kd.C_drew ?_))); (case side4 => exact (Kd.R_reads' HO166.out).2.1); rintro e w' ⟨rfl, ⟨nd, rfl⟩⟩))
                    go_meet
                    case rel => exact ⟨_, (true), (by first | rfl | (simp; done) | (simp [*]; done)), H', ⟨by have := HJ5.out; first | omega | exact Nat.le_refl _⟩, ⟨by repeat (first | (with_reducible first | exact HB.out | apply below_alloc | apply pw_below_drewN | apply below_drew1) | exact HB.out)⟩⟩
                · rw [if_neg c26] at H
                  have c26b0 : (t158.toList == t163.toList) = false := beq_eq_false_iff_ne.mpr c26
                  have c26b1 : (t158.toList != t163.toList) = true := bne_iff_ne.mpr c26
                  have H' := Aside0.mk H
                  clear H
                  go_wp2_with (first | ((with_reducible refine gate_callee (f := 20) rfl ?_); refine goesL_ (some 66) rfl rfl Try.func20 (by kernel_rfl) rfl #[.slice A0 l0.length c0] rfl (by (try simp only [List.map_toArray, List.map_cons, List.map_nil]); first | done | rfl | (simp only [List.length_drop, List.length_take]; rfl)) ?_; (with_reducible refine (tollbarref01_Row.calls kj5 _ _ l0 t172 _ ?side1 ?side2 A22.out).mono ?_); (case side1 => repeat (first | exact (Kd.C_below HR0.out HB.out) | (with_reducible refine Kd.C_alloc ?_ _) | (with_reducible refine Kd.C_drewN ?_ _) | (with_reducible refine Kd.C_drew ?_))); (case side2 => exact HC0.out); rintro e w46 ⟨rfl, hb⟩; refine ⟨_, rfl, ?_⟩; have n0_ := Aside0.mk (Kd.R_below (by (with_reducible repeat (first | apply Kd.R_alloc | apply Kd.R_drewN | apply Kd.R_drew)); exact HO161.out) hb); have n1_ := Aside0.mk (Kd.R_below (by (with_reducible repeat (first | apply Kd.R_alloc | apply Kd.R_drewN | apply Kd.R_drew)); exact HO166.out) hb); have n2_ := Aside0.mk (Kd.R_below (by (with_reducible repeat (first | apply Kd.R_alloc | apply Kd.R_drewN | apply Kd.R_drew)); exact HO171.out) hb); have n3_ := Aside0.mk (below_step (by repeat (first | (with_reducible first | exact HB.out | apply below_alloc | apply pw_below_drewN | apply below_drew1) | exact HB.out)) hb); clear HO161; clear HO166; clear HO171; clear HB; have HO161 := n0_; have HO166 := n1_; have HO171 := n2_; have HB := n3_; clear n0_ n1_ n2_ n3_; (try clear hb); (try clear hb2); (try clear hk); (try clear hi); obtain ⟨Ao47, co47, eo47⟩ := Kd.R_slice HO161.out; subst eo47; obtain ⟨Ao48, co48, eo48⟩ := Kd.R_slice HO166.out; subst eo48) | (go_at_call 21; (with_reducible refine (tollbarref01_Same.calls kj5 _ _ t157 _ _ t162 true _ ?side1 ?side2 ?side3 ?side4 A24.out).mono ?_); (case side1 => repeat (first | exact (Kd.R_reads' HO161.out).2.2 | (with_reducible refine Kd.C_alloc ?_ _) | (with_reducible refine Kd.C_drewN ?_ _) | (with_reducible refine Kd.C_drew ?_))); (case side2 => exact (Kd.R_reads' HO161.out).2.1); (case side3 => repeat (first | exact (Kd.R_reads' HO166.out).2.2 | (with_reducible refine Kd.C_alloc ?_ _) | (with_reducible refine Kd.C_drewN ?_ _) | (with_reducible refine Kd.C_drew ?_))); (case side4 => exact (Kd.R_reads' HO166.out).2.1); rintro e w' ⟨rfl, ⟨nd, rfl⟩⟩))
                  go_meet
                  case rel => exact ⟨_, (true), (by first | rfl | (simp; done) | (simp [*]; done)), H', ⟨by have := HJ5.out; first | omega | exact Nat.le_refl _⟩, ⟨by repeat (first | (with_reducible first | exact HB.out | apply below_alloc | apply pw_below_drewN | apply below_drew1) | exact HB.out)⟩⟩
              · replace c25 := Bool.eq_false_iff.mpr c25
                subst c25
                have H1 : (tollbarlaw01_OctetRows.j1 kj5 a3 a4 true) = some r := by rw [if_neg (show ¬ (false = true) by decide)] at H; exact H
                clear H
                have H := H1
                clear H1
                have H' := Aside0.mk H
                clear H
                go_wp2_with (first | ((with_reducible refine gate_callee (f := 20) rfl ?_); refine goesL_ (some 66) rfl rfl Try.func20 (by kernel_rfl) rfl #[.slice A0 l0.length c0] rfl (by (try simp only [List.map_toArray, List.map_cons, List.map_nil]); first | done | rfl | (simp only [List.length_drop, List.length_take]; rfl)) ?_; (with_reducible refine (tollbarref01_Row.calls kj5 _ _ l0 t172 _ ?side1 ?side2 A22.out).mono ?_); (case side1 => repeat (first | exact (Kd.C_below HR0.out HB.out) | (with_reducible refine Kd.C_alloc ?_ _) | (with_reducible refine Kd.C_drewN ?_ _) | (with_reducible refine Kd.C_drew ?_))); (case side2 => exact HC0.out); rintro e w49 ⟨rfl, hb⟩; refine ⟨_, rfl, ?_⟩; have n0_ := Aside0.mk (Kd.R_below (by (with_reducible repeat (first | apply Kd.R_alloc | apply Kd.R_drewN | apply Kd.R_drew)); exact HO161.out) hb); have n1_ := Aside0.mk (Kd.R_below (by (with_reducible repeat (first | apply Kd.R_alloc | apply Kd.R_drewN | apply Kd.R_drew)); exact HO166.out) hb); have n2_ := Aside0.mk (Kd.R_below (by (with_reducible repeat (first | apply Kd.R_alloc | apply Kd.R_drewN | apply Kd.R_drew)); exact HO171.out) hb); have n3_ := Aside0.mk (below_step (by repeat (first | (with_reducible first | exact HB.out | apply below_alloc | apply pw_below_drewN | apply below_drew1) | exact HB.out)) hb); clear HO161; clear HO166; clear HO171; clear HB; have HO161 := n0_; have HO166 := n1_; have HO171 := n2_; have HB := n3_; clear n0_ n1_ n2_ n3_; (try clear hb); (try clear hb2); (try clear hk); (try clear hi); obtain ⟨Ao50, co50, eo50⟩ := Kd.R_slice HO161.out; subst eo50; obtain ⟨Ao51, co51, eo51⟩ := Kd.R_slice HO166.out; subst eo51) | (go_at_call 21; (with_reducible refine (tollbarref01_Same.calls kj5 _ _ t157 _ _ t162 false _ ?side1 ?side2 ?side3 ?side4 A24.out).mono ?_); (case side1 => repeat (first | exact (Kd.R_reads' HO161.out).2.2 | (with_reducible refine Kd.C_alloc ?_ _) | (with_reducible refine Kd.C_drewN ?_ _) | (with_reducible refine Kd.C_drew ?_))); (case side2 => exact (Kd.R_reads' HO161.out).2.1); (case side3 => repeat (first | exact (Kd.R_reads' HO166.out).2.2 | (with_reducible refine Kd.C_alloc ?_ _) | (with_reducible refine Kd.C_drewN ?_ _) | (with_reducible refine Kd.C_drew ?_))); (case side4 => exact (Kd.R_reads' HO166.out).2.1); rintro e w' ⟨rfl, ⟨nd, rfl⟩⟩))
                go_meet
                case rel => exact ⟨_, (true), (by first | rfl | (simp; done) | (simp [*]; done)), H', ⟨by have := HJ5.out; first | omega | exact Nat.le_refl _⟩, ⟨by repeat (first | (with_reducible first | exact HB.out | apply below_alloc | apply pw_below_drewN | apply below_drew1) | exact HB.out)⟩⟩
            · rw [if_neg c23] at H
              have c23b0 : (t156.toList == t172.toList) = false := beq_eq_false_iff_ne.mpr c23
              have c23b1 : (t156.toList != t172.toList) = true := bne_iff_ne.mpr c23
              (first | rw [c23b0] | (simp only [i64_w, i32_w]; rw [c23b0]) | skip)
              have H' := Aside0.mk H
              clear H
              go_wp2_with (first | ((with_reducible refine gate_callee (f := 20) rfl ?_); refine goesL_ (some 66) rfl rfl Try.func20 (by kernel_rfl) rfl #[.slice A0 l0.length c0] rfl (by (try simp only [List.map_toArray, List.map_cons, List.map_nil]); first | done | rfl | (simp only [List.length_drop, List.length_take]; rfl)) ?_; (with_reducible refine (tollbarref01_Row.calls kj5 _ _ l0 t172 _ ?side1 ?side2 A22.out).mono ?_); (case side1 => repeat (first | exact (Kd.C_below HR0.out HB.out) | (with_reducible refine Kd.C_alloc ?_ _) | (with_reducible refine Kd.C_drewN ?_ _) | (with_reducible refine Kd.C_drew ?_))); (case side2 => exact HC0.out); rintro e w52 ⟨rfl, hb⟩; refine ⟨_, rfl, ?_⟩; have n0_ := Aside0.mk (Kd.R_below (by (with_reducible repeat (first | apply Kd.R_alloc | apply Kd.R_drewN | apply Kd.R_drew)); exact HO161.out) hb); have n1_ := Aside0.mk (Kd.R_below (by (with_reducible repeat (first | apply Kd.R_alloc | apply Kd.R_drewN | apply Kd.R_drew)); exact HO166.out) hb); have n2_ := Aside0.mk (Kd.R_below (by (with_reducible repeat (first | apply Kd.R_alloc | apply Kd.R_drewN | apply Kd.R_drew)); exact HO171.out) hb); have n3_ := Aside0.mk (below_step (by repeat (first | (with_reducible first | exact HB.out | apply below_alloc | apply pw_below_drewN | apply below_drew1) | exact HB.out)) hb); clear HO161; clear HO166; clear HO171; clear HB; have HO161 := n0_; have HO166 := n1_; have HO171 := n2_; have HB := n3_; clear n0_ n1_ n2_ n3_; (try clear hb); (try clear hb2); (try clear hk); (try clear hi)))
              go_meet
              case rel => exact ⟨_, (true), (by first | rfl | (simp; done) | (simp [*]; done)), H', ⟨by have := HJ5.out; first | omega | exact Nat.le_refl _⟩, ⟨by repeat (first | (with_reducible first | exact HB.out | apply below_alloc | apply pw_below_drewN | apply below_drew1) | exact HB.out)⟩⟩
          case rest =>
            clear HC17
            try clear c1
            try clear c2
            try clear p2
            try clear c3
            try clear c5
            try clear p6
            try clear c7
            try clear c7b0
            try clear c7b1
            try clear c8
            try clear c15
            try clear c15b0
            try clear c15b1
            try clear c15b2
            try clear c17
            try clear c18
            try clear c19
            try clear c20
            try clear c23
            try clear c23b0
            try clear c23b1
            try clear c25
            try clear c26
            try clear c26b0
            try clear c26b1
            try clear c27
            try clear c27b0
            try clear c27b1
            try clear c29
            try clear c30
            try clear c30b0
            try clear c30b1
            try clear p2
            obtain ⟨kq, x98_16, rfl, HA, HJ16, HB⟩ := hcut
            cases kq with
            | zero => exact absurd HA.out (by simp [tollbarlaw01_OctetRows.j1])
            | succ kj16 =>
              have H := HA.out
              clear HA
              simp only [tollbarlaw01_OctetRows.j1] at H
              by_cases c53 : x98_16 = true
              · subst c53
                have H1 : (some false) = some r := by rw [if_pos rfl] at H; exact H
                clear H
                have H := H1
                clear H1
                obtain rfl := Option.some.inj H
                go_wp2
                go_ret
                exact ⟨by first | rfl | (simp [errW_none, errW_some] <;> rfl) | (simp only [← hji13]; first | rfl | (simp [errW_none, errW_some] <;> rfl)) | (simp [*, errW_none, errW_some] <;> rfl), by repeat (first | (with_reducible first | exact HB.out | apply below_alloc | apply pw_below_drewN | apply below_drew1) | exact HB.out)⟩
              · replace c53 := Bool.eq_false_iff.mpr c53
                subst c53
                have H1 : ((octet_Num.f kj16 a3).bind fun t175 => ((octet_Num.f kj16 a4).bind fun t176 => (if (t175.size : Int) ≤ (t176.size : Int) then (if 0 ≤ (t175.size : Int) then (if (((t176.extract 0 ((t175.size : Int) : Int).toNat).toList == t175.toList) == (a3 == a4)) = true then ((tollbarlaw01_alive.f kj16).bind fun t177 => (some t177)) else (some false)) else (none)) else (if (false == (a3 == a4)) = true then ((tollbarlaw01_alive.f kj16).bind fun t178 => (some t178)) else (some false))))) = some r := by rw [if_neg (show ¬ (false = true) by decide)] at H; exact H
                clear H
                have H := H1
                clear H1
                replace H := Option.bind_eq_some_iff.mp H
                obtain ⟨t175, A540, H⟩ := H
                replace H : ((octet_Num.f kj16 a4).bind fun t176 => (if (t175.size : Int) ≤ (t176.size : Int) then (if 0 ≤ (t175.size : Int) then (if (((t176.extract 0 ((t175.size : Int) : Int).toNat).toList == t175.toList) == (a3 == a4)) = true then ((tollbarlaw01_alive.f kj16).bind fun t177 => (some t177)) else (some false)) else (none)) else (if (false == (a3 == a4)) = true then ((tollbarlaw01_alive.f kj16).bind fun t178 => (some t178)) else (some false)))) = some r := H
                have A54 := Aside0.mk A540
                clear A540
                replace H := Option.bind_eq_some_iff.mp H
                obtain ⟨t176, A550, H⟩ := H
                replace H : (if (t175.size : Int) ≤ (t176.size : Int) then (if 0 ≤ (t175.size : Int) then (if (((t176.extract 0 ((t175.size : Int) : Int).toNat).toList == t175.toList) == (a3 == a4)) = true then ((tollbarlaw01_alive.f kj16).bind fun t177 => (some t177)) else (some false)) else (none)) else (if (false == (a3 == a4)) = true then ((tollbarlaw01_alive.f kj16).bind fun t178 => (some t178)) else (some false))) = some r := H
                have A55 := Aside0.mk A550
                clear A550
                by_cases c56 : (t175.size : Int) ≤ (t176.size : Int)
                · rw [if_pos c56] at H
                  have c56b0 : decide ((t175.size : Int) ≤ (t176.size : Int)) = true := decide_eq_true c56
                  have c56b1 : decide (t175.size ≤ t176.size) = true := decide_eq_true (Int.ofNat_le.mp c56)
                  clear c56
                  by_cases c57 : 0 ≤ (t175.size : Int)
                  · rw [if_pos c57] at H
                    have c57b0 := eq_true c57
                    have c57b1 : decide (0 ≤ (t175.size : Int)) = true := decide_eq_true c57
                    clear c57
                    have c58b0 := eq_true (of_decide_eq_true (by first | (with_reducible assumption) | assumption) : (t175.size : Int) ≤ (t176.size : Int))
                    by_cases c59 : (((t176.extract 0 ((t175.size : Int) : Int).toNat).toList == t175.toList) == (a3 == a4)) = true
                    · rw [if_pos c59] at H
                      have c59b0 : (((t176.extract 0 ((t175.size : Int) : Int).toNat).toList == t175.toList) == (a3 == a4)) = true := c59
                      (try (have c59b1 : decide (((t176.extract 0 ((t175.size : Int) : Int).toNat).toList == t175.toList) = (a3 == a4)) = true := by simpa using c59))
                      (try (have c59b2 : (((t176.extract 0 ((t175.size : Int) : Int).toNat).toList == t175.toList) == (a3 == a4)) = true := by simpa using c59))
                      clear c59
                      (try simp only [Int.toNat_natCast] at c59b0)
                      (try simp only [Int.toNat_natCast] at c59b1)
                      (try simp only [Int.toNat_natCast] at c59b2)
                      (try simp only [Int.toNat_natCast] at c59b3)
                      replace H := Option.bind_eq_some_iff.mp H
                      obtain ⟨t177, A600, H⟩ := H
                      replace H : (some t177) = some r := H
                      have A60 := Aside0.mk A600
                      clear A600
                      obtain rfl := Option.some.inj H
                      go_wp2_with (first | ((with_reducible refine gate_callee (f := 9) rfl ?_); refine goesL_ (some 100) rfl rfl Try.func9 (by kernel_rfl) rfl #[.int .u64 a3] rfl (by (try simp only [List.map_toArray, List.map_cons, List.map_nil]); first | done | rfl | (simp only [List.length_drop, List.length_take]; rfl)) ?_; (with_reducible refine (octet_Num.calls kj16 a3 t175 _ A54.out).mono ?_); rintro e w61 ⟨rfl, hb⟩; refine ⟨_, rfl, ?_⟩; have n0_ := Aside0.mk (below_step (by repeat (first | (with_reducible first | exact HB.out | apply below_alloc | apply pw_below_drewN | apply below_drew1) | exact HB.out)) hb); clear HB; have HB := n0_; clear n0_; (try clear hb); (try clear hb2); (try clear hk); (try clear hi)) | ((with_reducible refine gate_callee (f := 9) rfl ?_); refine goesL_ (some 102) rfl rfl Try.func9 (by kernel_rfl) rfl #[.int .u64 a4] rfl (by (try simp only [List.map_toArray, List.map_cons, List.map_nil]); first | done | rfl | (simp only [List.length_drop, List.length_take]; rfl)) ?_; (with_reducible refine (octet_Num.calls kj16 a4 t176 _ A55.out).mono ?_); rintro e w62 ⟨rfl, hb⟩; refine ⟨_, rfl, ?_⟩; have n0_ := Aside0.mk (below_step (by repeat (first | (with_reducible first | exact HB.out | apply below_alloc | apply pw_below_drewN | apply below_drew1) | exact HB.out)) hb); clear HB; have HB := n0_; clear n0_; (try clear hb); (try clear hb2); (try clear hk); (try clear hi)) | (go_at_call 8; (with_reducible refine (tollbarlaw01_alive.calls kj16  t177 _ A60.out).mono ?_); rintro e w63 ⟨rfl, hb⟩; have n0_ := Aside0.mk (below_step (by repeat (first | (with_reducible first | exact HB.out | apply below_alloc | apply pw_below_drewN | apply below_drew1) | exact HB.out)) hb); clear HB; have HB := n0_; clear n0_; (try clear hb); (try clear hb2); (try clear hk); (try clear hi)))
                      go_ret
                      exact ⟨by first | rfl | (simp [errW_none, errW_some] <;> rfl) | (simp only [← hji13]; first | rfl | (simp [errW_none, errW_some] <;> rfl)) | (simp [*, errW_none, errW_some] <;> rfl), by repeat (first | (with_reducible first | exact HB.out | apply below_alloc | apply pw_below_drewN | apply below_drew1) | exact HB.out)⟩
                    · rw [if_neg c59] at H
                      have c59b0 : (((t176.extract 0 ((t175.size : Int) : Int).toNat).toList == t175.toList) == (a3 == a4)) = false := by simpa using c59
                      (try (have c59b1 : decide (((t176.extract 0 ((t175.size : Int) : Int).toNat).toList == t175.toList) = (a3 == a4)) = false := by simpa using c59))
                      (try (have c59b2 : (((t176.extract 0 ((t175.size : Int) : Int).toNat).toList == t175.toList) == (a3 == a4)) = false := by simpa using c59))
                      (try (have c59b3 : ¬ (((t176.extract 0 ((t175.size : Int) : Int).toNat).toList == t175.toList) = (a3 == a4)) := by simpa using c59))
                      clear c59
                      (try simp only [Int.toNat_natCast] at c59b0)
                      (try simp only [Int.toNat_natCast] at c59b1)
                      (try simp only [Int.toNat_natCast] at c59b2)
                      (try simp only [Int.toNat_natCast] at c59b3)
                      obtain rfl := Option.some.inj H
                      go_wp2_with (first | ((with_reducible refine gate_callee (f := 9) rfl ?_); refine goesL_ (some 100) rfl rfl Try.func9 (by kernel_rfl) rfl #[.int .u64 a3] rfl (by (try simp only [List.map_toArray, List.map_cons, List.map_nil]); first | done | rfl | (simp only [List.length_drop, List.length_take]; rfl)) ?_; (with_reducible refine (octet_Num.calls kj16 a3 t175 _ A54.out).mono ?_); rintro e w64 ⟨rfl, hb⟩; refine ⟨_, rfl, ?_⟩; have n0_ := Aside0.mk (below_step (by repeat (first | (with_reducible first | exact HB.out | apply below_alloc | apply pw_below_drewN | apply below_drew1) | exact HB.out)) hb); clear HB; have HB := n0_; clear n0_; (try clear hb); (try clear hb2); (try clear hk); (try clear hi)) | ((with_reducible refine gate_callee (f := 9) rfl ?_); refine goesL_ (some 102) rfl rfl Try.func9 (by kernel_rfl) rfl #[.int .u64 a4] rfl (by (try simp only [List.map_toArray, List.map_cons, List.map_nil]); first | done | rfl | (simp only [List.length_drop, List.length_take]; rfl)) ?_; (with_reducible refine (octet_Num.calls kj16 a4 t176 _ A55.out).mono ?_); rintro e w65 ⟨rfl, hb⟩; refine ⟨_, rfl, ?_⟩; have n0_ := Aside0.mk (below_step (by repeat (first | (with_reducible first | exact HB.out | apply below_alloc | apply pw_below_drewN | apply below_drew1) | exact HB.out)) hb); clear HB; have HB := n0_; clear n0_; (try clear hb); (try clear hb2); (try clear hk); (try clear hi)))
                      go_ret
                      exact ⟨by first | rfl | (simp [errW_none, errW_some] <;> rfl) | (simp only [← hji13]; first | rfl | (simp [errW_none, errW_some] <;> rfl)) | (simp [*, errW_none, errW_some] <;> rfl), by repeat (first | (with_reducible first | exact HB.out | apply below_alloc | apply pw_below_drewN | apply below_drew1) | exact HB.out)⟩
                  · rw [if_neg c57] at H
                    exact absurd H (by simp)
                · rw [if_neg c56] at H
                  have c56b0 : decide ((t175.size : Int) ≤ (t176.size : Int)) = false := decide_eq_false c56
                  have c56b1 : decide (t175.size ≤ t176.size) = false := decide_eq_false (fun h => c56 (Int.ofNat_le.mpr h))
                  clear c56
                  by_cases c66 : (false == (a3 == a4)) = true
                  · rw [if_pos c66] at H
                    have c66b0 : (false == (a3 == a4)) = true := c66
                    (try (have c66b1 : decide (false = (a3 == a4)) = true := by simpa using c66))
                    (try (have c66b2 : (false == (a3 == a4)) = true := by simpa using c66))
                    clear c66
                    replace H := Option.bind_eq_some_iff.mp H
                    obtain ⟨t178, A670, H⟩ := H
                    replace H : (some t178) = some r := H
                    have A67 := Aside0.mk A670
                    clear A670
                    obtain rfl := Option.some.inj H
                    go_wp2_with (first | ((with_reducible refine gate_callee (f := 9) rfl ?_); refine goesL_ (some 100) rfl rfl Try.func9 (by kernel_rfl) rfl #[.int .u64 a3] rfl (by (try simp only [List.map_toArray, List.map_cons, List.map_nil]); first | done | rfl | (simp only [List.length_drop, List.length_take]; rfl)) ?_; (with_reducible refine (octet_Num.calls kj16 a3 t175 _ A54.out).mono ?_); rintro e w68 ⟨rfl, hb⟩; refine ⟨_, rfl, ?_⟩; have n0_ := Aside0.mk (below_step (by repeat (first | (with_reducible first | exact HB.out | apply below_alloc | apply pw_below_drewN | apply below_drew1) | exact HB.out)) hb); clear HB; have HB := n0_; clear n0_; (try clear hb); (try clear hb2); (try clear hk); (try clear hi)) | ((with_reducible refine gate_callee (f := 9) rfl ?_); refine goesL_ (some 102) rfl rfl Try.func9 (by kernel_rfl) rfl #[.int .u64 a4] rfl (by (try simp only [List.map_toArray, List.map_cons, List.map_nil]); first | done | rfl | (simp only [List.length_drop, List.length_take]; rfl)) ?_; (with_reducible refine (octet_Num.calls kj16 a4 t176 _ A55.out).mono ?_); rintro e w69 ⟨rfl, hb⟩; refine ⟨_, rfl, ?_⟩; have n0_ := Aside0.mk (below_step (by repeat (first | (with_reducible first | exact HB.out | apply below_alloc | apply pw_below_drewN | apply below_drew1) | exact HB.out)) hb); clear HB; have HB := n0_; clear n0_; (try clear hb); (try clear hb2); (try clear hk); (try clear hi)) | (go_at_call 8; (with_reducible refine (tollbarlaw01_alive.calls kj16  t178 _ A67.out).mono ?_); rintro e w70 ⟨rfl, hb⟩; have n0_ := Aside0.mk (below_step (by repeat (first | (with_reducible first | exact HB.out | apply below_alloc | apply pw_below_drewN | apply below_drew1) | exact HB.out)) hb); clear HB; have HB := n0_; clear n0_; (try clear hb); (try clear hb2); (try clear hk); (try clear hi)))
                    go_ret
                    exact ⟨by first | rfl | (simp [errW_none, errW_some] <;> rfl) | (simp only [← hji13]; first | rfl | (simp [errW_none, errW_some] <;> rfl)) | (simp [*, errW_none, errW_some] <;> rfl), by repeat (first | (with_reducible first | exact HB.out | apply below_alloc | apply pw_below_drewN | apply below_drew1) | exact HB.out)⟩
                  · rw [if_neg c66] at H
                    have c66b0 : (false == (a3 == a4)) = false := by simpa using c66
                    (try (have c66b1 : decide (false = (a3 == a4)) = false := by simpa using c66))
                    (try (have c66b2 : (false == (a3 == a4)) = false := by simpa using c66))
                    (try (have c66b3 : ¬ (false = (a3 == a4)) := by simpa using c66))
                    clear c66
                    obtain rfl := Option.some.inj H
                    go_wp2_with (first | ((with_reducible refine gate_callee (f := 9) rfl ?_); refine goesL_ (some 100) rfl rfl Try.func9 (by kernel_rfl) rfl #[.int .u64 a3] rfl (by (try simp only [List.map_toArray, List.map_cons, List.map_nil]); first | done | rfl | (simp only [List.length_drop, List.length_take]; rfl)) ?_; (with_reducible refine (octet_Num.calls kj16 a3 t175 _ A54.out).mono ?_); rintro e w71 ⟨rfl, hb⟩; refine ⟨_, rfl, ?_⟩; have n0_ := Aside0.mk (below_step (by repeat (first | (with_reducible first | exact HB.out | apply below_alloc | apply pw_below_drewN | apply below_drew1) | exact HB.out)) hb); clear HB; have HB := n0_; clear n0_; (try clear hb); (try clear hb2); (try clear hk); (try clear hi)) | ((with_reducible refine gate_callee (f := 9) rfl ?_); refine goesL_ (some 102) rfl rfl Try.func9 (by kernel_rfl) rfl #[.int .u64 a4] rfl (by (try simp only [List.map_toArray, List.map_cons, List.map_nil]); first | done | rfl | (simp only [List.length_drop, List.length_take]; rfl)) ?_; (with_reducible refine (octet_Num.calls kj16 a4 t176 _ A55.out).mono ?_); rintro e w72 ⟨rfl, hb⟩; refine ⟨_, rfl, ?_⟩; have n0_ := Aside0.mk (below_step (by repeat (first | (with_reducible first | exact HB.out | apply below_alloc | apply pw_below_drewN | apply below_drew1) | exact HB.out)) hb); clear HB; have HB := n0_; clear n0_; (try clear hb); (try clear hb2); (try clear hk); (try clear hi)))
                    go_ret
                    exact ⟨by first | rfl | (simp [errW_none, errW_some] <;> rfl) | (simp only [← hji13]; first | rfl | (simp [errW_none, errW_some] <;> rfl)) | (simp [*, errW_none, errW_some] <;> rfl), by repeat (first | (with_reducible first | exact HB.out | apply below_alloc | apply pw_below_drewN | apply below_drew1) | exact HB.out)⟩
        · rw [if_neg c15] at H
          exact absurd H (by simp)

/-- THE ONE PURE STATEMENT of tollbarlaw01_OctetRows: yours. -/
def tollbarlaw01_OctetRows.Pure : Prop := ∀ (l0 : List Int) (a1 : ByteArray) (a2 : Int) (a3 : Int) (a4 : Int), l0.length ≤ maxLen → l0.length * 8 ≤ 140737488351232 → (∀ x ∈ l0, (Lit.int .u64 x).wf = true) → a1.size ≤ 140737488351232 → (Lit.int .i64 a2).wf = true → (Lit.int .u64 a3).wf = true → (Lit.int .u64 a4).wf = true → ∃ k, tollbarlaw01_OctetRows.f k l0 a1 a2 a3 a4 = some true
theorem tollbarlaw01_OctetRows.walk (P : tollbarlaw01_OctetRows.Pure) (a0 : Option Addr) (len0 cap0 : Nat) (z0 : List Int) (a1 : ByteArray) (a2 : Int) (a3 : Int) (a4 : Int) (w : World) (w0 : (a0 = none ∧ len0 = 0 ∧ cap0 = 0 ∧ z0 = []) ∨ ∃ x, a0 = some x ∧ len0 ≤ cap0 ∧ cap0 ≤ maxLen ∧ z0.length = cap0 ∧ (∀ i, i < z0.length → w.cell? (x.add i) = some (.int .u64 (z0.getD i 0))) ∧ ∀ n ∈ z0, (Lit.int .u64 n).wf = true) (y0 : len0 * 8 ≤ 140737488351232) (w1 : a1.size ≤ 140737488351232) (w2 : (Lit.int .i64 a2).wf = true) (w3 : (Lit.int .u64 a3).wf = true) (w4 : (Lit.int .u64 a4).wf = true) :
    Calls Try.prog 5 #[.slice a0 len0 cap0, .string a1, .int .i64 a2, .int .u64 a3, .int .u64 a4] w fun e w' => e = .returned (.bool true) ∧ Below w.heap.size w w' := by
  obtain ⟨l0, rfl, hr0, hm0, hw0, hc0⟩ := ReadsInt.ofRowC w0
  obtain ⟨k, h⟩ := P l0 a1 a2 a3 a4 hm0 y0 hw0 w1 w2 w3 w4
  refine (tollbarlaw01_OctetRows.calls k _ _ l0 a1 a2 a3 a4 true w (Kd.C_of_reads (d := (0 : Int)) (h1 := fun _ => rfl) hr0) hc0 (by have := hr0.1; omega) h).mono ?_
  rintro e w' ⟨rfl, hd⟩
  exact ⟨rfl, hd⟩

end Go.Proofs.Ytghbcdpnngheoab.POctetR
