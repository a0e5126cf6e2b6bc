-- BY PROGRAM (wip/tools/myprint.sh)
import Derived.Test.YtghbcdpnngheoaaPSetx0
import Derived.Test.YtghbcdpnngheoaaPSetx1
import Derived.Test.YtghbcdpnngheoaaSetIter
import Derived.Test.YtghbcdpnngheoaaPSetx2
namespace Go.Proofs.Ytghbcdpnngheoaa.PSet
open Go.RowKit Go.Proofs.YtghbcdpnngheoaaW.PrintWords Go.Proofs.YtghbcdpnngheoaaW.PrintLast Go.Proofs.YtghbcdpnngheoaaW.PrintMore
attribute [local go_sem] max2_int min2_int max_two min_two max_three min_three max_four min_four   -- for this text's walks alone
set_option linter.unusedVariables false
set_option linter.unusedSimpArgs false

theorem R_append_row_g {P : Program} {ops : Array Oper} {rest : List Oper} {o : Oper} {a : Act} {Q : Exit → Act → World → Prop} {W : World} {α : Type} (enc : α → Value) (d : α) {h1 : ∀ x : α, (enc x).oneCell' = true} {w0 : World} (base : Nat) (hw : Region.wanted o (yielded ops a.tmps) = true) (s x : Operand) (t e : TypeId) (z : Value) (bytes : Nat)
    (ho : o.op = .call { callee := .builtin .append, args := #[s, x], argTypes := #[t, t] })
    (ht : P.underlying t = some (.slice e)) (hinfo : (P.info? e).map (fun i => (i.zero, i.size, i.bytes)) = some (some z, 1, bytes)) (hz : z.cells.size = 1) (hb0 : 0 < bytes)
    (v : Value) (xs ys : List α) (A : Option Addr) (m c : Nat) (ok : Nat → Prop) (hs : a.eval s = v) (hx : a.eval x = .slice A m c) (hfresh : ∀ k, W.heap.size ≤ k → ok k)
    (HO : (Kd.scalar enc h1).R e W base ok v xs) (HR : (Kd.scalar enc h1).C W A m ys) (HB : Below base w0 W) (hbase : base ≤ W.heap.size) (hl : (xs.length + m) * bytes ≤ 140737488355328)
    (h : ∀ v1 w1, (Kd.scalar enc h1).R e w1 base ok v1 (xs ++ ys) → Below base w0 w1 → W.grownBy w1 v.ownBlock → (v1.ownBlock = v.ownBlock ∨ ∃ b, v1.ownBlock = some b ∧ W.heap.size ≤ b) → wpList P ops Q rest (a.put o.dst v1) w1) :
    wpList P ops Q (o :: rest) a W := by
  have h2 : wpList P ops Q ({ o with guard := none } :: rest) a W := Kd.R_append_row (o := { o with guard := none }) (h1 := h1) enc d base rfl s x t e z bytes ho ht hinfo hz hb0 v xs ys A m c ok hs hx hfresh HO HR HB hbase hl h
  unfold wpList at h2 ⊢
  rw [if_pos hw]
  rw [if_pos (show Region.wanted { o with guard := none } (yielded ops a.tmps) = true from rfl)] at h2
  exact h2

/-! ### tollbarlaw02_SetTells: function 3 -/
mutual
def tollbarlaw02_SetTells.j0 : Nat → Int → Int → Int → List Int → Int → List Int → Bool → Option (Bool)
  | 0, _, _, _, _, _, _, _ => none
  | k + 1, x0, x1, x2, x3, x9, x11, x36 => if x36 = true then (some false) else (tollbarlaw02_SetTells.l0 k x0 x1 x2 x3 x9 x11 0)
def tollbarlaw02_SetTells.l0 : Nat → Int → Int → Int → List Int → Int → List Int → Int → Option (Bool)
  | 0, _, _, _, _, _, _, _ => none
  | k + 1, x0, x1, x2, x3, x9, x11, x12 => if x12 < (x11.length : Int) then (tollbarlaw02_SetTells.j2 k x0 x1 x2 x3 x9 x11 x12 (decide (x12 < 1))) else (tollbarlaw02_SetTells.j2 k x0 x1 x2 x3 x9 x11 x12 false)
def tollbarlaw02_SetTells.j2 : Nat → Int → Int → Int → List Int → Int → List Int → Int → Bool → Option (Bool)
  | 0, _, _, _, _, _, _, _, _ => none
  | k + 1, x0, x1, x2, x3, x9, x11, x12, x44 => if x44 = true then (if 0 ≤ x12 then (if x12 < (x11.length : Int) then (if x9 = (rd x11 x12) then (tollbarlaw02_SetTells.l0 k x0 x1 x2 x3 x9 x11 (wrap64 (x12 + 1))) else (some false)) else (none)) else (none)) else ((set_Has.f x0 x2).bind fun t161 => ((tollbarref02_Has.f k x0 x2).bind fun t162 => (if (t161 == t162) = true then ((set_With.f x0 x2).bind fun t163 => ((tollbarref02_With.f k x0 x2).bind fun t164 => (if t163 = t164 then ((set_Less.f x0 x2).bind fun t165 => ((tollbarref02_Less.f k x0 x2).bind fun t166 => (if t165 = t166 then ((set_Len.f k x0).bind fun t167 => (if t167 = (x11.length : Int) then ((set_List.f k x0).bind fun t168 => ((tollbarref01_SameInts.f k t168 x11).bind fun t171 => (if t171 = true then ((set_In.f x0 x1).bind fun t172 => ((tollbarref02_In.f k x0 x1).bind fun t173 => (if (t172 == t173) = true then ((set_Of.f k x3).bind fun t174 => ((tollbarref02_Of.f k x3).bind fun t175 => (if t174 = t175 then ((tollbarlaw02_alive.f k).bind fun t176 => (some t176)) else (some false)))) else (some false)))) else (some false)))) else (some false))) else (some false)))) else (some false)))) else (some false))))
end
def tollbarlaw02_SetTells.f (k : Nat) (a0 : Int) (a1 : Int) (a2 : Int) (l3 : List Int) : Option (Bool) := if (l3.length : Int) > 300 then ((tollbarlaw02_alive.f k).bind fun t154 => (some t154)) else ((set_Least.f k a0).bind fun bt155 => ((tollbarref02_List.f k a0).bind fun t157 => (if (bt155.2 != (decide ((t157.length : Int) > 0))) = true then (tollbarlaw02_SetTells.j0 k a0 a1 a2 l3 bt155.1 t157 true) else (if bt155.2 = true then (tollbarlaw02_SetTells.j0 k a0 a1 a2 l3 bt155.1 t157 false) else (tollbarlaw02_SetTells.j0 k a0 a1 a2 l3 bt155.1 t157 (bt155.1 != 0))))))
theorem tollbarlaw02_SetTells.mono_l : ∀ k, (∀ y0 y1 y2 y3 y4 y5 y6, LeO (tollbarlaw02_SetTells.j0 k y0 y1 y2 y3 y4 y5 y6) (tollbarlaw02_SetTells.j0 (k + 1) y0 y1 y2 y3 y4 y5 y6)) ∧ (∀ y0 y1 y2 y3 y4 y5 y6, LeO (tollbarlaw02_SetTells.l0 k y0 y1 y2 y3 y4 y5 y6) (tollbarlaw02_SetTells.l0 (k + 1) y0 y1 y2 y3 y4 y5 y6)) ∧ (∀ y0 y1 y2 y3 y4 y5 y6 y7, LeO (tollbarlaw02_SetTells.j2 k y0 y1 y2 y3 y4 y5 y6 y7) (tollbarlaw02_SetTells.j2 (k + 1) y0 y1 y2 y3 y4 y5 y6 y7))
  | 0 => ⟨fun _ _ _ _ _ _ _ r h => by simp [tollbarlaw02_SetTells.j0] at h, fun _ _ _ _ _ _ _ r h => by simp [tollbarlaw02_SetTells.l0] at h, fun _ _ _ _ _ _ _ _ r h => by simp [tollbarlaw02_SetTells.j2] at h⟩
  | k + 1 => by
    obtain ⟨ih0, ih1, ih2⟩ := tollbarlaw02_SetTells.mono_l k
    refine ⟨?_, ?_, ?_⟩
    · intro y0 y1 y2 y3 y4 y5 y6
      unfold tollbarlaw02_SetTells.j0
      repeat' first
      | (with_reducible exact ih0 _ _ _ _ _ _ _)
      | (with_reducible exact ih1 _ _ _ _ _ _ _)
      | (with_reducible exact ih2 _ _ _ _ _ _ _ _)
      | (with_reducible exact set_Least.mono _ _)
      | (with_reducible exact set_Len.mono _ _)
      | (with_reducible exact set_List.mono _ _)
      | (with_reducible exact set_Of.mono _ _)
      | (with_reducible exact tollbarlaw02_alive.mono _)
      | (with_reducible exact tollbarref01_SameInts.mono _ _ _)
      | (with_reducible exact tollbarref02_Has.mono _ _ _)
      | (with_reducible exact tollbarref02_In.mono _ _ _)
      | (with_reducible exact tollbarref02_Less.mono _ _ _)
      | (with_reducible exact tollbarref02_List.mono _ _)
      | (with_reducible exact tollbarref02_Of.mono _ _)
      | (with_reducible exact tollbarref02_With.mono _ _ _)
      | (with_reducible exact LeO.refl _)
      | (with_reducible exact LeO.none _)
      | (with_reducible refine LeO.ite ?_ ?_)
      | (with_reducible refine LeO.bind ?_ (fun _ => ?_))
      | exact ih0 _ _ _ _ _ _ _
      | exact ih1 _ _ _ _ _ _ _
      | exact ih2 _ _ _ _ _ _ _ _
      | exact set_Least.mono _ _
      | exact set_Len.mono _ _
      | exact set_List.mono _ _
      | exact set_Of.mono _ _
      | exact tollbarlaw02_alive.mono _
      | exact tollbarref01_SameInts.mono _ _ _
      | exact tollbarref02_Has.mono _ _ _
      | exact tollbarref02_In.mono _ _ _
      | exact tollbarref02_Less.mono _ _ _
      | exact tollbarref02_List.mono _ _
      | exact tollbarref02_Of.mono _ _
      | exact tollbarref02_With.mono _ _ _
      | exact LeO.none _
      | refine LeO.ite ?_ ?_
      | refine LeO.bind ?_ (fun _ => ?_)
    · intro y0 y1 y2 y3 y4 y5 y6
      unfold tollbarlaw02_SetTells.l0
      repeat' first
      | (with_reducible exact ih0 _ _ _ _ _ _ _)
      | (with_reducible exact ih1 _ _ _ _ _ _ _)
      | (with_reducible exact ih2 _ _ _ _ _ _ _ _)
      | (with_reducible exact set_Least.mono _ _)
      | (with_reducible exact set_Len.mono _ _)
      | (with_reducible exact set_List.mono _ _)
      | (with_reducible exact set_Of.mono _ _)
      | (with_reducible exact tollbarlaw02_alive.mono _)
      | (with_reducible exact tollbarref01_SameInts.mono _ _ _)
      | (with_reducible exact tollbarref02_Has.mono _ _ _)
      | (with_reducible exact tollbarref02_In.mono _ _ _)
      | (with_reducible exact tollbarref02_Less.mono _ _ _)
      | (with_reducible exact tollbarref02_List.mono _ _)
      | (with_reducible exact tollbarref02_Of.mono _ _)
      | (with_reducible exact tollbarref02_With.mono _ _ _)
      | (with_reducible exact LeO.refl _)
      | (with_reducible exact LeO.none _)
      | (with_reducible refine LeO.ite ?_ ?_)
      | (with_reducible refine LeO.bind ?_ (fun _ => ?_))
      | exact ih0 _ _ _ _ _ _ _
      | exact ih1 _ _ _ _ _ _ _
      | exact ih2 _ _ _ _ _ _ _ _
      | exact set_Least.mono _ _
      | exact set_Len.mono _ _
      | exact set_List.mono _ _
      | exact set_Of.mono _ _
      | exact tollbarlaw02_alive.mono _
      | exact tollbarref01_SameInts.mono _ _ _
      | exact tollbarref02_Has.mono _ _ _
      | exact tollbarref02_In.mono _ _ _
      | exact tollbarref02_Less.mono _ _ _
      | exact tollbarref02_List.mono _ _
      | exact tollbarref02_Of.mono _ _
      | exact tollbarref02_With.mono _ _ _
      | exact LeO.none _
      | refine LeO.ite ?_ ?_
      | refine LeO.bind ?_ (fun _ => ?_)
    · intro y0 y1 y2 y3 y4 y5 y6 y7
      unfold tollbarlaw02_SetTells.j2
      repeat' first
      | (with_reducible exact ih0 _ _ _ _ _ _ _)
      | (with_reducible exact ih1 _ _ _ _ _ _ _)
      | (with_reducible exact ih2 _ _ _ _ _ _ _ _)
      | (with_reducible exact set_Least.mono _ _)
      | (with_reducible exact set_Len.mono _ _)
      | (with_reducible exact set_List.mono _ _)
      | (with_reducible exact set_Of.mono _ _)
      | (with_reducible exact tollbarlaw02_alive.mono _)
      | (with_reducible exact tollbarref01_SameInts.mono _ _ _)
      | (with_reducible exact tollbarref02_Has.mono _ _ _)
      | (with_reducible exact tollbarref02_In.mono _ _ _)
      | (with_reducible exact tollbarref02_Less.mono _ _ _)
      | (with_reducible exact tollbarref02_List.mono _ _)
      | (with_reducible exact tollbarref02_Of.mono _ _)
      | (with_reducible exact tollbarref02_With.mono _ _ _)
      | (with_reducible exact LeO.refl _)
      | (with_reducible exact LeO.none _)
      | (with_reducible refine LeO.ite ?_ ?_)
      | (with_reducible refine LeO.bind ?_ (fun _ => ?_))
      | exact ih0 _ _ _ _ _ _ _
      | exact ih1 _ _ _ _ _ _ _
      | exact ih2 _ _ _ _ _ _ _ _
      | exact set_Least.mono _ _
      | exact set_Len.mono _ _
      | exact set_List.mono _ _
      | exact set_Of.mono _ _
      | exact tollbarlaw02_alive.mono _
      | exact tollbarref01_SameInts.mono _ _ _
      | exact tollbarref02_Has.mono _ _ _
      | exact tollbarref02_In.mono _ _ _
      | exact tollbarref02_Less.mono _ _ _
      | exact tollbarref02_List.mono _ _
      | exact tollbarref02_Of.mono _ _
      | exact tollbarref02_With.mono _ _ _
      | exact LeO.none _
      | refine LeO.ite ?_ ?_
      | refine LeO.bind ?_ (fun _ => ?_)
theorem tollbarlaw02_SetTells.mono : ∀ a0 a1 a2 a3 k, LeO (tollbarlaw02_SetTells.f k a0 a1 a2 a3) (tollbarlaw02_SetTells.f (k + 1) a0 a1 a2 a3) := by
  intro a0 a1 a2 a3 k
  obtain ⟨ih0, ih1, ih2⟩ := tollbarlaw02_SetTells.mono_l k
  unfold tollbarlaw02_SetTells.f
  repeat' first
      | (with_reducible exact ih0 _ _ _ _ _ _ _)
      | (with_reducible exact ih1 _ _ _ _ _ _ _)
      | (with_reducible exact ih2 _ _ _ _ _ _ _ _)
      | (with_reducible exact set_Least.mono _ _)
      | (with_reducible exact set_Len.mono _ _)
      | (with_reducible exact set_List.mono _ _)
      | (with_reducible exact set_Of.mono _ _)
      | (with_reducible exact tollbarlaw02_alive.mono _)
      | (with_reducible exact tollbarref01_SameInts.mono _ _ _)
      | (with_reducible exact tollbarref02_Has.mono _ _ _)
      | (with_reducible exact tollbarref02_In.mono _ _ _)
      | (with_reducible exact tollbarref02_Less.mono _ _ _)
      | (with_reducible exact tollbarref02_List.mono _ _)
      | (with_reducible exact tollbarref02_Of.mono _ _)
      | (with_reducible exact tollbarref02_With.mono _ _ _)
      | (with_reducible exact LeO.refl _)
      | (with_reducible exact LeO.none _)
      | (with_reducible refine LeO.ite ?_ ?_)
      | (with_reducible refine LeO.bind ?_ (fun _ => ?_))
      | exact ih0 _ _ _ _ _ _ _
      | exact ih1 _ _ _ _ _ _ _
      | exact ih2 _ _ _ _ _ _ _ _
      | exact set_Least.mono _ _
      | exact set_Len.mono _ _
      | exact set_List.mono _ _
      | exact set_Of.mono _ _
      | exact tollbarlaw02_alive.mono _
      | exact tollbarref01_SameInts.mono _ _ _
      | exact tollbarref02_Has.mono _ _ _
      | exact tollbarref02_In.mono _ _ _
      | exact tollbarref02_Less.mono _ _ _
      | exact tollbarref02_List.mono _ _
      | exact tollbarref02_Of.mono _ _
      | exact tollbarref02_With.mono _ _ _
      | exact LeO.none _
      | refine LeO.ite ?_ ?_
      | refine LeO.bind ?_ (fun _ => ?_)
set_option maxHeartbeats 8000000 in
set_option maxRecDepth 100000 in
theorem tollbarlaw02_SetTells.calls (k : Nat) (a0 : Int) (a1 : Int) (a2 : Int) (A3 : Option Addr) (c3 : Nat) (l3 : List Int) (r : Bool) (w : World) (hr3 : Kd.C (Kd.int .i64) w A3 l3.length l3) (hc3 : l3.length ≤ c3) (hL : l3.length * 8 ≤ 140737488351232) (h : tollbarlaw02_SetTells.f k a0 a1 a2 l3 = some r) :
    Calls Try.prog 3 #[.int .u64 a0, .int .u64 a1, .int .i64 a2, .slice A3 l3.length c3] w fun e w' => e = .returned (.bool r) ∧ Below w.heap.size w w' := by
  have HR3 := Aside0.mk hr3
  have HL3 := Aside0.mk hL
  clear hL
  have HC3 := Aside0.mk hc3
  clear hr3 hc3
  have HB := Aside0.mk (Below.refl w.heap.size w)
  have H : (if (l3.length : Int) > 300 then ((tollbarlaw02_alive.f k).bind fun t154 => (some t154)) else ((set_Least.f k a0).bind fun bt155 => ((tollbarref02_List.f k a0).bind fun t157 => (if (bt155.2 != (decide ((t157.length : Int) > 0))) = true then (tollbarlaw02_SetTells.j0 k a0 a1 a2 l3 bt155.1 t157 true) else (if bt155.2 = true then (tollbarlaw02_SetTells.j0 k a0 a1 a2 l3 bt155.1 t157 false) else (tollbarlaw02_SetTells.j0 k a0 a1 a2 l3 bt155.1 t157 (bt155.1 != 0))))))) = some r := h
  clear h
  by_cases c5 : (l3.length : Int) > 300
  · rw [if_pos c5] at H
    have c5b0 : decide (300 < (l3.length : Int)) = true := decide_eq_true c5
    have c5b1 : decide (300 < l3.length) = true := decide_eq_true (by omega)
    clear c5
    replace H := Option.bind_eq_some_iff.mp H
    obtain ⟨t154, A60, H⟩ := H
    replace H : (some t154) = some r := H
    have A6 := Aside0.mk A60
    clear A60
    obtain rfl := Option.some.inj H
    go_enter Try.func3, Try.ntmps3
    go_wp2_with (first | ((with_reducible refine gate_callee (f := 5) rfl ?_); refine goesL_ (some 16) rfl rfl Try.func5 (by kernel_rfl) rfl #[] rfl (by (try simp only [List.map_toArray, List.map_cons, List.map_nil]); first | done | rfl | (simp only [List.length_drop, List.length_take]; rfl)) ?_; (with_reducible refine (tollbarlaw02_alive.calls k  t154 _ A6.out).mono ?_); rintro e w7 ⟨rfl, hb⟩; refine ⟨_, rfl, ?_⟩; have n0_ := Aside0.mk (below_step (by repeat (first | (with_reducible first | exact HB.out | apply below_alloc | apply pw_below_drewN | apply below_drew1) | exact HB.out)) hb); clear HB; have HB := n0_; clear n0_; (try clear hb); (try clear hb2); (try clear hk); (try clear hi)))
    go_ret
    exact ⟨by first | rfl | (simp [errW_none, errW_some] <;> rfl) | (simp [*, errW_none, errW_some] <;> rfl), by repeat (first | (with_reducible first | exact HB.out | apply below_alloc | apply pw_below_drewN | apply below_drew1) | exact HB.out)⟩
  · rw [if_neg c5] at H
    have c5b0 : decide (300 < (l3.length : Int)) = false := decide_eq_false c5
    have c5b1 : decide (300 < l3.length) = false := decide_eq_false (by omega)
    clear c5
    replace H := Option.bind_eq_some_iff.mp H
    obtain ⟨⟨t155, t156⟩, A80, H⟩ := H
    replace H : ((tollbarref02_List.f k a0).bind fun t157 => (if (t156 != (decide ((t157.length : Int) > 0))) = true then (tollbarlaw02_SetTells.j0 k a0 a1 a2 l3 t155 t157 true) else (if t156 = true then (tollbarlaw02_SetTells.j0 k a0 a1 a2 l3 t155 t157 false) else (tollbarlaw02_SetTells.j0 k a0 a1 a2 l3 t155 t157 (t155 != 0))))) = some r := H
    have A8 := Aside0.mk A80
    clear A80
    replace H := Option.bind_eq_some_iff.mp H
    obtain ⟨t157, A90, H⟩ := H
    replace H : (if (t156 != (decide ((t157.length : Int) > 0))) = true then (tollbarlaw02_SetTells.j0 k a0 a1 a2 l3 t155 t157 true) else (if t156 = true then (tollbarlaw02_SetTells.j0 k a0 a1 a2 l3 t155 t157 false) else (tollbarlaw02_SetTells.j0 k a0 a1 a2 l3 t155 t157 (t155 != 0)))) = some r := H
    have A9 := Aside0.mk A90
    clear A90
    have HC10 := Aside0.mk H
    clear H
    go_enter Try.func3, Try.ntmps3
    go_upto_region 5 with (first | ((with_reducible refine gate_callee (f := 6) rfl ?_); refine goesL_ (some 19) rfl rfl Try.func6 (by kernel_rfl) rfl #[.int .u64 a0] rfl (by (try simp only [List.map_toArray, List.map_cons, List.map_nil]); first | done | rfl | (simp only [List.length_drop, List.length_take]; rfl)) ?_; (with_reducible refine (set_Least.calls k a0 t155 t156 _ A8.out).mono ?_); rintro e w11 ⟨rfl, hb⟩; refine ⟨_, rfl, ?_⟩; have n0_ := Aside0.mk (below_step (by repeat (first | (with_reducible first | exact HB.out | apply below_alloc | apply pw_below_drewN | apply below_drew1) | exact HB.out)) hb); clear HB; have HB := n0_; clear n0_; (try clear hb); (try clear hb2); (try clear hk); (try clear hi)) | ((with_reducible refine gate_callee (f := 7) rfl ?_); refine goesL_ (some 23) rfl rfl Try.func7 (by kernel_rfl) rfl #[.int .u64 a0] rfl (by (try simp only [List.map_toArray, List.map_cons, List.map_nil]); first | done | rfl | (simp only [List.length_drop, List.length_take]; rfl)) ?_; (with_reducible refine (tollbarref02_List.calls k a0 t157 _ A9.out).mono ?_); rintro e w12 ⟨v158, rfl, ho0, hb⟩; refine ⟨_, rfl, ?_⟩; have n0_ := Aside0.mk (Kd.R_lower ho0 (below_size (by repeat (first | (with_reducible first | exact HB.out | apply below_alloc | apply pw_below_drewN | apply below_drew1) | exact HB.out)))); have n1_ := Aside0.mk (below_step (by repeat (first | (with_reducible first | exact HB.out | apply below_alloc | apply pw_below_drewN | apply below_drew1) | exact HB.out)) hb); clear HB; have HO159 := n0_; have HB := n1_; clear n0_ n1_; (try clear hb); (try clear hb2); (try clear hk); (try clear hi); (try clear ho0)))
    (try simp only [Act.put, List.setIfInBounds_toArray, List.set_cons_zero, List.set_cons_succ])
    go_cut [36] (fun v36 wc => ∃ (kq : Nat) (x36_9 : Bool), v36 = .bool x36_9 ∧ Aside0 (tollbarlaw02_SetTells.j0 kq a0 a1 a2 l3 t155 t157 x36_9 = some r) ∧ Aside0 (kq ≤ k) ∧ Aside0 (Kd.R (Kd.int .i64) 3 wc w.heap.size (fun _ => True) v158 t157) ∧ Aside0 (Below w.heap.size w wc))
    case first =>
      have H := HC10.out
      clear HC10
      by_cases c13 : (t156 != (decide ((t157.length : Int) > 0))) = true
      · rw [if_pos c13] at H
        have c13b0 : (t156 != (decide ((t157.length : Int) > 0))) = true := c13
        (try (have c13b1 : decide (t156 = (decide ((t157.length : Int) > 0))) = false := by simpa using c13))
        (try (have c13b2 : (t156 == (decide ((t157.length : Int) > 0))) = false := by simpa using c13))
        (try (have c13b3 : ¬ (t156 = (decide ((t157.length : Int) > 0))) := by simpa using c13))
        clear c13
        have c13e : decide ((t157.length : Int) > 0) = decide (0 < t157.length) := by (simp only [decide_eq_decide]; omega)
        have c13w0 : (t156 != (decide (0 < t157.length))) = true := by rw [← c13e]; exact c13b0
        have c13w1 := eq_false (bne_iff_ne.1 c13w0)
        clear c13e
        (first | rw [c13b0] | (simp only [i64_w, i32_w]; rw [c13b0]) | skip)
        have H' := Aside0.mk H
        clear H
        obtain ⟨Ao14, co14, eo14⟩ := Kd.R_slice HO159.out
        subst eo14
        go_wp2
        go_meet
        case rel => exact ⟨_, (true), (by first | rfl | (simp; done) | (simp [*]; done)), H', ⟨by first | omega | exact Nat.le_refl _⟩, ⟨by (with_reducible repeat (first | apply Kd.R_alloc | apply Kd.R_drewN | apply Kd.R_drew)); exact HO159.out⟩, ⟨by repeat (first | (with_reducible first | exact HB.out | apply below_alloc | apply pw_below_drewN | apply below_drew1) | exact HB.out)⟩⟩
      · rw [if_neg c13] at H
        have c13b0 : (t156 != (decide ((t157.length : Int) > 0))) = false := by simpa using c13
        (try (have c13b1 : decide (t156 = (decide ((t157.length : Int) > 0))) = true := by simpa using c13))
        (try (have c13b2 : (t156 == (decide ((t157.length : Int) > 0))) = true := by simpa using c13))
        clear c13
        have c13e : decide ((t157.length : Int) > 0) = decide (0 < t157.length) := by (simp only [decide_eq_decide]; omega)
        have c13w0 : (t156 != (decide (0 < t157.length))) = false := by rw [← c13e]; exact c13b0
        have c13w1 := eq_true (bne_eq_false_iff_eq.1 c13w0)
        clear c13e
        (first | rw [c13b0] | (simp only [i64_w, i32_w]; rw [c13b0]) | skip)
        by_cases c15 : t156 = true
        · subst c15
          have c13z : 0 < t157.length := of_decide_eq_true (bne_eq_false_iff_eq.1 c13w0).symm
          clear c13w0 c13w1
          have H1 : (tollbarlaw02_SetTells.j0 k a0 a1 a2 l3 t155 t157 false) = some r := by rw [if_pos rfl] at H; exact H
          clear H
          have H := H1
          clear H1
          have H' := Aside0.mk H
          clear H
          obtain ⟨Ao16, co16, eo16⟩ := Kd.R_slice HO159.out
          subst eo16
          go_wp2
          go_meet
          case rel => exact ⟨_, (false), (by first | rfl | (simp; done) | (simp [*]; done)), H', ⟨by first | omega | exact Nat.le_refl _⟩, ⟨by (with_reducible repeat (first | apply Kd.R_alloc | apply Kd.R_drewN | apply Kd.R_drew)); exact HO159.out⟩, ⟨by repeat (first | (with_reducible first | exact HB.out | apply below_alloc | apply pw_below_drewN | apply below_drew1) | exact HB.out)⟩⟩
        · replace c15 := Bool.eq_false_iff.mpr c15
          subst c15
          have c13z := eq_true (show t157 = [] from List.length_eq_zero_iff.1 (by have := of_decide_eq_false (bne_eq_false_iff_eq.1 c13w0).symm; omega))
          clear c13w0 c13w1
          have H1 : (tollbarlaw02_SetTells.j0 k a0 a1 a2 l3 t155 t157 (t155 != 0)) = some r := by rw [if_neg (show ¬ (false = true) by decide)] at H; exact H
          clear H
          have H := H1
          clear H1
          have H' := Aside0.mk H
          clear H
          obtain ⟨Ao17, co17, eo17⟩ := Kd.R_slice HO159.out
          subst eo17
          go_wp2
          go_meet
          case rel => exact ⟨_, ((t155 != 0)), (by first | rfl | (simp; done) | (have h7 : t157 = [] := of_eq_true c13z; subst h7; simp; done) | (simp [*]; done)), H', ⟨by first | omega | exact Nat.le_refl _⟩, ⟨by (with_reducible repeat (first | apply Kd.R_alloc | apply Kd.R_drewN | apply Kd.R_drew)); exact HO159.out⟩, ⟨by repeat (first | (with_reducible first | exact HB.out | apply below_alloc | apply pw_below_drewN | apply below_drew1) | exact HB.out)⟩⟩
    case rest =>
      clear HC10
      try clear c1
      try clear p2
      try clear c3
      try clear c5
      try clear c5b0
      try clear c5b1
      try clear c6
      try clear c7
      try clear c13
      try clear c13b0
      try clear c13b1
      try clear c13b2
      try clear c15
      obtain ⟨kq, x36_9, rfl, HA, HJ9, HO_11, HB⟩ := hcut
      cases kq with
      | zero => exact absurd HA.out (by simp [tollbarlaw02_SetTells.j0])
      | succ kj9 =>
        have H := HA.out
        clear HA
        simp only [tollbarlaw02_SetTells.j0] at H
        by_cases c18 : x36_9 = true
        · subst c18
          have H1 : (some false) = some r := by rw [if_pos rfl] at H; exact H
          clear H
          have H := H1
          clear H1
          obtain rfl := Option.some.inj H
          go_wp2
          go_ret
          exact ⟨by first | rfl | (simp [errW_none, errW_some] <;> rfl) | (simp [*, errW_none, errW_some] <;> rfl), by repeat (first | (with_reducible first | exact HB.out | apply below_alloc | apply pw_below_drewN | apply below_drew1) | exact HB.out)⟩
        · replace c18 := Bool.eq_false_iff.mpr c18
          subst c18
          have H1 : (tollbarlaw02_SetTells.l0 kj9 a0 a1 a2 l3 t155 t157 0) = some r := by rw [if_neg (show ¬ (false = true) by decide)] at H; exact H
          clear H
          have H := H1
          clear H1
          have H' := Aside0.mk H
          clear H
          go_wp2
          go_loopg [12] kj9 (fun kq v12 w' => ∃ (x12_2 : Int), v12 = .int .i64 x12_2 ∧ Aside0 (tollbarlaw02_SetTells.l0 kq a0 a1 a2 l3 t155 t157 x12_2 = some r) ∧ Aside0 (kq ≤ kj9) ∧ Aside0 (Kd.R (Kd.int .i64) 3 w' w.heap.size (fun _ => True) v158 t157) ∧ Aside0 (Below w.heap.size w w'))
          case atStart => exact ⟨(0), (by first | rfl | (simp; done) | (simp [*]; done)), H', ⟨Nat.le_refl _⟩, ⟨by (with_reducible repeat (first | apply Kd.R_alloc | apply Kd.R_drewN | apply Kd.R_drew)); exact HO_11.out⟩, ⟨by repeat (first | (with_reducible first | exact HB.out | apply below_alloc | apply pw_below_drewN | apply below_drew1) | exact HB.out)⟩⟩
          case round =>
            clear H'
            try clear c1
            try clear p2
            try clear c3
            try clear c5
            try clear c5b0
            try clear c5b1
            try clear c6
            try clear c7
            try clear c13
            try clear c13b0
            try clear c13b1
            try clear c13b2
            try clear c15
            try clear c18
            try clear p2
            obtain ⟨x12_2, rfl, HA, HK2, HO_11, HB⟩ := hrel
            cases gk with
            | zero => exact absurd HA.out (by simp [tollbarlaw02_SetTells.l0])
            | succ k2 =>
              have H := HA.out
              clear HA
              simp only [tollbarlaw02_SetTells.l0] at H
              have HC19 := Aside0.mk H
              clear H
              go_upto_region 8 with (fail)
              go_cut [44] (fun v44 wc => ∃ (kq : Nat) (x44_18 : Bool), v44 = .bool x44_18 ∧ Aside0 (tollbarlaw02_SetTells.j2 kq a0 a1 a2 l3 t155 t157 x12_2 x44_18 = some r) ∧ Aside0 (kq ≤ k2) ∧ Aside0 (Kd.R (Kd.int .i64) 3 wc w.heap.size (fun _ => True) v158 t157) ∧ Aside0 (Below w.heap.size w wc))
              case first =>
                have H := HC19.out
                clear HC19
                by_cases c20 : x12_2 < (t157.length : Int)
                · rw [if_pos c20] at H
                  have c20b0 : decide (x12_2 < (t157.length : Int)) = true := decide_eq_true c20
                  clear c20
                  (first | rw [c20b0] | (simp only [i64_w, i32_w]; rw [c20b0]) | skip)
                  have H' := Aside0.mk H
                  clear H
                  obtain ⟨Ao21, co21, eo21⟩ := Kd.R_slice HO_11.out
                  subst eo21
                  go_wp2
                  go_meet
                  case rel => exact ⟨_, (decide (x12_2 < 1)), (by first | rfl | (simp; done) | (simp [*]; done)), H', ⟨by have := HJ9.out; have := HK2.out; first | omega | exact Nat.le_refl _⟩, ⟨by (with_reducible repeat (first | apply Kd.R_alloc | apply Kd.R_drewN | apply Kd.R_drew)); exact HO_11.out⟩, ⟨by repeat (first | (with_reducible first | exact HB.out | apply below_alloc | apply pw_below_drewN | apply below_drew1) | exact HB.out)⟩⟩
                · rw [if_neg c20] at H
                  have c20b0 : decide (x12_2 < (t157.length : Int)) = false := decide_eq_false c20
                  clear c20
                  (first | rw [c20b0] | (simp only [i64_w, i32_w]; rw [c20b0]) | skip)
                  have H' := Aside0.mk H
                  clear H
                  obtain ⟨Ao22, co22, eo22⟩ := Kd.R_slice HO_11.out
                  subst eo22
                  go_wp2
                  go_meet
                  case rel => exact ⟨_, (false), (by first | rfl | (simp; done) | (simp [*]; done)), H', ⟨by have := HJ9.out; have := HK2.out; first | omega | exact Nat.le_refl _⟩, ⟨by (with_reducible repeat (first | apply Kd.R_alloc | apply Kd.R_drewN | apply Kd.R_drew)); exact HO_11.out⟩, ⟨by repeat (first | (with_reducible first | exact HB.out | apply below_alloc | apply pw_below_drewN | apply below_drew1) | exact HB.out)⟩⟩
              case rest =>
                clear HC19
                try clear c1
                try clear c2
                try clear p2
                try clear c3
                try clear c5
                try clear c5b0
                try clear c5b1
                try clear c6
                try clear c7
                try clear c13
                try clear c13b0
                try clear c13b1
                try clear c13b2
                try clear c15
                try clear c18
                try clear c20
                try clear c20b0
                try clear p2
                obtain ⟨kq, x44_18, rfl, HA, HJ18, HO_11, HB⟩ := hcut
                cases kq with
                | zero => exact absurd HA.out (by simp [tollbarlaw02_SetTells.j2])
                | succ kj18 =>
                  have H := HA.out
                  clear HA
                  simp only [tollbarlaw02_SetTells.j2] at H
                  by_cases c23 : x44_18 = true
                  · subst c23
                    have H1 : (if 0 ≤ x12_2 then (if x12_2 < (t157.length : Int) then (if t155 = (rd t157 x12_2) then (tollbarlaw02_SetTells.l0 kj18 a0 a1 a2 l3 t155 t157 (wrap64 (x12_2 + 1))) else (some false)) else (none)) else (none)) = some r := by rw [if_pos rfl] at H; exact H
                    clear H
                    have H := H1
                    clear H1
                    by_cases c24 : 0 ≤ x12_2
                    · rw [if_pos c24] at H
                      have c24b0 : decide (0 ≤ x12_2) = true := decide_eq_true c24
                      clear c24
                      by_cases c25 : x12_2 < (t157.length : Int)
                      · rw [if_pos c25] at H
                        have c25b0 : decide (x12_2 < (t157.length : Int)) = true := decide_eq_true c25
                        clear c25
                        by_cases c26 : t155 = (rd t157 x12_2)
                        · rw [if_pos c26] at H
                          have c26b0 : (t155 == (rd t157 x12_2)) = true := beq_iff_eq.mpr c26
                          have c26b1 : (t155 != (rd t157 x12_2)) = false := bne_eq_false_iff_eq.mpr c26
                          clear c26
                          have H' := Aside0.mk H
                          clear H
                          obtain ⟨Ao27, co27, eo27⟩ := Kd.R_slice HO_11.out
                          subst eo27
                          have p160 : 0 ≤ (x12_2 : Int) := of_decide_eq_true (by first | (with_reducible assumption) | assumption)
                          have q160 : x12_2 < (t157.length : Int) := of_decide_eq_true (by first | (with_reducible assumption) | assumption)
                          obtain ⟨ad160, e160, hx160_0⟩ := Kd.at_int (Kd.R_reads' HO_11.out).2.2 x12_2 p160 q160
                          cases e160
                          replace p160 := eq_true p160
                          replace q160 := eq_true q160
                          go_wp2
                          go_roundg kj18
                          case measure => have := HJ9.out; have := HK2.out; have := HJ18.out; omega
                          case rel => exact ⟨(wrap64 (x12_2 + 1)), (by first | rfl | (simp; done) | (simp [*]; done)), H', ⟨by have := HJ9.out; have := HK2.out; have := HJ18.out; omega⟩, ⟨by (with_reducible repeat (first | apply Kd.R_alloc | apply Kd.R_drewN | apply Kd.R_drew)); exact HO_11.out⟩, ⟨by repeat (first | (with_reducible first | exact HB.out | apply below_alloc | apply pw_below_drewN | apply below_drew1) | exact HB.out)⟩⟩
                        · rw [if_neg c26] at H
                          have c26b0 : (t155 == (rd t157 x12_2)) = false := beq_eq_false_iff_ne.mpr c26
                          have c26b1 : (t155 != (rd t157 x12_2)) = true := bne_iff_ne.mpr c26
                          obtain rfl := Option.some.inj H
                          obtain ⟨Ao28, co28, eo28⟩ := Kd.R_slice HO_11.out
                          subst eo28
                          have p160 : 0 ≤ (x12_2 : Int) := of_decide_eq_true (by first | (with_reducible assumption) | assumption)
                          have q160 : x12_2 < (t157.length : Int) := of_decide_eq_true (by first | (with_reducible assumption) | assumption)
                          obtain ⟨ad160, e160, hx160_0⟩ := Kd.at_int (Kd.R_reads' HO_11.out).2.2 x12_2 p160 q160
                          cases e160
                          replace p160 := eq_true p160
                          replace q160 := eq_true q160
                          go_wp2
                          go_ret
                          exact ⟨by first | rfl | (simp [errW_none, errW_some] <;> rfl) | (simp [*, errW_none, errW_some] <;> rfl), by repeat (first | (with_reducible first | exact HB.out | apply below_alloc | apply pw_below_drewN | apply below_drew1) | exact HB.out)⟩
                      · rw [if_neg c25] at H
                        exact absurd H (by simp)
                    · rw [if_neg c24] at H
                      exact absurd H (by simp)
                  · replace c23 := Bool.eq_false_iff.mpr c23
                    subst c23
                    have H1 : ((set_Has.f a0 a2).bind fun t161 => ((tollbarref02_Has.f kj18 a0 a2).bind fun t162 => (if (t161 == t162) = true then ((set_With.f a0 a2).bind fun t163 => ((tollbarref02_With.f kj18 a0 a2).bind fun t164 => (if t163 = t164 then ((set_Less.f a0 a2).bind fun t165 => ((tollbarref02_Less.f kj18 a0 a2).bind fun t166 => (if t165 = t166 then ((set_Len.f kj18 a0).bind fun t167 => (if t167 = (t157.length : Int) then ((set_List.f kj18 a0).bind fun t168 => ((tollbarref01_SameInts.f kj18 t168 t157).bind fun t171 => (if t171 = true then ((set_In.f a0 a1).bind fun t172 => ((tollbarref02_In.f kj18 a0 a1).bind fun t173 => (if (t172 == t173) = true then ((set_Of.f kj18 l3).bind fun t174 => ((tollbarref02_Of.f kj18 l3).bind fun t175 => (if t174 = t175 then ((tollbarlaw02_alive.f kj18).bind fun t176 => (some t176)) else (some false)))) else (some false)))) else (some false)))) else (some false))) else (some false)))) else (some false)))) else (some false)))) = some r := by rw [if_neg (show ¬ (false = true) by decide)] at H; exact H
                    clear H
                    have H := H1
                    clear H1
                    replace H := Option.bind_eq_some_iff.mp H
                    obtain ⟨t161, A290, H⟩ := H
                    replace H : ((tollbarref02_Has.f kj18 a0 a2).bind fun t162 => (if (t161 == t162) = true then ((set_With.f a0 a2).bind fun t163 => ((tollbarref02_With.f kj18 a0 a2).bind fun t164 => (if t163 = t164 then ((set_Less.f a0 a2).bind fun t165 => ((tollbarref02_Less.f kj18 a0 a2).bind fun t166 => (if t165 = t166 then ((set_Len.f kj18 a0).bind fun t167 => (if t167 = (t157.length : Int) then ((set_List.f kj18 a0).bind fun t168 => ((tollbarref01_SameInts.f kj18 t168 t157).bind fun t171 => (if t171 = true then ((set_In.f a0 a1).bind fun t172 => ((tollbarref02_In.f kj18 a0 a1).bind fun t173 => (if (t172 == t173) = true then ((set_Of.f kj18 l3).bind fun t174 => ((tollbarref02_Of.f kj18 l3).bind fun t175 => (if t174 = t175 then ((tollbarlaw02_alive.f kj18).bind fun t176 => (some t176)) else (some false)))) else (some false)))) else (some false)))) else (some false))) else (some false)))) else (some false)))) else (some false))) = some r := H
                    have A29 := Aside0.mk A290
                    clear A290
                    replace H := Option.bind_eq_some_iff.mp H
                    obtain ⟨t162, A300, H⟩ := H
                    replace H : (if (t161 == t162) = true then ((set_With.f a0 a2).bind fun t163 => ((tollbarref02_With.f kj18 a0 a2).bind fun t164 => (if t163 = t164 then ((set_Less.f a0 a2).bind fun t165 => ((tollbarref02_Less.f kj18 a0 a2).bind fun t166 => (if t165 = t166 then ((set_Len.f kj18 a0).bind fun t167 => (if t167 = (t157.length : Int) then ((set_List.f kj18 a0).bind fun t168 => ((tollbarref01_SameInts.f kj18 t168 t157).bind fun t171 => (if t171 = true then ((set_In.f a0 a1).bind fun t172 => ((tollbarref02_In.f kj18 a0 a1).bind fun t173 => (if (t172 == t173) = true then ((set_Of.f kj18 l3).bind fun t174 => ((tollbarref02_Of.f kj18 l3).bind fun t175 => (if t174 = t175 then ((tollbarlaw02_alive.f kj18).bind fun t176 => (some t176)) else (some false)))) else (some false)))) else (some false)))) else (some false))) else (some false)))) else (some false)))) else (some false)) = some r := H
                    have A30 := Aside0.mk A300
                    clear A300
                    by_cases c31 : (t161 == t162) = true
                    · rw [if_pos c31] at H
                      have c31b0 : (t161 == t162) = true := c31
                      (try (have c31b1 : decide (t161 = t162) = true := by simpa using c31))
                      (try (have c31b2 : (t161 == t162) = true := by simpa using c31))
                      clear c31
                      replace H := Option.bind_eq_some_iff.mp H
                      obtain ⟨t163, A320, H⟩ := H
                      replace H : ((tollbarref02_With.f kj18 a0 a2).bind fun t164 => (if t163 = t164 then ((set_Less.f a0 a2).bind fun t165 => ((tollbarref02_Less.f kj18 a0 a2).bind fun t166 => (if t165 = t166 then ((set_Len.f kj18 a0).bind fun t167 => (if t167 = (t157.length : Int) then ((set_List.f kj18 a0).bind fun t168 => ((tollbarref01_SameInts.f kj18 t168 t157).bind fun t171 => (if t171 = true then ((set_In.f a0 a1).bind fun t172 => ((tollbarref02_In.f kj18 a0 a1).bind fun t173 => (if (t172 == t173) = true then ((set_Of.f kj18 l3).bind fun t174 => ((tollbarref02_Of.f kj18 l3).bind fun t175 => (if t174 = t175 then ((tollbarlaw02_alive.f kj18).bind fun t176 => (some t176)) else (some false)))) else (some false)))) else (some false)))) else (some false))) else (some false)))) else (some false))) = some r := H
                      have A32 := Aside0.mk A320
                      clear A320
                      replace H := Option.bind_eq_some_iff.mp H
                      obtain ⟨t164, A330, H⟩ := H
                      replace H : (if t163 = t164 then ((set_Less.f a0 a2).bind fun t165 => ((tollbarref02_Less.f kj18 a0 a2).bind fun t166 => (if t165 = t166 then ((set_Len.f kj18 a0).bind fun t167 => (if t167 = (t157.length : Int) then ((set_List.f kj18 a0).bind fun t168 => ((tollbarref01_SameInts.f kj18 t168 t157).bind fun t171 => (if t171 = true then ((set_In.f a0 a1).bind fun t172 => ((tollbarref02_In.f kj18 a0 a1).bind fun t173 => (if (t172 == t173) = true then ((set_Of.f kj18 l3).bind fun t174 => ((tollbarref02_Of.f kj18 l3).bind fun t175 => (if t174 = t175 then ((tollbarlaw02_alive.f kj18).bind fun t176 => (some t176)) else (some false)))) else (some false)))) else (some false)))) else (some false))) else (some false)))) else (some false)) = some r := H
                      have A33 := Aside0.mk A330
                      clear A330
                      by_cases c34 : t163 = t164
                      · rw [if_pos c34] at H
                        have c34b0 : (t163 == t164) = true := beq_iff_eq.mpr c34
                        have c34b1 : (t163 != t164) = false := bne_eq_false_iff_eq.mpr c34
                        clear c34
                        replace H := Option.bind_eq_some_iff.mp H
                        obtain ⟨t165, A350, H⟩ := H
                        replace H : ((tollbarref02_Less.f kj18 a0 a2).bind fun t166 => (if t165 = t166 then ((set_Len.f kj18 a0).bind fun t167 => (if t167 = (t157.length : Int) then ((set_List.f kj18 a0).bind fun t168 => ((tollbarref01_SameInts.f kj18 t168 t157).bind fun t171 => (if t171 = true then ((set_In.f a0 a1).bind fun t172 => ((tollbarref02_In.f kj18 a0 a1).bind fun t173 => (if (t172 == t173) = true then ((set_Of.f kj18 l3).bind fun t174 => ((tollbarref02_Of.f kj18 l3).bind fun t175 => (if t174 = t175 then ((tollbarlaw02_alive.f kj18).bind fun t176 => (some t176)) else (some false)))) else (some false)))) else (some false)))) else (some false))) else (some false))) = some r := H
                        have A35 := Aside0.mk A350
                        clear A350
                        replace H := Option.bind_eq_some_iff.mp H
                        obtain ⟨t166, A360, H⟩ := H
                        replace H : (if t165 = t166 then ((set_Len.f kj18 a0).bind fun t167 => (if t167 = (t157.length : Int) then ((set_List.f kj18 a0).bind fun t168 => ((tollbarref01_SameInts.f kj18 t168 t157).bind fun t171 => (if t171 = true then ((set_In.f a0 a1).bind fun t172 => ((tollbarref02_In.f kj18 a0 a1).bind fun t173 => (if (t172 == t173) = true then ((set_Of.f kj18 l3).bind fun t174 => ((tollbarref02_Of.f kj18 l3).bind fun t175 => (if t174 = t175 then ((tollbarlaw02_alive.f kj18).bind fun t176 => (some t176)) else (some false)))) else (some false)))) else (some false)))) else (some false))) else (some false)) = some r := H
                        have A36 := Aside0.mk A360
                        clear A360
                        by_cases c37 : t165 = t166
                        · rw [if_pos c37] at H
                          have c37b0 : (t165 == t166) = true := beq_iff_eq.mpr c37
                          have c37b1 : (t165 != t166) = false := bne_eq_false_iff_eq.mpr c37
                          clear c37
                          replace H := Option.bind_eq_some_iff.mp H
                          obtain ⟨t167, A380, H⟩ := H
                          replace H : (if t167 = (t157.length : Int) then ((set_List.f kj18 a0).bind fun t168 => ((tollbarref01_SameInts.f kj18 t168 t157).bind fun t171 => (if t171 = true then ((set_In.f a0 a1).bind fun t172 => ((tollbarref02_In.f kj18 a0 a1).bind fun t173 => (if (t172 == t173) = true then ((set_Of.f kj18 l3).bind fun t174 => ((tollbarref02_Of.f kj18 l3).bind fun t175 => (if t174 = t175 then ((tollbarlaw02_alive.f kj18).bind fun t176 => (some t176)) else (some false)))) else (some false)))) else (some false)))) else (some false)) = some r := H
                          have A38 := Aside0.mk A380
                          clear A380
                          by_cases c39 : t167 = (t157.length : Int)
                          · rw [if_pos c39] at H
                            have c39b0 : (t167 == (t157.length : Int)) = true := beq_iff_eq.mpr c39
                            have c39b1 : (t167 != (t157.length : Int)) = false := bne_eq_false_iff_eq.mpr c39
                            clear c39
                            replace H := Option.bind_eq_some_iff.mp H
                            obtain ⟨t168, A400, H⟩ := H
                            replace H : ((tollbarref01_SameInts.f kj18 t168 t157).bind fun t171 => (if t171 = true then ((set_In.f a0 a1).bind fun t172 => ((tollbarref02_In.f kj18 a0 a1).bind fun t173 => (if (t172 == t173) = true then ((set_Of.f kj18 l3).bind fun t174 => ((tollbarref02_Of.f kj18 l3).bind fun t175 => (if t174 = t175 then ((tollbarlaw02_alive.f kj18).bind fun t176 => (some t176)) else (some false)))) else (some false)))) else (some false))) = some r := H
                            have A40 := Aside0.mk A400
                            clear A400
                            replace H := Option.bind_eq_some_iff.mp H
                            obtain ⟨t171, A410, H⟩ := H
                            replace H : (if t171 = true then ((set_In.f a0 a1).bind fun t172 => ((tollbarref02_In.f kj18 a0 a1).bind fun t173 => (if (t172 == t173) = true then ((set_Of.f kj18 l3).bind fun t174 => ((tollbarref02_Of.f kj18 l3).bind fun t175 => (if t174 = t175 then ((tollbarlaw02_alive.f kj18).bind fun t176 => (some t176)) else (some false)))) else (some false)))) else (some false)) = some r := H
                            have A41 := Aside0.mk A410
                            clear A410
                            by_cases c42 : t171 = true
                            · subst c42
                              have H1 : ((set_In.f a0 a1).bind fun t172 => ((tollbarref02_In.f kj18 a0 a1).bind fun t173 => (if (t172 == t173) = true then ((set_Of.f kj18 l3).bind fun t174 => ((tollbarref02_Of.f kj18 l3).bind fun t175 => (if t174 = t175 then ((tollbarlaw02_alive.f kj18).bind fun t176 => (some t176)) else (some false)))) else (some false)))) = some r := by rw [if_pos rfl] at H; exact H
                              clear H
                              have H := H1
                              clear H1
                              replace H := Option.bind_eq_some_iff.mp H
                              obtain ⟨t172, A430, H⟩ := H
                              replace H : ((tollbarref02_In.f kj18 a0 a1).bind fun t173 => (if (t172 == t173) = true then ((set_Of.f kj18 l3).bind fun t174 => ((tollbarref02_Of.f kj18 l3).bind fun t175 => (if t174 = t175 then ((tollbarlaw02_alive.f kj18).bind fun t176 => (some t176)) else (some false)))) else (some false))) = some r := H
                              have A43 := Aside0.mk A430
                              clear A430
                              replace H := Option.bind_eq_some_iff.mp H
                              obtain ⟨t173, A440, H⟩ := H
                              replace H : (if (t172 == t173) = true then ((set_Of.f kj18 l3).bind fun t174 => ((tollbarref02_Of.f kj18 l3).bind fun t175 => (if t174 = t175 then ((tollbarlaw02_alive.f kj18).bind fun t176 => (some t176)) else (some false)))) else (some false)) = some r := H
                              have A44 := Aside0.mk A440
                              clear A440
                              by_cases c45 : (t172 == t173) = true
                              · rw [if_pos c45] at H
                                have c45b0 : (t172 == t173) = true := c45
                                (try (have c45b1 : decide (t172 = t173) = true := by simpa using c45))
                                (try (have c45b2 : (t172 == t173) = true := by simpa using c45))
                                clear c45
                                replace H := Option.bind_eq_some_iff.mp H
                                obtain ⟨t174, A460, H⟩ := H
                                replace H : ((tollbarref02_Of.f kj18 l3).bind fun t175 => (if t174 = t175 then ((tollbarlaw02_alive.f kj18).bind fun t176 => (some t176)) else (some false))) = some r := H
                                have A46 := Aside0.mk A460
                                clear A460
                                replace H := Option.bind_eq_some_iff.mp H
                                obtain ⟨t175, A470, H⟩ := H
                                replace H : (if t174 = t175 then ((tollbarlaw02_alive.f kj18).bind fun t176 => (some t176)) else (some false)) = some r := H
                                have A47 := Aside0.mk A470
                                clear A470
                                by_cases c48 : t174 = t175
                                · rw [if_pos c48] at H
                                  have c48b0 : (t174 == t175) = true := beq_iff_eq.mpr c48
                                  have c48b1 : (t174 != t175) = false := bne_eq_false_iff_eq.mpr c48
                                  clear c48
                                  replace H := Option.bind_eq_some_iff.mp H
                                  obtain ⟨t176, A490, H⟩ := H
                                  replace H : (some t176) = some r := H
                                  have A49 := Aside0.mk A490
                                  clear A490
                                  obtain rfl := Option.some.inj H
                                  go_wp2_with (first | ((with_reducible refine gate_callee (f := 8) rfl ?_); refine goesL_ (some 55) rfl rfl Try.func8 (by kernel_rfl) rfl #[.int .u64 a0, .int .i64 a2] rfl (by (try simp only [List.map_toArray, List.map_cons, List.map_nil]); first | done | rfl | (simp only [List.length_drop, List.length_take]; rfl)) ?_; (with_reducible refine (set_Has.calls a0 a2 t161 _ A29.out).mono ?_); rintro e w' ⟨rfl, ⟨nd, rfl⟩⟩; refine ⟨_, rfl, ?_⟩) | ((with_reducible refine gate_callee (f := 9) rfl ?_); refine goesL_ (some 58) rfl rfl Try.func9 (by kernel_rfl) rfl #[.int .u64 a0, .int .i64 a2] rfl (by (try simp only [List.map_toArray, List.map_cons, List.map_nil]); first | done | rfl | (simp only [List.length_drop, List.length_take]; rfl)) ?_; (with_reducible refine (tollbarref02_Has.calls kj18 a0 a2 t162 _ A30.out).mono ?_); rintro e w' ⟨rfl, ⟨nd, rfl⟩⟩; refine ⟨_, rfl, ?_⟩) | (go_at_call 10; (with_reducible refine (set_With.calls a0 a2 t163 _ A32.out).mono ?_); rintro e w' ⟨rfl, ⟨nd, rfl⟩⟩) | (go_at_call 11; (with_reducible refine (tollbarref02_With.calls kj18 a0 a2 t164 _ A33.out).mono ?_); rintro e w' ⟨rfl, ⟨nd, rfl⟩⟩) | (go_at_call 12; (with_reducible refine (set_Less.calls a0 a2 t165 _ A35.out).mono ?_); rintro e w' ⟨rfl, ⟨nd, rfl⟩⟩) | (go_at_call 13; (with_reducible refine (tollbarref02_Less.calls kj18 a0 a2 t166 _ A36.out).mono ?_); rintro e w' ⟨rfl, ⟨nd, rfl⟩⟩) | (go_at_call 14; (with_reducible refine (set_Len.calls kj18 a0 t167 _ A38.out).mono ?_); rintro e w50 ⟨rfl, hb⟩; have n0_ := Aside0.mk (Kd.R_below (by (with_reducible repeat (first | apply Kd.R_alloc | apply Kd.R_drewN | apply Kd.R_drew)); exact HO_11.out) hb); have n1_ := Aside0.mk (below_step (by repeat (first | (with_reducible first | exact HB.out | apply below_alloc | apply pw_below_drewN | apply below_drew1) | exact HB.out)) hb); clear HO_11; clear HB; have HO_11 := n0_; have HB := n1_; clear n0_ n1_; (try clear hb); (try clear hb2); (try clear hk); (try clear hi); obtain ⟨Ao51, co51, eo51⟩ := Kd.R_slice HO_11.out; subst eo51) | (go_at_call 16; (with_reducible refine (set_List.calls kj18 a0 t168 _ A40.out).mono ?_); rintro e w52 ⟨v169, rfl, ho0, hb⟩; have n0_ := Aside0.mk (Kd.R_elder' (by (with_reducible repeat (first | apply Kd.R_alloc | apply Kd.R_drewN | apply Kd.R_drew)); exact HO_11.out) (Kd.R_base ho0) hb); have n1_ := Aside0.mk (Kd.R_lower (Kd.R_new' ho0 (Kd.R_lt (by (with_reducible repeat (first | apply Kd.R_alloc | apply Kd.R_drewN | apply Kd.R_drew)); exact HO_11.out))) (below_size (by repeat (first | (with_reducible first | exact HB.out | apply below_alloc | apply pw_below_drewN | apply below_drew1) | exact HB.out)))); have n2_ := Aside0.mk (below_step (by repeat (first | (with_reducible first | exact HB.out | apply below_alloc | apply pw_below_drewN | apply below_drew1) | exact HB.out)) hb); clear HO_11; clear HB; have HO_11 := n0_; have HO170 := n1_; have HB := n2_; clear n0_ n1_ n2_; (try clear hb); (try clear hb2); (try clear hk); (try clear hi); (try clear ho0); obtain ⟨Ao53, co53, eo53⟩ := Kd.R_slice HO170.out; subst eo53) | (go_at_call 15; (with_reducible refine (tollbarref01_SameInts.calls kj18 _ _ t168 _ _ t157 true _ ?side1 ?side2 ?side3 ?side4 A41.out).mono ?_); (case side1 => repeat (first | exact (Kd.R_reads' HO170.out).2.2 | (with_reducible refine Kd.C_alloc ?_ _) | (with_reducible refine Kd.C_drewN ?_ _) | (with_reducible refine Kd.C_drew ?_))); (case side2 => exact (Kd.R_reads' HO170.out).2.1); (case side3 => repeat (first | exact (Kd.R_reads' HO_11.out).2.2 | (with_reducible refine Kd.C_alloc ?_ _) | (with_reducible refine Kd.C_drewN ?_ _) | (with_reducible refine Kd.C_drew ?_))); (case side4 => exact (Kd.R_reads' HO_11.out).2.1); rintro e w' ⟨rfl, ⟨nd, rfl⟩⟩) | (go_at_call 17; (with_reducible refine (set_In.calls a0 a1 t172 _ A43.out).mono ?_); rintro e w' ⟨rfl, ⟨nd, rfl⟩⟩) | (go_at_call 18; (with_reducible refine (tollbarref02_In.calls kj18 a0 a1 t173 _ A44.out).mono ?_); rintro e w' ⟨rfl, ⟨nd, rfl⟩⟩) | ((with_reducible refine gate_builtin (b := .append) (xs := #[.const (.slice none 0 0), .tmp 101]) rfl ?_); at_builtin; refine R_append_row_g (Value.int .i64) (0 : Int) (h1 := fun _ => rfl) (w0 := w) w.heap.size (by first | rfl | (simp only [c45b0]; rfl) | (simp [Region.wanted, yielded, c45b0]; done)) (.const (.slice none 0 0)) (.tmp 101) 24 3 (.int .i64 0) 8 rfl Try.underlying24 info3 rfl (by decide) (.slice none 0 0) [] l3 A3 l3.length c3 (fun _ => True) rfl rfl (fun _ _ => trivial) (Kd.R_nil (Kd.int .i64) 3 _ _ _) ?aC ?aB ?aS ?aL ?_; (case aC => exact (by repeat (first | exact (Kd.C_below HR3.out HB.out) | (with_reducible refine Kd.C_alloc ?_ _) | (with_reducible refine Kd.C_drewN ?_ _) | (with_reducible refine Kd.C_drew ?_)))); (case aB => exact (by repeat (first | (with_reducible first | exact HB.out | apply below_alloc | apply pw_below_drewN | apply below_drew1) | exact HB.out))); (case aS => exact (below_size (by repeat (first | (with_reducible first | exact HB.out | apply below_alloc | apply pw_below_drewN | apply below_drew1) | exact HB.out)))); (case aL => have := HL3.out; simp only [List.length_nil]; omega); intro v300 w300 ho300 hb300 hg300 hat300; obtain ⟨A301, c301, rfl, hc301, hC301⟩ := Kd.R_reads ho300; rw [List.nil_append] at hc301 hC301; simp only [List.nil_append]; have HCC301 := Aside0.mk hC301; have HCc301 := Aside0.mk hc301; have n0_ := Aside0.mk hb300; clear HB; have HB := n0_; clear n0_; clear ho300 hb300 hg300 hat300 hc301 hC301) | (go_at_call 19; (with_reducible refine (set_Of.calls kj18 _ _ l3 t174 _ ?side1 ?side2 A46.out).mono ?_); (case side1 => exact HCC301.out); (case side2 => exact HCc301.out); rintro e w' ⟨rfl, ⟨nd, rfl⟩⟩) | (go_at_call 20; (with_reducible refine (tollbarref02_Of.calls kj18 _ _ l3 t175 _ ?side1 ?side2 A47.out).mono ?_); (case side1 => repeat (first | exact (Kd.C_below HR3.out (by repeat (first | (with_reducible first | exact HB.out | apply below_alloc | apply pw_below_drewN | apply below_drew1) | exact HB.out))) | (with_reducible refine Kd.C_alloc ?_ _) | (with_reducible refine Kd.C_drewN ?_ _) | (with_reducible refine Kd.C_drew ?_))); (case side2 => exact HC3.out); rintro e w' ⟨rfl, ⟨nd, rfl⟩⟩) | (go_at_call 5; (with_reducible refine (tollbarlaw02_alive.calls kj18  t176 _ A49.out).mono ?_); rintro e w54 ⟨rfl, hb⟩; have n2_ := Aside0.mk (below_step (by repeat (first | (with_reducible first | exact HB.out | apply below_alloc | apply pw_below_drewN | apply below_drew1) | exact HB.out)) hb); clear HB; have HB := n2_; clear n2_; (try clear hb); (try clear hb2); (try clear hk); (try clear hi)))
                                  go_ret
                                  exact ⟨by first | rfl | (simp [errW_none, errW_some] <;> rfl) | (simp [*, errW_none, errW_some] <;> rfl), by repeat (first | (with_reducible first | exact HB.out | apply below_alloc | apply pw_below_drewN | apply below_drew1) | exact HB.out)⟩
                                · rw [if_neg c48] at H
                                  have c48b0 : (t174 == t175) = false := beq_eq_false_iff_ne.mpr c48
                                  have c48b1 : (t174 != t175) = true := bne_iff_ne.mpr c48
                                  obtain rfl := Option.some.inj H
                                  go_wp2_with (first | ((with_reducible refine gate_callee (f := 8) rfl ?_); refine goesL_ (some 55) rfl rfl Try.func8 (by kernel_rfl) rfl #[.int .u64 a0, .int .i64 a2] rfl (by (try simp only [List.map_toArray, List.map_cons, List.map_nil]); first | done | rfl | (simp only [List.length_drop, List.length_take]; rfl)) ?_; (with_reducible refine (set_Has.calls a0 a2 t161 _ A29.out).mono ?_); rintro e w' ⟨rfl, ⟨nd, rfl⟩⟩; refine ⟨_, rfl, ?_⟩) | ((with_reducible refine gate_callee (f := 9) rfl ?_); refine goesL_ (some 58) rfl rfl Try.func9 (by kernel_rfl) rfl #[.int .u64 a0, .int .i64 a2] rfl (by (try simp only [List.map_toArray, List.map_cons, List.map_nil]); first | done | rfl | (simp only [List.length_drop, List.length_take]; rfl)) ?_; (with_reducible refine (tollbarref02_Has.calls kj18 a0 a2 t162 _ A30.out).mono ?_); rintro e w' ⟨rfl, ⟨nd, rfl⟩⟩; refine ⟨_, rfl, ?_⟩) | (go_at_call 10; (with_reducible refine (set_With.calls a0 a2 t163 _ A32.out).mono ?_); rintro e w' ⟨rfl, ⟨nd, rfl⟩⟩) | (go_at_call 11; (with_reducible refine (tollbarref02_With.calls kj18 a0 a2 t164 _ A33.out).mono ?_); rintro e w' ⟨rfl, ⟨nd, rfl⟩⟩) | (go_at_call 12; (with_reducible refine (set_Less.calls a0 a2 t165 _ A35.out).mono ?_); rintro e w' ⟨rfl, ⟨nd, rfl⟩⟩) | (go_at_call 13; (with_reducible refine (tollbarref02_Less.calls kj18 a0 a2 t166 _ A36.out).mono ?_); rintro e w' ⟨rfl, ⟨nd, rfl⟩⟩) | (go_at_call 14; (with_reducible refine (set_Len.calls kj18 a0 t167 _ A38.out).mono ?_); rintro e w55 ⟨rfl, hb⟩; have n0_ := Aside0.mk (Kd.R_below (by (with_reducible repeat (first | apply Kd.R_alloc | apply Kd.R_drewN | apply Kd.R_drew)); exact HO_11.out) hb); have n1_ := Aside0.mk (below_step (by repeat (first | (with_reducible first | exact HB.out | apply below_alloc | apply pw_below_drewN | apply below_drew1) | exact HB.out)) hb); clear HO_11; clear HB; have HO_11 := n0_; have HB := n1_; clear n0_ n1_; (try clear hb); (try clear hb2); (try clear hk); (try clear hi); obtain ⟨Ao56, co56, eo56⟩ := Kd.R_slice HO_11.out; subst eo56) | (go_at_call 16; (with_reducible refine (set_List.calls kj18 a0 t168 _ A40.out).mono ?_); rintro e w57 ⟨v169, rfl, ho0, hb⟩; have n0_ := Aside0.mk (Kd.R_elder' (by (with_reducible repeat (first | apply Kd.R_alloc | apply Kd.R_drewN | apply Kd.R_drew)); exact HO_11.out) (Kd.R_base ho0) hb); have n1_ := Aside0.mk (Kd.R_lower (Kd.R_new' ho0 (Kd.R_lt (by (with_reducible repeat (first | apply Kd.R_alloc | apply Kd.R_drewN | apply Kd.R_drew)); exact HO_11.out))) (below_size (by repeat (first | (with_reducible first | exact HB.out | apply below_alloc | apply pw_below_drewN | apply below_drew1) | exact HB.out)))); have n2_ := Aside0.mk (below_step (by repeat (first | (with_reducible first | exact HB.out | apply below_alloc | apply pw_below_drewN | apply below_drew1) | exact HB.out)) hb); clear HO_11; clear HB; have HO_11 := n0_; have HO170 := n1_; have HB := n2_; clear n0_ n1_ n2_; (try clear hb); (try clear hb2); (try clear hk); (try clear hi); (try clear ho0); obtain ⟨Ao58, co58, eo58⟩ := Kd.R_slice HO170.out; subst eo58) | (go_at_call 15; (with_reducible refine (tollbarref01_SameInts.calls kj18 _ _ t168 _ _ t157 true _ ?side1 ?side2 ?side3 ?side4 A41.out).mono ?_); (case side1 => repeat (first | exact (Kd.R_reads' HO170.out).2.2 | (with_reducible refine Kd.C_alloc ?_ _) | (with_reducible refine Kd.C_drewN ?_ _) | (with_reducible refine Kd.C_drew ?_))); (case side2 => exact (Kd.R_reads' HO170.out).2.1); (case side3 => repeat (first | exact (Kd.R_reads' HO_11.out).2.2 | (with_reducible refine Kd.C_alloc ?_ _) | (with_reducible refine Kd.C_drewN ?_ _) | (with_reducible refine Kd.C_drew ?_))); (case side4 => exact (Kd.R_reads' HO_11.out).2.1); rintro e w' ⟨rfl, ⟨nd, rfl⟩⟩) | (go_at_call 17; (with_reducible refine (set_In.calls a0 a1 t172 _ A43.out).mono ?_); rintro e w' ⟨rfl, ⟨nd, rfl⟩⟩) | (go_at_call 18; (with_reducible refine (tollbarref02_In.calls kj18 a0 a1 t173 _ A44.out).mono ?_); rintro e w' ⟨rfl, ⟨nd, rfl⟩⟩) | ((with_reducible refine gate_builtin (b := .append) (xs := #[.const (.slice none 0 0), .tmp 101]) rfl ?_); at_builtin; refine R_append_row_g (Value.int .i64) (0 : Int) (h1 := fun _ => rfl) (w0 := w) w.heap.size (by first | rfl | (simp only [c45b0]; rfl) | (simp [Region.wanted, yielded, c45b0]; done)) (.const (.slice none 0 0)) (.tmp 101) 24 3 (.int .i64 0) 8 rfl Try.underlying24 info3 rfl (by decide) (.slice none 0 0) [] l3 A3 l3.length c3 (fun _ => True) rfl rfl (fun _ _ => trivial) (Kd.R_nil (Kd.int .i64) 3 _ _ _) ?aC ?aB ?aS ?aL ?_; (case aC => exact (by repeat (first | exact (Kd.C_below HR3.out HB.out) | (with_reducible refine Kd.C_alloc ?_ _) | (with_reducible refine Kd.C_drewN ?_ _) | (with_reducible refine Kd.C_drew ?_)))); (case aB => exact (by repeat (first | (with_reducible first | exact HB.out | apply below_alloc | apply pw_below_drewN | apply below_drew1) | exact HB.out))); (case aS => exact (below_size (by repeat (first | (with_reducible first | exact HB.out | apply below_alloc | apply pw_below_drewN | apply below_drew1) | exact HB.out)))); (case aL => have := HL3.out; simp only [List.length_nil]; omega); intro v300 w300 ho300 hb300 hg300 hat300; obtain ⟨A301, c301, rfl, hc301, hC301⟩ := Kd.R_reads ho300; rw [List.nil_append] at hc301 hC301; simp only [List.nil_append]; have HCC301 := Aside0.mk hC301; have HCc301 := Aside0.mk hc301; have n0_ := Aside0.mk hb300; clear HB; have HB := n0_; clear n0_; clear ho300 hb300 hg300 hat300 hc301 hC301) | (go_at_call 19; (with_reducible refine (set_Of.calls kj18 _ _ l3 t174 _ ?side1 ?side2 A46.out).mono ?_); (case side1 => exact HCC301.out); (case side2 => exact HCc301.out); rintro e w' ⟨rfl, ⟨nd, rfl⟩⟩) | (go_at_call 20; (with_reducible refine (tollbarref02_Of.calls kj18 _ _ l3 t175 _ ?side1 ?side2 A47.out).mono ?_); (case side1 => repeat (first | exact (Kd.C_below HR3.out (by repeat (first | (with_reducible first | exact HB.out | apply below_alloc | apply pw_below_drewN | apply below_drew1) | exact HB.out))) | (with_reducible refine Kd.C_alloc ?_ _) | (with_reducible refine Kd.C_drewN ?_ _) | (with_reducible refine Kd.C_drew ?_))); (case side2 => exact HC3.out); rintro e w' ⟨rfl, ⟨nd, rfl⟩⟩))
                                  go_ret
                                  exact ⟨by first | rfl | (simp [errW_none, errW_some] <;> rfl) | (simp [*, errW_none, errW_some] <;> rfl), by repeat (first | (with_reducible first | exact HB.out | apply below_alloc | apply pw_below_drewN | apply below_drew1) | exact HB.out)⟩
                              · rw [if_neg c45] at H
                                have c45b0 : (t172 == t173) = false := by simpa using c45
                                (try (have c45b1 : decide (t172 = t173) = false := by simpa using c45))
                                (try (have c45b2 : (t172 == t173) = false := by simpa using c45))
                                (try (have c45b3 : ¬ (t172 = t173) := by simpa using c45))
                                clear c45
                                obtain rfl := Option.some.inj H
                                go_wp2_with (first | ((with_reducible refine gate_callee (f := 8) rfl ?_); refine goesL_ (some 55) rfl rfl Try.func8 (by kernel_rfl) rfl #[.int .u64 a0, .int .i64 a2] rfl (by (try simp only [List.map_toArray, List.map_cons, List.map_nil]); first | done | rfl | (simp only [List.length_drop, List.length_take]; rfl)) ?_; (with_reducible refine (set_Has.calls a0 a2 t161 _ A29.out).mono ?_); rintro e w' ⟨rfl, ⟨nd, rfl⟩⟩; refine ⟨_, rfl, ?_⟩) | ((with_reducible refine gate_callee (f := 9) rfl ?_); refine goesL_ (some 58) rfl rfl Try.func9 (by kernel_rfl) rfl #[.int .u64 a0, .int .i64 a2] rfl (by (try simp only [List.map_toArray, List.map_cons, List.map_nil]); first | done | rfl | (simp only [List.length_drop, List.length_take]; rfl)) ?_; (with_reducible refine (tollbarref02_Has.calls kj18 a0 a2 t162 _ A30.out).mono ?_); rintro e w' ⟨rfl, ⟨nd, rfl⟩⟩; refine ⟨_, rfl, ?_⟩) | (go_at_call 10; (with_reducible refine (set_With.calls a0 a2 t163 _ A32.out).mono ?_); rintro e w' ⟨rfl, ⟨nd, rfl⟩⟩) | (go_at_call 11; (with_reducible refine (tollbarref02_With.calls kj18 a0 a2 t164 _ A33.out).mono ?_); rintro e w' ⟨rfl, ⟨nd, rfl⟩⟩) | (go_at_call 12; (with_reducible refine (set_Less.calls a0 a2 t165 _ A35.out).mono ?_); rintro e w' ⟨rfl, ⟨nd, rfl⟩⟩) | (go_at_call 13; (with_reducible refine (tollbarref02_Less.calls kj18 a0 a2 t166 _ A36.out).mono ?_); rintro e w' ⟨rfl, ⟨nd, rfl⟩⟩) | (go_at_call 14; (with_reducible refine (set_Len.calls kj18 a0 t167 _ A38.out).mono ?_); rintro e w59 ⟨rfl, hb⟩; have n0_ := Aside0.mk (Kd.R_below (by (with_reducible repeat (first | apply Kd.R_alloc | apply Kd.R_drewN | apply Kd.R_drew)); exact HO_11.out) hb); have n1_ := Aside0.mk (below_step (by repeat (first | (with_reducible first | exact HB.out | apply below_alloc | apply pw_below_drewN | apply below_drew1) | exact HB.out)) hb); clear HO_11; clear HB; have HO_11 := n0_; have HB := n1_; clear n0_ n1_; (try clear hb); (try clear hb2); (try clear hk); (try clear hi); obtain ⟨Ao60, co60, eo60⟩ := Kd.R_slice HO_11.out; subst eo60) | (go_at_call 16; (with_reducible refine (set_List.calls kj18 a0 t168 _ A40.out).mono ?_); rintro e w61 ⟨v169, rfl, ho0, hb⟩; have n0_ := Aside0.mk (Kd.R_elder' (by (with_reducible repeat (first | apply Kd.R_alloc | apply Kd.R_drewN | apply Kd.R_drew)); exact HO_11.out) (Kd.R_base ho0) hb); have n1_ := Aside0.mk (Kd.R_lower (Kd.R_new' ho0 (Kd.R_lt (by (with_reducible repeat (first | apply Kd.R_alloc | apply Kd.R_drewN | apply Kd.R_drew)); exact HO_11.out))) (below_size (by repeat (first | (with_reducible first | exact HB.out | apply below_alloc | apply pw_below_drewN | apply below_drew1) | exact HB.out)))); have n2_ := Aside0.mk (below_step (by repeat (first | (with_reducible first | exact HB.out | apply below_alloc | apply pw_below_drewN | apply below_drew1) | exact HB.out)) hb); clear HO_11; clear HB; have HO_11 := n0_; have HO170 := n1_; have HB := n2_; clear n0_ n1_ n2_; (try clear hb); (try clear hb2); (try clear hk); (try clear hi); (try clear ho0); obtain ⟨Ao62, co62, eo62⟩ := Kd.R_slice HO170.out; subst eo62) | (go_at_call 15; (with_reducible refine (tollbarref01_SameInts.calls kj18 _ _ t168 _ _ t157 true _ ?side1 ?side2 ?side3 ?side4 A41.out).mono ?_); (case side1 => repeat (first | exact (Kd.R_reads' HO170.out).2.2 | (with_reducible refine Kd.C_alloc ?_ _) | (with_reducible refine Kd.C_drewN ?_ _) | (with_reducible refine Kd.C_drew ?_))); (case side2 => exact (Kd.R_reads' HO170.out).2.1); (case side3 => repeat (first | exact (Kd.R_reads' HO_11.out).2.2 | (with_reducible refine Kd.C_alloc ?_ _) | (with_reducible refine Kd.C_drewN ?_ _) | (with_reducible refine Kd.C_drew ?_))); (case side4 => exact (Kd.R_reads' HO_11.out).2.1); rintro e w' ⟨rfl, ⟨nd, rfl⟩⟩) | (go_at_call 17; (with_reducible refine (set_In.calls a0 a1 t172 _ A43.out).mono ?_); rintro e w' ⟨rfl, ⟨nd, rfl⟩⟩) | (go_at_call 18; (with_reducible refine (tollbarref02_In.calls kj18 a0 a1 t173 _ A44.out).mono ?_); rintro e w' ⟨rfl, ⟨nd, rfl⟩⟩))
                                go_ret
                                exact ⟨by first | rfl | (simp [errW_none, errW_some] <;> rfl) | (simp [*, errW_none, errW_some] <;> rfl), by repeat (first | (with_reducible first | exact HB.out | apply below_alloc | apply pw_below_drewN | apply below_drew1) | exact HB.out)⟩
                            · replace c42 := Bool.eq_false_iff.mpr c42
                              subst c42
                              have H1 : (some false) = some r := by rw [if_neg (show ¬ (false = true) by decide)] at H; exact H
                              clear H
                              have H := H1
                              clear H1
                              obtain rfl := Option.some.inj H
                              go_wp2_with (first | ((with_reducible refine gate_callee (f := 8) rfl ?_); refine goesL_ (some 55) rfl rfl Try.func8 (by kernel_rfl) rfl #[.int .u64 a0, .int .i64 a2] rfl (by (try simp only [List.map_toArray, List.map_cons, List.map_nil]); first | done | rfl | (simp only [List.length_drop, List.length_take]; rfl)) ?_; (with_reducible refine (set_Has.calls a0 a2 t161 _ A29.out).mono ?_); rintro e w' ⟨rfl, ⟨nd, rfl⟩⟩; refine ⟨_, rfl, ?_⟩) | ((with_reducible refine gate_callee (f := 9) rfl ?_); refine goesL_ (some 58) rfl rfl Try.func9 (by kernel_rfl) rfl #[.int .u64 a0, .int .i64 a2] rfl (by (try simp only [List.map_toArray, List.map_cons, List.map_nil]); first | done | rfl | (simp only [List.length_drop, List.length_take]; rfl)) ?_; (with_reducible refine (tollbarref02_Has.calls kj18 a0 a2 t162 _ A30.out).mono ?_); rintro e w' ⟨rfl, ⟨nd, rfl⟩⟩; refine ⟨_, rfl, ?_⟩) | (go_at_call 10; (with_reducible refine (set_With.calls a0 a2 t163 _ A32.out).mono ?_); rintro e w' ⟨rfl, ⟨nd, rfl⟩⟩) | (go_at_call 11; (with_reducible refine (tollbarref02_With.calls kj18 a0 a2 t164 _ A33.out).mono ?_); rintro e w' ⟨rfl, ⟨nd, rfl⟩⟩) | (go_at_call 12; (with_reducible refine (set_Less.calls a0 a2 t165 _ A35.out).mono ?_); rintro e w' ⟨rfl, ⟨nd, rfl⟩⟩) | (go_at_call 13; (with_reducible refine (tollbarref02_Less.calls kj18 a0 a2 t166 _ A36.out).mono ?_); rintro e w' ⟨rfl, ⟨nd, rfl⟩⟩) | (go_at_call 14; (with_reducible refine (set_Len.calls kj18 a0 t167 _ A38.out).mono ?_); rintro e w63 ⟨rfl, hb⟩; have n0_ := Aside0.mk (Kd.R_below (by (with_reducible repeat (first | apply Kd.R_alloc | apply Kd.R_drewN | apply Kd.R_drew)); exact HO_11.out) hb); have n1_ := Aside0.mk (below_step (by repeat (first | (with_reducible first | exact HB.out | apply below_alloc | apply pw_below_drewN | apply below_drew1) | exact HB.out)) hb); clear HO_11; clear HB; have HO_11 := n0_; have HB := n1_; clear n0_ n1_; (try clear hb); (try clear hb2); (try clear hk); (try clear hi); obtain ⟨Ao64, co64, eo64⟩ := Kd.R_slice HO_11.out; subst eo64) | (go_at_call 16; (with_reducible refine (set_List.calls kj18 a0 t168 _ A40.out).mono ?_); rintro e w65 ⟨v169, rfl, ho0, hb⟩; have n0_ := Aside0.mk (Kd.R_elder' (by (with_reducible repeat (first | apply Kd.R_alloc | apply Kd.R_drewN | apply Kd.R_drew)); exact HO_11.out) (Kd.R_base ho0) hb); have n1_ := Aside0.mk (Kd.R_lower (Kd.R_new' ho0 (Kd.R_lt (by (with_reducible repeat (first | apply Kd.R_alloc | apply Kd.R_drewN | apply Kd.R_drew)); exact HO_11.out))) (below_size (by repeat (first | (with_reducible first | exact HB.out | apply below_alloc | apply pw_below_drewN | apply below_drew1) | exact HB.out)))); have n2_ := Aside0.mk (below_step (by repeat (first | (with_reducible first | exact HB.out | apply below_alloc | apply pw_below_drewN | apply below_drew1) | exact HB.out)) hb); clear HO_11; clear HB; have HO_11 := n0_; have HO170 := n1_; have HB := n2_; clear n0_ n1_ n2_; (try clear hb); (try clear hb2); (try clear hk); (try clear hi); (try clear ho0); obtain ⟨Ao66, co66, eo66⟩ := Kd.R_slice HO170.out; subst eo66) | (go_at_call 15; (with_reducible refine (tollbarref01_SameInts.calls kj18 _ _ t168 _ _ t157 false _ ?side1 ?side2 ?side3 ?side4 A41.out).mono ?_); (case side1 => repeat (first | exact (Kd.R_reads' HO170.out).2.2 | (with_reducible refine Kd.C_alloc ?_ _) | (with_reducible refine Kd.C_drewN ?_ _) | (with_reducible refine Kd.C_drew ?_))); (case side2 => exact (Kd.R_reads' HO170.out).2.1); (case side3 => repeat (first | exact (Kd.R_reads' HO_11.out).2.2 | (with_reducible refine Kd.C_alloc ?_ _) | (with_reducible refine Kd.C_drewN ?_ _) | (with_reducible refine Kd.C_drew ?_))); (case side4 => exact (Kd.R_reads' HO_11.out).2.1); rintro e w' ⟨rfl, ⟨nd, rfl⟩⟩))
                              go_ret
                              exact ⟨by first | rfl | (simp [errW_none, errW_some] <;> rfl) | (simp [*, errW_none, errW_some] <;> rfl), by repeat (first | (with_reducible first | exact HB.out | apply below_alloc | apply pw_below_drewN | apply below_drew1) | exact HB.out)⟩
                          · rw [if_neg c39] at H
                            have c39b0 : (t167 == (t157.length : Int)) = false := beq_eq_false_iff_ne.mpr c39
                            have c39b1 : (t167 != (t157.length : Int)) = true := bne_iff_ne.mpr c39
                            obtain rfl := Option.some.inj H
                            go_wp2_with (first | ((with_reducible refine gate_callee (f := 8) rfl ?_); refine goesL_ (some 55) rfl rfl Try.func8 (by kernel_rfl) rfl #[.int .u64 a0, .int .i64 a2] rfl (by (try simp only [List.map_toArray, List.map_cons, List.map_nil]); first | done | rfl | (simp only [List.length_drop, List.length_take]; rfl)) ?_; (with_reducible refine (set_Has.calls a0 a2 t161 _ A29.out).mono ?_); rintro e w' ⟨rfl, ⟨nd, rfl⟩⟩; refine ⟨_, rfl, ?_⟩) | ((with_reducible refine gate_callee (f := 9) rfl ?_); refine goesL_ (some 58) rfl rfl Try.func9 (by kernel_rfl) rfl #[.int .u64 a0, .int .i64 a2] rfl (by (try simp only [List.map_toArray, List.map_cons, List.map_nil]); first | done | rfl | (simp only [List.length_drop, List.length_take]; rfl)) ?_; (with_reducible refine (tollbarref02_Has.calls kj18 a0 a2 t162 _ A30.out).mono ?_); rintro e w' ⟨rfl, ⟨nd, rfl⟩⟩; refine ⟨_, rfl, ?_⟩) | (go_at_call 10; (with_reducible refine (set_With.calls a0 a2 t163 _ A32.out).mono ?_); rintro e w' ⟨rfl, ⟨nd, rfl⟩⟩) | (go_at_call 11; (with_reducible refine (tollbarref02_With.calls kj18 a0 a2 t164 _ A33.out).mono ?_); rintro e w' ⟨rfl, ⟨nd, rfl⟩⟩) | (go_at_call 12; (with_reducible refine (set_Less.calls a0 a2 t165 _ A35.out).mono ?_); rintro e w' ⟨rfl, ⟨nd, rfl⟩⟩) | (go_at_call 13; (with_reducible refine (tollbarref02_Less.calls kj18 a0 a2 t166 _ A36.out).mono ?_); rintro e w' ⟨rfl, ⟨nd, rfl⟩⟩) | (go_at_call 14; (with_reducible refine (set_Len.calls kj18 a0 t167 _ A38.out).mono ?_); rintro e w67 ⟨rfl, hb⟩; have n0_ := Aside0.mk (Kd.R_below (by (with_reducible repeat (first | apply Kd.R_alloc | apply Kd.R_drewN | apply Kd.R_drew)); exact HO_11.out) hb); have n1_ := Aside0.mk (below_step (by repeat (first | (with_reducible first | exact HB.out | apply below_alloc | apply pw_below_drewN | apply below_drew1) | exact HB.out)) hb); clear HO_11; clear HB; have HO_11 := n0_; have HB := n1_; clear n0_ n1_; (try clear hb); (try clear hb2); (try clear hk); (try clear hi); obtain ⟨Ao68, co68, eo68⟩ := Kd.R_slice HO_11.out; subst eo68))
                            go_ret
                            exact ⟨by first | rfl | (simp [errW_none, errW_some] <;> rfl) | (simp [*, errW_none, errW_some] <;> rfl), by repeat (first | (with_reducible first | exact HB.out | apply below_alloc | apply pw_below_drewN | apply below_drew1) | exact HB.out)⟩
                        · rw [if_neg c37] at H
                          have c37b0 : (t165 == t166) = false := beq_eq_false_iff_ne.mpr c37
                          have c37b1 : (t165 != t166) = true := bne_iff_ne.mpr c37
                          obtain rfl := Option.some.inj H
                          go_wp2_with (first | ((with_reducible refine gate_callee (f := 8) rfl ?_); refine goesL_ (some 55) rfl rfl Try.func8 (by kernel_rfl) rfl #[.int .u64 a0, .int .i64 a2] rfl (by (try simp only [List.map_toArray, List.map_cons, List.map_nil]); first | done | rfl | (simp only [List.length_drop, List.length_take]; rfl)) ?_; (with_reducible refine (set_Has.calls a0 a2 t161 _ A29.out).mono ?_); rintro e w' ⟨rfl, ⟨nd, rfl⟩⟩; refine ⟨_, rfl, ?_⟩) | ((with_reducible refine gate_callee (f := 9) rfl ?_); refine goesL_ (some 58) rfl rfl Try.func9 (by kernel_rfl) rfl #[.int .u64 a0, .int .i64 a2] rfl (by (try simp only [List.map_toArray, List.map_cons, List.map_nil]); first | done | rfl | (simp only [List.length_drop, List.length_take]; rfl)) ?_; (with_reducible refine (tollbarref02_Has.calls kj18 a0 a2 t162 _ A30.out).mono ?_); rintro e w' ⟨rfl, ⟨nd, rfl⟩⟩; refine ⟨_, rfl, ?_⟩) | (go_at_call 10; (with_reducible refine (set_With.calls a0 a2 t163 _ A32.out).mono ?_); rintro e w' ⟨rfl, ⟨nd, rfl⟩⟩) | (go_at_call 11; (with_reducible refine (tollbarref02_With.calls kj18 a0 a2 t164 _ A33.out).mono ?_); rintro e w' ⟨rfl, ⟨nd, rfl⟩⟩) | (go_at_call 12; (with_reducible refine (set_Less.calls a0 a2 t165 _ A35.out).mono ?_); rintro e w' ⟨rfl, ⟨nd, rfl⟩⟩) | (go_at_call 13; (with_reducible refine (tollbarref02_Less.calls kj18 a0 a2 t166 _ A36.out).mono ?_); rintro e w' ⟨rfl, ⟨nd, rfl⟩⟩))
                          go_ret
                          exact ⟨by first | rfl | (simp [errW_none, errW_some] <;> rfl) | (simp [*, errW_none, errW_some] <;> rfl), by repeat (first | (with_reducible first | exact HB.out | apply below_alloc | apply pw_below_drewN | apply below_drew1) | exact HB.out)⟩
                      · rw [if_neg c34] at H
                        have c34b0 : (t163 == t164) = false := beq_eq_false_iff_ne.mpr c34
                        have c34b1 : (t163 != t164) = true := bne_iff_ne.mpr c34
                        obtain rfl := Option.some.inj H
                        go_wp2_with (first | ((with_reducible refine gate_callee (f := 8) rfl ?_); refine goesL_ (some 55) rfl rfl Try.func8 (by kernel_rfl) rfl #[.int .u64 a0, .int .i64 a2] rfl (by (try simp only [List.map_toArray, List.map_cons, List.map_nil]); first | done | rfl | (simp only [List.length_drop, List.length_take]; rfl)) ?_; (with_reducible refine (set_Has.calls a0 a2 t161 _ A29.out).mono ?_); rintro e w' ⟨rfl, ⟨nd, rfl⟩⟩; refine ⟨_, rfl, ?_⟩) | ((with_reducible refine gate_callee (f := 9) rfl ?_); refine goesL_ (some 58) rfl rfl Try.func9 (by kernel_rfl) rfl #[.int .u64 a0, .int .i64 a2] rfl (by (try simp only [List.map_toArray, List.map_cons, List.map_nil]); first | done | rfl | (simp only [List.length_drop, List.length_take]; rfl)) ?_; (with_reducible refine (tollbarref02_Has.calls kj18 a0 a2 t162 _ A30.out).mono ?_); rintro e w' ⟨rfl, ⟨nd, rfl⟩⟩; refine ⟨_, rfl, ?_⟩) | (go_at_call 10; (with_reducible refine (set_With.calls a0 a2 t163 _ A32.out).mono ?_); rintro e w' ⟨rfl, ⟨nd, rfl⟩⟩) | (go_at_call 11; (with_reducible refine (tollbarref02_With.calls kj18 a0 a2 t164 _ A33.out).mono ?_); rintro e w' ⟨rfl, ⟨nd, rfl⟩⟩))
                        go_ret
                        exact ⟨by first | rfl | (simp [errW_none, errW_some] <;> rfl) | (simp [*, errW_none, errW_some] <;> rfl), by repeat (first | (with_reducible first | exact HB.out | apply below_alloc | apply pw_below_drewN | apply below_drew1) | exact HB.out)⟩
                    · rw [if_neg c31] at H
                      have c31b0 : (t161 == t162) = false := by simpa using c31
                      (try (have c31b1 : decide (t161 = t162) = false := by simpa using c31))
                      (try (have c31b2 : (t161 == t162) = false := by simpa using c31))
                      (try (have c31b3 : ¬ (t161 = t162) := by simpa using c31))
                      clear c31
                      obtain rfl := Option.some.inj H
                      go_wp2_with (first | ((with_reducible refine gate_callee (f := 8) rfl ?_); refine goesL_ (some 55) rfl rfl Try.func8 (by kernel_rfl) rfl #[.int .u64 a0, .int .i64 a2] rfl (by (try simp only [List.map_toArray, List.map_cons, List.map_nil]); first | done | rfl | (simp only [List.length_drop, List.length_take]; rfl)) ?_; (with_reducible refine (set_Has.calls a0 a2 t161 _ A29.out).mono ?_); rintro e w' ⟨rfl, ⟨nd, rfl⟩⟩; refine ⟨_, rfl, ?_⟩) | ((with_reducible refine gate_callee (f := 9) rfl ?_); refine goesL_ (some 58) rfl rfl Try.func9 (by kernel_rfl) rfl #[.int .u64 a0, .int .i64 a2] rfl (by (try simp only [List.map_toArray, List.map_cons, List.map_nil]); first | done | rfl | (simp only [List.length_drop, List.length_take]; rfl)) ?_; (with_reducible refine (tollbarref02_Has.calls kj18 a0 a2 t162 _ A30.out).mono ?_); rintro e w' ⟨rfl, ⟨nd, rfl⟩⟩; refine ⟨_, rfl, ?_⟩))
                      go_ret
                      exact ⟨by first | rfl | (simp [errW_none, errW_some] <;> rfl) | (simp [*, errW_none, errW_some] <;> rfl), by repeat (first | (with_reducible first | exact HB.out | apply below_alloc | apply pw_below_drewN | apply below_drew1) | exact HB.out)⟩

/-- THE ONE PURE STATEMENT of tollbarlaw02_SetTells: yours. -/
def tollbarlaw02_SetTells.Pure : Prop := ∀ (a0 : Int) (a1 : Int) (a2 : Int) (l3 : List Int), (Lit.int .u64 a0).wf = true → (Lit.int .u64 a1).wf = true → (Lit.int .i64 a2).wf = true → l3.length ≤ maxLen → l3.length * 8 ≤ 140737488351232 → (∀ x ∈ l3, (Lit.int .i64 x).wf = true) → ∃ k, tollbarlaw02_SetTells.f k a0 a1 a2 l3 = some true
theorem tollbarlaw02_SetTells.walk (P : tollbarlaw02_SetTells.Pure) (a0 : Int) (a1 : Int) (a2 : Int) (a3 : Option Addr) (len3 cap3 : Nat) (z3 : List Int) (w : World) (w0 : (Lit.int .u64 a0).wf = true) (w1 : (Lit.int .u64 a1).wf = true) (w2 : (Lit.int .i64 a2).wf = true) (w3 : (a3 = none ∧ len3 = 0 ∧ cap3 = 0 ∧ z3 = []) ∨ ∃ x, a3 = some x ∧ len3 ≤ cap3 ∧ cap3 ≤ maxLen ∧ z3.length = cap3 ∧ (∀ i, i < z3.length → w.cell? (x.add i) = some (.int .i64 (z3.getD i 0))) ∧ ∀ n ∈ z3, (Lit.int .i64 n).wf = true) (y3 : len3 * 8 ≤ 140737488351232) :
    Calls Try.prog 3 #[.int .u64 a0, .int .u64 a1, .int .i64 a2, .slice a3 len3 cap3] w fun e w' => e = .returned (.bool true) ∧ Below w.heap.size w w' := by
  obtain ⟨l3, rfl, hr3, hm3, hw3, hc3⟩ := ReadsInt.ofRowC w3
  obtain ⟨k, h⟩ := P a0 a1 a2 l3 w0 w1 w2 hm3 y3 hw3
  refine (tollbarlaw02_SetTells.calls k a0 a1 a2 _ _ l3 true w (Kd.C_of_reads (d := (0 : Int)) (h1 := fun _ => rfl) hr3) hc3 (by have := hr3.1; omega) h).mono ?_
  rintro e w' ⟨rfl, hd⟩
  exact ⟨rfl, hd⟩

end Go.Proofs.Ytghbcdpnngheoaa.PSet
