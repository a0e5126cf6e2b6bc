
/- A step, of both; what no channel answers. -/
import Derived.Test.YtmhnfcodppfaiacRefHchan
import Derived.Test.YtmhnfcodppfaiacListCopy
namespace Go.Proofs.Ytmhnfcodppfaiac.HchanCode
open Go Go.RowKit Go.Proofs.Ytmhnfcodppfaiac.Obj Go.Proofs.Ytmhnfcodppfaiac.ListPure Go.Proofs.YtmhnfcodppfaiacW.PrintWords Go.Proofs.YtmhnfcodppfaiacW.PrintMore
set_option linter.unusedVariables false
set_option maxRecDepth 100000
section
variable {w w' : World} {q base lo hi : Nat} {h : Hc}
def RP (w : World) (q base : Nat) (h h2 : Hc) (code : Ending) (e : Ending) (w' : World) : Prop := e = code ∧ R22 w' q base h2 ∧ Only (Rty w base) w w'
structure Sz (h : Hc) : Prop where
  fit : h.V.length ≤ h.most
  most8 : h.most ≤ 8
  l0 : h.L0.length ≤ 1000
  l1 : h.L1.length ≤ 1000
theorem Sz.lq {h : Hc} (z : Sz h) (s : Bool) : (h.q s).length ≤ 1000 := by cases s; exact z.l0; exact z.l1
theorem ring__nil (w : World) : Calls Try.prog 40 #[.pointer none] w fun e w' => e = .returned (.pointer none) ∧ Below w.heap.size w w' := by
  go_enter Try.func40, Try.ntmps40
  go_wp2
  go_ret
  exact ⟨rfl, by first | exact Below.refl _ w | exact ((Below.refl _ w).alloc (Nat.le_refl _) _).alloc (by simp) _⟩
theorem of_nil (s : Bool) (w : World) : Calls Try.prog 28 #[.pointer none, .bool s] w fun e w' => e = .returned (.pointer none) ∧ Below w.heap.size w w' := by
  go_enter Try.func28, Try.ntmps28
  go_wp2
  go_ret
  exact ⟨rfl, by first | exact Below.refl _ w | exact ((Below.refl _ w).alloc (Nat.le_refl _) _).alloc (by simp) _⟩
theorem same_below {P : World → Prop} {fn : Nat} {args : Array Value} {w : World} {r : Ending} (h : Calls Try.prog fn args w fun e w' => e = r ∧ w' = w) : Calls Try.prog fn args w fun e w' => e = r ∧ Below w.heap.size w w' := h.mono fun e w' ⟨h1, h2⟩ => ⟨h1, by rw [h2]; exact Below.refl _ _⟩
theorem cput_nil (v : Int) (w : World) : Calls Try.prog 20 #[.pointer none, .int .i64 v] w fun e w' => e = .returned (.int .i64 1) ∧ Below w.heap.size w w' := by
  go_enter Try.func20, Try.ntmps20
  go_wp2_with (fail)
  refine (ring__nil _).mono ?_
  rintro e w1 ⟨rfl, h1⟩
  have k1 := h1
  go_wp2_with (fail)
  refine (same_below (P := fun _ => True) (RingCode.put_nil v _)).mono ?_
  rintro e w2 ⟨rfl, h2⟩
  have k2 := k1.trans (h2.mono k1.size)
  go_wp2_with (fail)
  go_ret
  exact ⟨rfl, k2⟩
theorem ctake_nil (w : World) : Calls Try.prog 33 #[.pointer none] w fun e w' => e = .returned (.tuple #[.int .i64 0, .int .i64 1]) ∧ Below w.heap.size w w' := by
  go_enter Try.func33, Try.ntmps33
  go_wp2_with (fail)
  refine (ring__nil _).mono ?_
  rintro e w1 ⟨rfl, h1⟩
  have k1 := h1
  go_wp2_with (fail)
  refine (same_below (P := fun _ => True) (RingCode.take_nil _)).mono ?_
  rintro e w2 ⟨rfl, h2⟩
  have k2 := k1.trans (h2.mono k1.size)
  go_wp2_with (fail)
  go_ret2
  exact ⟨rfl, k2⟩
theorem cswap_nil (v : Int) (w : World) : Calls Try.prog 34 #[.pointer none, .int .i64 v] w fun e w' => e = .returned (.tuple #[.int .i64 0, .int .i64 1]) ∧ Below w.heap.size w w' := by
  go_enter Try.func34, Try.ntmps34
  go_wp2_with (fail)
  refine (ring__nil _).mono ?_
  rintro e w1 ⟨rfl, h1⟩
  have k1 := h1
  go_wp2_with (fail)
  refine (same_below (P := fun _ => True) (RingCode.swap_nil v _)).mono ?_
  rintro e w2 ⟨rfl, h2⟩
  have k2 := k1.trans (h2.mono k1.size)
  go_wp2_with (fail)
  go_ret2
  exact ⟨rfl, k2⟩
theorem chead_nil (w : World) : Calls Try.prog 36 #[.pointer none] w fun e w' => e = .returned (.tuple #[.int .i64 0, .bool false]) ∧ Below w.heap.size w w' := by
  go_enter Try.func36, Try.ntmps36
  go_wp2_with (fail)
  refine (ring__nil _).mono ?_
  rintro e w1 ⟨rfl, h1⟩
  have k1 := h1
  go_wp2_with (fail)
  refine (same_below (P := fun _ => True) (RingCode.front_nil _)).mono ?_
  rintro e w2 ⟨rfl, h2⟩
  have k2 := k1.trans (h2.mono k1.size)
  go_wp2_with (fail)
  go_ret2
  exact ⟨rfl, k2⟩
theorem clen_nil (w : World) : Calls Try.prog 37 #[.pointer none] w fun e w' => e = .returned (.int .i64 0) ∧ Below w.heap.size w w' := by
  go_enter Try.func37, Try.ntmps37
  go_wp2_with (fail)
  refine (ring__nil _).mono ?_
  rintro e w1 ⟨rfl, h1⟩
  have k1 := h1
  go_wp2_with (fail)
  refine (same_below (P := fun _ => True) (RingCode.len_nil _)).mono ?_
  rintro e w2 ⟨rfl, h2⟩
  have k2 := k1.trans (h2.mono k1.size)
  go_wp2_with (fail)
  go_ret
  exact ⟨rfl, k2⟩
theorem ccap_nil (w : World) : Calls Try.prog 25 #[.pointer none] w fun e w' => e = .returned (.int .i64 0) ∧ Below w.heap.size w w' := by
  go_enter Try.func25, Try.ntmps25
  go_wp2_with (fail)
  refine (ring__nil _).mono ?_
  rintro e w1 ⟨rfl, h1⟩
  have k1 := h1
  go_wp2_with (fail)
  refine (same_below (P := fun _ => True) (RingCode.cap_nil _)).mono ?_
  rintro e w2 ⟨rfl, h2⟩
  have k2 := k1.trans (h2.mono k1.size)
  go_wp2_with (fail)
  go_ret
  exact ⟨rfl, k2⟩
theorem cenq_nil (s : Bool) (i : Int) (w : World) : Calls Try.prog 9 #[.pointer none, .bool s, .int .i64 i] w fun e w' => e = .returned (.int .i64 1) ∧ Below w.heap.size w w' := by
  go_enter Try.func9, Try.ntmps9
  go_wp2_with (fail)
  refine (of_nil s _).mono ?_
  rintro e w1 ⟨rfl, h1⟩
  have k1 := h1
  go_wp2_with (fail)
  refine (ListCode.put_nil i _).mono ?_
  rintro e w2 ⟨rfl, h2⟩
  have k2 := k1.trans (h2.mono k1.size)
  go_wp2_with (fail)
  go_ret
  exact ⟨rfl, k2⟩
theorem cdeq_nil (s : Bool) (i : Int) (w : World) : Calls Try.prog 10 #[.pointer none, .bool s, .int .i64 i] w fun e w' => e = .returned (.int .i64 1) ∧ Below w.heap.size w w' := by
  go_enter Try.func10, Try.ntmps10
  go_wp2_with (fail)
  refine (of_nil s _).mono ?_
  rintro e w1 ⟨rfl, h1⟩
  have k1 := h1
  go_wp2_with (fail)
  refine (ListCode.drop_nil i _).mono ?_
  rintro e w2 ⟨rfl, h2⟩
  have k2 := k1.trans (h2.mono k1.size)
  go_wp2_with (fail)
  go_ret
  exact ⟨rfl, k2⟩
theorem cfront_nil (s : Bool) (w : World) : Calls Try.prog 24 #[.pointer none, .bool s] w fun e w' => e = .returned (.tuple #[.int .i64 0, .bool false]) ∧ Below w.heap.size w w' := by
  go_enter Try.func24, Try.ntmps24
  go_wp2_with (fail)
  refine (of_nil s _).mono ?_
  rintro e w1 ⟨rfl, h1⟩
  have k1 := h1
  go_wp2_with (fail)
  refine (ListCode.front_nil _).mono ?_
  rintro e w2 ⟨rfl, h2⟩
  have k2 := k1.trans (h2.mono k1.size)
  go_wp2_with (fail)
  go_ret2
  exact ⟨rfl, k2⟩
theorem chas_nil (s : Bool) (i : Int) (w : World) : Calls Try.prog 8 #[.pointer none, .bool s, .int .i64 i] w fun e w' => e = .returned (.bool false) ∧ Below w.heap.size w w' := by
  go_enter Try.func8, Try.ntmps8
  go_wp2_with (fail)
  refine (of_nil s _).mono ?_
  rintro e w1 ⟨rfl, h1⟩
  have k1 := h1
  go_wp2_with (fail)
  refine (ListCode.has_nil i _).mono ?_
  rintro e w2 ⟨rfl, h2⟩
  have k2 := k1.trans (h2.mono k1.size)
  go_wp2_with (fail)
  go_ret
  exact ⟨rfl, k2⟩
theorem cshut_nil (w : World) : Calls Try.prog 21 #[.pointer none] w fun e w' => e = .returned (.int .i64 1) ∧ Below w.heap.size w w' := by
  go_enter Try.func21, Try.ntmps21
  go_wp2
  go_ret
  exact ⟨rfl, by first | exact Below.refl _ w | exact ((Below.refl _ w).alloc (Nat.le_refl _) _).alloc (by simp) _⟩
theorem cclosed_nil (w : World) : Calls Try.prog 13 #[.pointer none] w fun e w' => e = .returned (.bool false) ∧ Below w.heap.size w w' := by
  go_enter Try.func13, Try.ntmps13
  go_wp2
  go_ret
  exact ⟨rfl, by first | exact Below.refl _ w | exact ((Below.refl _ w).alloc (Nat.le_refl _) _).alloc (by simp) _⟩
theorem cbuffer_nil (w : World) : Calls Try.prog 16 #[.pointer none] w fun e w' => e = .returned (.slice none 0 0) ∧ Below w.heap.size w w' := by
  go_enter Try.func16, Try.ntmps16
  go_wp2
  go_ret
  exact ⟨rfl, by first | exact Below.refl _ w | exact ((Below.refl _ w).alloc (Nat.le_refl _) _).alloc (by simp) _⟩
theorem ccopy_nil (w : World) : Calls Try.prog 19 #[.pointer none] w fun e w' => e = .returned (.pointer none) ∧ Below w.heap.size w w' := by
  go_enter Try.func19, Try.ntmps19
  go_wp2
  go_ret
  exact ⟨rfl, by first | exact Below.refl _ w | exact ((Below.refl _ w).alloc (Nat.le_refl _) _).alloc (by simp) _⟩
theorem crow_nil (s : Bool) (w : World) : Calls Try.prog 12 #[.pointer none, .bool s] w fun e w' => (∃ A c, e = .returned (.slice A 0 c)) ∧ Below w.heap.size w w' := by
  go_enter Try.func12, Try.ntmps12
  go_wp2_with (fail)
  refine (of_nil s _).mono ?_
  rintro e w1 ⟨rfl, h1⟩
  go_wp2_with (fail)
  refine (ListCode.all_nil _).mono ?_
  rintro e w2 ⟨⟨A, c, rfl⟩, h2⟩
  go_wp2_with (fail)
  go_ret
  exact ⟨⟨A, c, rfl⟩, h1.trans (h2.mono h1.size)⟩
set_option maxHeartbeats 4000000 in
theorem nothing_at (w : World) : Calls Try.prog 17 #[] w fun e w' => e = .returned (.bool true) ∧ Below w.heap.size w w' := by
  go_enter Try.func17, Try.ntmps17
  go_wp2_with (fail)
  refine (ctake_nil _).mono ?_
  rintro e w1 ⟨rfl, h1⟩
  have k1 := h1
  go_wp2_with (fail)
  refine (cswap_nil 1 _).mono ?_
  rintro e w2 ⟨rfl, h2⟩
  have k2 := k1.trans (h2.mono k1.size)
  go_wp2_with (fail)
  refine (chead_nil _).mono ?_
  rintro e w3 ⟨rfl, h3⟩
  have k3 := k2.trans (h3.mono k2.size)
  go_wp2_with (fail)
  refine (cfront_nil true _).mono ?_
  rintro e w4 ⟨rfl, h4⟩
  have k4 := k3.trans (h4.mono k3.size)
  go_wp2_with (fail)
  refine (cput_nil 1 _).mono ?_
  rintro e w5 ⟨rfl, h5⟩
  have k5 := k4.trans (h5.mono k4.size)
  go_wp2_with (fail)
  refine (cenq_nil true 1 _).mono ?_
  rintro e w6 ⟨rfl, h6⟩
  have k6 := k5.trans (h6.mono k5.size)
  go_wp2_with (fail)
  refine (cdeq_nil true 1 _).mono ?_
  rintro e w7 ⟨rfl, h7⟩
  have k7 := k6.trans (h7.mono k6.size)
  go_wp2_with (fail)
  refine (cshut_nil _).mono ?_
  rintro e w8 ⟨rfl, h8⟩
  have k8 := k7.trans (h8.mono k7.size)
  go_wp2_with (fail)
  refine (chas_nil true 1 _).mono ?_
  rintro e w9 ⟨rfl, h9⟩
  have k9 := k8.trans (h9.mono k8.size)
  go_wp2_with (fail)
  refine (cclosed_nil _).mono ?_
  rintro e w10 ⟨rfl, h10⟩
  have k10 := k9.trans (h10.mono k9.size)
  go_wp2_with (fail)
  refine (clen_nil _).mono ?_
  rintro e w11 ⟨rfl, h11⟩
  have k11 := k10.trans (h11.mono k10.size)
  go_wp2_with (fail)
  refine (ccap_nil _).mono ?_
  rintro e w12 ⟨rfl, h12⟩
  have k12 := k11.trans (h12.mono k11.size)
  go_wp2_with (fail)
  refine (crow_nil true _).mono ?_
  rintro e w13 ⟨⟨A, cc, rfl⟩, h13⟩
  have k13 := k12.trans (h13.mono k12.size)
  go_wp2_with (fail)
  refine (cbuffer_nil _).mono ?_
  rintro e w14 ⟨rfl, h14⟩
  have k14 := k13.trans (h14.mono k13.size)
  go_wp2_with (fail)
  refine (ccopy_nil _).mono ?_
  rintro e w15 ⟨rfl, h15⟩
  have k15 := k14.trans (h15.mono k14.size)
  go_wp2_with (fail)
  go_ret
  exact ⟨rfl, k15⟩
end
end Go.Proofs.Ytmhnfcodppfaiac.HchanCode
