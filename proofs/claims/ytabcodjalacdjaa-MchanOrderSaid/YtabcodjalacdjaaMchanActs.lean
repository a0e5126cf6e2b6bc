
/- mchan.Serve: the map of what is done. -/
import Derived.Test.YtabcodjalacdjaaMchanOps
import Derived.Maps.OwnSet
import Derived.Maps.OwnOps
import Derived.Carry
namespace Go.Proofs.Ytabcodjalacdjaa.MchanCode
open Go Go.RowKit Go.Maps Go.Proofs.Ytabcodjalacdjaa.Obj Go.Proofs.Ytabcodjalacdjaa.RingCode Go.Proofs.YtabcodjalacdjaaW.PrintWords Go.Proofs.YtabcodjalacdjaaW.PrintLast Go.Proofs.YtabcodjalacdjaaW.PrintMore
set_option linter.unusedVariables false
set_option linter.unusedSimpArgs false
set_option maxRecDepth 100000
def fv (c f : Nat) : Value := .agg #[.func (.func f) #[.pointer (some ⟨c, 0, none⟩)] #[]]
theorem fv_inj {c f g : Nat} (h : fv c f = fv c g) : f = g := by
  unfold fv at h
  simpa using h
open Classical in
noncomputable def actR (c : Nat) (v : Value) : Option (DataW Unit × List MemPlace) :=
  if h : ∃ f : Nat, v = fv c f then some (.lit (.int .i64 (h.choose : Int)), []) else if v = .agg #[.nilFunc] then some (.nil, []) else none
theorem actR_mk (c f : Nat) : actR c (fv c f) = some (.lit (.int .i64 (f : Int)), []) := by
  have h : ∃ g : Nat, fv c f = fv c g := ⟨f, rfl⟩
  unfold actR
  rw [dif_pos h, ← fv_inj h.choose_spec]
theorem actR_nil (c : Nat) : actR c (.agg #[.nilFunc]) = some (.nil, []) := by
  have h : ¬ ∃ g : Nat, Value.agg #[.nilFunc] = fv c g := by rintro ⟨g, hg⟩; unfold fv at hg; simp at hg
  unfold actR
  rw [dif_neg h, if_pos rfl]
theorem actR_inv {c f : Nat} {v : Value} {ps : List MemPlace} (h : actR c v = some (.lit (.int .i64 (f : Int)), ps)) : v = fv c f := by
  unfold actR at h
  split at h
  · rename_i hx
    simp only [Option.some.injEq, Prod.mk.injEq, DataW.lit.injEq, Lit.int.injEq] at h
    have e : hx.choose = f := by omega
    rw [← e]
    exact hx.choose_spec
  · split at h
    · simp at h
    · cases h
theorem actR_nilinv {c : Nat} {v : Value} {ps : List MemPlace} (h : actR c v = some (.nil, ps)) : v = .agg #[.nilFunc] := by
  unfold actR at h
  split at h
  · simp at h
  · split at h
    · rename_i e; exact e
    · cases h
theorem law8 : Keyed Try.prog 5 := int_keyed Try.underlying5
theorem zeroAct (w : World) : (zeroValue 81).run Try.prog w = .ok (.agg #[.nilFunc]) w := by kernel_rfl
abbrev D4 : DataW Unit := ((((DataW.map []).put (.int .u8 2) (.lit (.int .i64 29))).put (.int .u8 3) (.lit (.int .i64 30))).put (.int .u8 4) (.lit (.int .i64 31))).put (.int .u8 5) (.lit (.int .i64 32))
theorem u8key (k : Int) (hk : (Lit.int .u8 k).wf = true) : keyOf Try.prog 5 (.int .u8 k) = some (.int .u8 k) := keyOf_int_mk Try.underlying5 hk
theorem acts_run (c : Nat) (W : World) : ∃ w1 w2 w3 w4, (Instr.mapUpdate 82 (.map (some W.heap.size)) (.int .u8 2) (fv c 29)).run Try.prog (W.alloc (.map #[] 0)) = .ok () w1 ∧
    (Instr.mapUpdate 82 (.map (some W.heap.size)) (.int .u8 3) (fv c 30)).run Try.prog w1 = .ok () w2 ∧
    (Instr.mapUpdate 82 (.map (some W.heap.size)) (.int .u8 4) (fv c 31)).run Try.prog w2 = .ok () w3 ∧
    (Instr.mapUpdate 82 (.map (some W.heap.size)) (.int .u8 5) (fv c 32)).run Try.prog w3 = .ok () w4 ∧
    Below W.heap.size W w4 ∧ w4.ownsMap Try.prog 5 (actR c) W.heap.size 4 D4 := by
  have h0 := World.ownsMap_made W Try.prog 5 (actR c)
  have b0 : Below W.heap.size W (W.alloc (.map #[] 0)) := (Below.refl _ W).alloc (Nat.le_refl _) _
  obtain ⟨w1, r1, h1, g1⟩ := h0.update law8 Try.underlying82 (by unfold maxLen; omega) (u8key 2 (by decide)) (actR_mk c 29)
  obtain ⟨w2, r2, h2, g2⟩ := h1.update law8 Try.underlying82 (by unfold maxLen; omega) (u8key 3 (by decide)) (actR_mk c 30)
  obtain ⟨w3, r3, h3, g3⟩ := h2.update law8 Try.underlying82 (by unfold maxLen; omega) (u8key 4 (by decide)) (actR_mk c 31)
  obtain ⟨w4, r4, h4, g4⟩ := h3.update law8 Try.underlying82 (by unfold maxLen; omega) (u8key 5 (by decide)) (actR_mk c 32)
  have k1 := b0.grown g1 b0.size (fun k e => by cases e; exact Nat.le_refl _)
  have k2 := k1.grown g2 k1.size (fun k e => by cases e; exact Nat.le_refl _)
  have k3 := k2.grown g3 k2.size (fun k e => by cases e; exact Nat.le_refl _)
  have k4 := k3.grown g4 k3.size (fun k e => by cases e; exact Nat.le_refl _)
  exact ⟨w1, w2, w3, w4, r1, r2, r3, r4, k4, h4⟩
/-- What is looked up. -/
theorem acts_look {c b n : Nat} {W : World} (h : W.ownsMap Try.prog 5 (actR c) b n D4) (k : Int) (f : Nat) (hk : (Lit.int .u8 k).wf = true) (hh : Maps.has D4 (.int .u8 k) = true) (ha : D4.atKey (.int .u8 k) .nil = .lit (.int .i64 (f : Int))) :
    (Instr.lookup 82 (.map (some b)) (.int .u8 k) true).run Try.prog W = .ok (.tuple #[fv c f, .bool true]) W := by
  obtain ⟨v, ps, hr, hv⟩ := h.look_ok law8 Try.underlying82 (zeroAct W) (actR_nil c) (u8key k hk)
  rw [ha] at hv
  rw [hr, actR_inv hv, hh]
theorem acts_none {c b n : Nat} {W : World} (h : W.ownsMap Try.prog 5 (actR c) b n D4) (k : Int) (hk : (Lit.int .u8 k).wf = true) (hh : Maps.has D4 (.int .u8 k) = false) (ha : D4.atKey (.int .u8 k) .nil = .nil) :
    (Instr.lookup 82 (.map (some b)) (.int .u8 k) true).run Try.prog W = .ok (.tuple #[.agg #[.nilFunc], .bool false]) W := by
  obtain ⟨v, ps, hr, hv⟩ := h.look_ok law8 Try.underlying82 (zeroAct W) (actR_nil c) (u8key k hk)
  rw [ha] at hv
  rw [hr, actR_nilinv hv, hh]
theorem look2 {c b n : Nat} {W : World} (h : W.ownsMap Try.prog 5 (actR c) b n D4) : (Instr.lookup 82 (.map (some b)) (.int .u8 2) true).run Try.prog W = .ok (.tuple #[fv c 29, .bool true]) W := acts_look h 2 29 (by decide) (by rfl) (by rfl)
theorem look3 {c b n : Nat} {W : World} (h : W.ownsMap Try.prog 5 (actR c) b n D4) : (Instr.lookup 82 (.map (some b)) (.int .u8 3) true).run Try.prog W = .ok (.tuple #[fv c 30, .bool true]) W := acts_look h 3 30 (by decide) (by rfl) (by rfl)
theorem look4 {c b n : Nat} {W : World} (h : W.ownsMap Try.prog 5 (actR c) b n D4) : (Instr.lookup 82 (.map (some b)) (.int .u8 4) true).run Try.prog W = .ok (.tuple #[fv c 31, .bool true]) W := acts_look h 4 31 (by decide) (by rfl) (by rfl)
theorem look6 {c b n : Nat} {W : World} (h : W.ownsMap Try.prog 5 (actR c) b n D4) : (Instr.lookup 82 (.map (some b)) (.int .u8 6) true).run Try.prog W = .ok (.tuple #[.agg #[.nilFunc], .bool false]) W := acts_none h 6 (by decide) (by rfl) (by rfl)
end Go.Proofs.Ytabcodjalacdjaa.MchanCode
