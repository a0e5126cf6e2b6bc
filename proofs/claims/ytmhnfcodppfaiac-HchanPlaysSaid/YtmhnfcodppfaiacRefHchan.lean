
/- The document's channel: a ring, two queues, whether it is closed. -/
import Derived.Test.YtmhnfcodppfaiacHchanMore
import Derived.Test.YtmhnfcodppfaiacRefRing
import Derived.Test.YtmhnfcodppfaiacRefList
namespace Go.Proofs.Ytmhnfcodppfaiac.HchanCode
open Go Go.RowKit Go.Proofs.Ytmhnfcodppfaiac.Obj Go.Proofs.Ytmhnfcodppfaiac.ListPure Go.Proofs.YtmhnfcodppfaiacW.PrintWords Go.Proofs.YtmhnfcodppfaiacW.PrintMore
set_option linter.unusedVariables false
set_option maxRecDepth 100000
section
variable {w w' : World} {q most : Nat} {L : List Int}
theorem rl_keep {S : Nat → Prop} (h : RefList.RefAt w q L) (o : Only S w w') (hs : ¬ S q) (hr : ∀ k a f, w.heap[k]? = some (.cells a 3 f) → ¬ S k) : RefList.RefAt w' q L := by
  obtain ⟨v, h1, h2⟩ := h
  refine ⟨v, h1.only o hs, own_only h2 o (fun k hk => ?_)⟩
  rcases h2.2 with ⟨rfl, _⟩ | ⟨g, cap, cur, rfl, _, hh, _⟩
  · cases hk
  · have e : g = k := by simpa [Value.ownBlock] using hk
    subst e
    exact hr _ _ _ hh
theorem rr_keep {S : Nat → Prop} (h : RefRing.RefAt w q most L) (o : Only S w w') (hs : ¬ S q) (hr : ∀ k a f, w.heap[k]? = some (.cells a 2 f) → ¬ S k) : RefRing.RefAt w' q most L := by
  obtain ⟨v, h1, h2⟩ := h
  refine ⟨v, h1.only o hs, own_only h2 o (fun k hk => ?_)⟩
  rcases h2.2 with ⟨rfl, _⟩ | ⟨g, cap, cur, rfl, _, hh, _⟩
  · cases hk
  · have e : g = k := by simpa [Value.ownBlock] using hk
    subst e
    exact hr _ _ _ hh
theorem rl_obj (h : RefList.RefAt w q L) : ∃ a, w.heap[q]? = some (.cells a 74 (0, 0)) := by obtain ⟨v, h1, _⟩ := h; exact ⟨_, h1⟩
theorem rr_obj (h : RefRing.RefAt w q most L) : ∃ a, w.heap[q]? = some (.cells a 71 (0, 0)) := by obtain ⟨v, h1, _⟩ := h; exact ⟨_, h1⟩
theorem ty_ne {w : World} {x y : Nat} {a b : Array Value} {s t : TypeId} {f g : Nat × Nat} (h1 : w.heap[x]? = some (.cells a s f)) (h2 : w.heap[y]? = some (.cells b t g)) (hn : s ≠ t) : x ≠ y := fun e => by
  subst e; rw [h1] at h2; simp only [Option.some.injEq, Obj.cells.injEq] at h2; exact hn h2.2.1
end
structure RRaw (w : World) (q rr s t base : Nat) (h : Hc) : Prop where
  blk : Blk w q 76 [.pointer (some ⟨rr, 0, none⟩), .pointer (some ⟨s, 0, none⟩), .pointer (some ⟨t, 0, none⟩), .bool h.shut]
  ring : RefRing.RefAt w rr h.most h.V
  ls : RefList.RefAt w s h.L1
  lt : RefList.RefAt w t h.L0
  ne : s ≠ t
  lo : base ≤ q ∧ base ≤ rr ∧ base ≤ s ∧ base ≤ t
def R22 (w : World) (q base : Nat) (h : Hc) : Prop := ∃ rr s t, RRaw w q rr s t base h
section
variable {w w' : World} {c q rr s t base lo hi : Nat} {h : Hc}
theorem RRaw.ap (k : RRaw w q rr s t base h) : q ≠ rr ∧ q ≠ s ∧ q ≠ t ∧ rr ≠ s ∧ rr ≠ t ∧ s ≠ t := by
  obtain ⟨a1, h1⟩ := rr_obj k.ring
  obtain ⟨a2, h2⟩ := rl_obj k.ls
  obtain ⟨a3, h3⟩ := rl_obj k.lt
  have h0 : w.heap[q]? = some (.cells _ 76 (0, 0)) := k.blk
  exact ⟨ty_ne h0 h1 (by decide), ty_ne h0 h2 (by decide), ty_ne h0 h3 (by decide), ty_ne h1 h2 (by decide), ty_ne h1 h3 (by decide), k.ne⟩
theorem RRaw.rows (k : RRaw w q rr s t base h) : ∀ x, (x = q ∨ x = rr ∨ x = s ∨ x = t) → ∀ j a f, (w.heap[j]? = some (.cells a 3 f) ∨ w.heap[j]? = some (.cells a 2 f)) → j ≠ x := fun x hx j a f hj => by
  obtain ⟨a1, h1⟩ := rr_obj k.ring
  obtain ⟨a2, h2⟩ := rl_obj k.ls
  obtain ⟨a3, h3⟩ := rl_obj k.lt
  have h0 : w.heap[q]? = some (.cells _ 76 (0, 0)) := k.blk
  rcases hx with rfl | rfl | rfl | rfl <;> rcases hj with hj | hj
  · exact ty_ne hj h0 (by decide)
  · exact ty_ne hj h0 (by decide)
  · exact ty_ne hj h1 (by decide)
  · exact ty_ne hj h1 (by decide)
  · exact ty_ne hj h2 (by decide)
  · exact ty_ne hj h2 (by decide)
  · exact ty_ne hj h3 (by decide)
  · exact ty_ne hj h3 (by decide)
theorem RRaw.keep {S : Nat → Prop} (k : RRaw w q rr s t base h) (o : Only S w w') (hs : ∀ j, S j → Cty w j) : RRaw w' q rr s t base h := by
  have hn : ∀ {j a t' f}, w.heap[j]? = some (.cells a t' f) → t' ≠ 59 → t' ≠ 83 → t' ≠ 86 → ¬ S j := fun h1 h2 h3 h4 hj => not_cty h1 h2 h3 h4 (hs _ hj)
  obtain ⟨a1, h1⟩ := rr_obj k.ring
  obtain ⟨a2, h2⟩ := rl_obj k.ls
  obtain ⟨a3, h3⟩ := rl_obj k.lt
  have h0 : w.heap[q]? = some (.cells _ 76 (0, 0)) := k.blk
  exact ⟨k.blk.only o (hn h0 (by decide) (by decide) (by decide)), rr_keep k.ring o (hn h1 (by decide) (by decide) (by decide)) (fun j a f hj => hn hj (by decide) (by decide) (by decide)),
    rl_keep k.ls o (hn h2 (by decide) (by decide) (by decide)) (fun j a f hj => hn hj (by decide) (by decide) (by decide)), rl_keep k.lt o (hn h3 (by decide) (by decide) (by decide)) (fun j a f hj => hn hj (by decide) (by decide) (by decide)), k.ne, k.lo⟩
theorem R22.keep {S : Nat → Prop} (k : R22 w q base h) (o : Only S w w') (hs : ∀ j, S j → Cty w j) : R22 w' q base h := by
  obtain ⟨rr, s, t, k⟩ := k; exact ⟨rr, s, t, k.keep o hs⟩
theorem R22.kin (k : R22 w q base h) (o : Only (KIn w lo hi) w w') : R22 w' q base h := k.keep o (fun _ h => h.2.2)
theorem R22.none (k : R22 w q base h) (o : Only (fun _ => False) w w') : R22 w' q base h := k.keep o (fun _ h => h.elim)
theorem R22.below (k : R22 w q base h) (hb : Below w.heap.size w w') : R22 w' q base h := k.none (Only.none_of_below hb)
theorem R22.drew (k : R22 w q base h) : R22 w.drew q base h := k.none (Only.drew _ _)
/-- A channel's blocks are none that the document's step writes. -/
def Rty (w : World) (base k : Nat) : Prop := base ≤ k ∧ ¬ Cty w k
theorem HcAt.ref {h2 : Hc} (k : HcAt w c lo hi h2) (o : Only (Rty w base) w w') : HcAt w' c lo hi h2 := by
  obtain ⟨r, p0, b0, p1, b1, k, hb⟩ := k
  have ct := k.cty
  exact ⟨r, p0, b0, p1, b1, k.only o ⟨fun h => h.2 ct.1, fun h => h.2 ct.2.1, fun h => h.2 ct.2.2.1, fun h => h.2 ct.2.2.2.1, fun h => h.2 ct.2.2.2.2.1, fun h => h.2 ct.2.2.2.2.2⟩, hb⟩
theorem RRaw.rty (k : RRaw w q rr s t base h) : Rty w base q ∧ Rty w base rr ∧ Rty w base s ∧ Rty w base t := by
  obtain ⟨a1, h1⟩ := rr_obj k.ring
  obtain ⟨a2, h2⟩ := rl_obj k.ls
  obtain ⟨a3, h3⟩ := rl_obj k.lt
  have h0 : w.heap[q]? = some (.cells _ 76 (0, 0)) := k.blk
  exact ⟨⟨k.lo.1, not_cty h0 (by decide) (by decide) (by decide)⟩, ⟨k.lo.2.1, not_cty h1 (by decide) (by decide) (by decide)⟩, ⟨k.lo.2.2.1, not_cty h2 (by decide) (by decide) (by decide)⟩, ⟨k.lo.2.2.2, not_cty h3 (by decide) (by decide) (by decide)⟩⟩
/-- What is left of the document's channel where one of its parts is otherwise. -/
theorem RRaw.ring_set {m2 : Nat} {V2 : List Int} (k : RRaw w q rr s t base h) (o : Only (· = rr) w w') (hr : RefRing.RefAt w' rr h.most V2) : R22 w' q base { h with V := V2 } ∧ Only (Rty w base) w w' := by
  have ap := k.ap
  have hw := k.rows
  refine ⟨⟨rr, s, t, k.blk.only o (by omega), hr, rl_keep k.ls o (by omega) (fun j a f hj => hw _ (.inr (.inl rfl)) j a f (.inl hj)), rl_keep k.lt o (by omega) (fun j a f hj => hw _ (.inr (.inl rfl)) j a f (.inl hj)), k.ne, k.lo⟩, o.mono (fun j _ e => by subst e; exact k.rty.2.1)⟩
theorem RRaw.s_set {L2 : List Int} (k : RRaw w q rr s t base h) (o : Only (· = s) w w') (hr : RefList.RefAt w' s L2) : R22 w' q base { h with L1 := L2 } ∧ Only (Rty w base) w w' := by
  have ap := k.ap
  have hw := k.rows
  refine ⟨⟨rr, s, t, k.blk.only o (by omega), rr_keep k.ring o (by omega) (fun j a f hj => hw _ (.inr (.inr (.inl rfl))) j a f (.inr hj)), hr, rl_keep k.lt o (by omega) (fun j a f hj => hw _ (.inr (.inr (.inl rfl))) j a f (.inl hj)), k.ne, k.lo⟩, o.mono (fun j _ e => by subst e; exact k.rty.2.2.1)⟩
theorem RRaw.t_set {L2 : List Int} (k : RRaw w q rr s t base h) (o : Only (· = t) w w') (hr : RefList.RefAt w' t L2) : R22 w' q base { h with L0 := L2 } ∧ Only (Rty w base) w w' := by
  have ap := k.ap
  have hw := k.rows
  refine ⟨⟨rr, s, t, k.blk.only o (by omega), rr_keep k.ring o (by omega) (fun j a f hj => hw _ (.inr (.inr (.inr rfl))) j a f (.inr hj)), rl_keep k.ls o (by omega) (fun j a f hj => hw _ (.inr (.inr (.inr rfl))) j a f (.inl hj)), hr, k.ne, k.lo⟩, o.mono (fun j _ e => by subst e; exact k.rty.2.2.2)⟩
theorem q_at (k : RRaw w q rr s t base h) (sd : Bool) : Calls Try.prog 45 #[.pointer (some ⟨q, 0, none⟩), .bool sd] w fun e w' => e = .returned (.pointer (some ⟨if sd then s else t, 0, none⟩)) ∧ w' = w := by
  have c1 := k.blk.cell 1
  have c2 := k.blk.cell 2
  simp only [List.getElem?_cons_zero, List.getElem?_cons_succ] at c1 c2
  clear k
  cases sd with
  | true =>
    go_enter Try.func45, Try.ntmps45
    go_wp2
    go_ret
    exact ⟨rfl, rfl⟩
  | false =>
    go_enter Try.func45, Try.ntmps45
    go_wp2
    go_ret
    exact ⟨rfl, rfl⟩
theorem close_at (k : R22 w q base h) : Calls Try.prog 48 #[.pointer (some ⟨q, 0, none⟩)] w fun e w' => e = .returned (.int .i64 (shutC h)) ∧ R22 w' q base { h with shut := true } ∧ Only (Rty w base) w w' := by
  have hkH := hid k
  obtain ⟨rr, s, t, k⟩ := k
  have c3 := k.blk.cell 3
  have hz := k.blk.frozen
  have hl := k.blk.lt
  simp only [List.getElem?_cons_zero, List.getElem?_cons_succ] at c3
  have kH := hid k
  unfold shutC
  cases hs : h.shut with
  | true =>
    rw [hs] at c3
    have e : ({ h with shut := true } : Hc) = h := by cases h; simp at hs; simp [hs]
    rw [e]
    simp only [if_true]
    clear k e hs
    go_enter Try.func48, Try.ntmps48
    go_wp2
    go_ret
    exact ⟨rfl, hkH.out, Only.refl _ _⟩
  | false =>
    rw [hs] at c3
    simp only [Bool.false_eq_true, if_false]
    clear k hs
    go_enter Try.func48, Try.ntmps48
    go_wp2
    go_ret
    have kk := kH.out
    have ap := kk.ap
    have hw := kk.rows
    have o := setC w q 3 (.bool true)
    refine ⟨rfl, ⟨rr, s, t, kk.blk.set 3 _, rr_keep kk.ring o (by omega) (fun j a f hj => hw _ (.inl rfl) j a f (.inr hj)), rl_keep kk.ls o (by omega) (fun j a f hj => hw _ (.inl rfl) j a f (.inl hj)), rl_keep kk.lt o (by omega) (fun j a f hj => hw _ (.inl rfl) j a f (.inl hj)), kk.ne, kk.lo⟩, o.mono (fun j _ e => by subst e; exact kk.rty.1)⟩
end
section
variable {w w' : World} {q most : Nat} {V L : List Int}
theorem rrput (h : RefRing.RefAt w q most V) (hf : V.length ≤ most) (hm : most ≤ 8) (v : Int) : Calls Try.prog 42 #[.pointer (some ⟨q, 0, none⟩), .int .i64 v] w fun e w' => e = .returned (.int .i64 (rPutC most V)) ∧ RefRing.RefAt w' q most (rPutV most V v) ∧ Only (· = q) w w' := by
  unfold rPutC rPutV
  by_cases hl : V.length < most
  · rw [if_pos hl, if_pos hl]; exact RefRing.put_at h hl (by omega) hm v
  · rw [if_neg hl, if_neg hl]
    refine (RefRing.put_full_at h (by omega) v).mono ?_
    rintro e w' ⟨rfl, n, rfl⟩
    exact ⟨rfl, h.drewN n, Only.drewN _ _ _⟩
theorem rrtake (h : RefRing.RefAt w q most V) (hf : V.length ≤ 1000) : Calls Try.prog 43 #[.pointer (some ⟨q, 0, none⟩)] w fun e w' => e = .returned (.tuple #[.int .i64 (rTakeX V), .int .i64 (rTakeC V)]) ∧ RefRing.RefAt w' q most V.tail ∧ Only (· = q) w w' := by
  cases V with
  | nil =>
    refine (RefRing.take_none_at h).mono ?_
    rintro e w' ⟨rfl, rfl⟩
    exact ⟨rfl, h, Only.refl _ _⟩
  | cons x t => exact RefRing.take_at h (by have h1 : t.length + 1 ≤ 1000 := hf; show t.length ≤ 1000; omega)
theorem rrswap (h : RefRing.RefAt w q most V) (hf : V.length ≤ most) (hm : most ≤ 8) (v : Int) : Calls Try.prog 44 #[.pointer (some ⟨q, 0, none⟩), .int .i64 v] w fun e w' => e = .returned (.tuple #[.int .i64 (rSwapX most V), .int .i64 (rSwapC most V)]) ∧ RefRing.RefAt w' q most (rSwapV most V v) ∧ Only (· = q) w w' := by
  unfold rSwapX rSwapC rSwapV
  by_cases hc : V ≠ [] ∧ V.length = most
  · have e : rCan most V = true := by unfold rCan; simp [hc]
    simp only [e, if_true]
    cases V with
    | nil => exact absurd rfl hc.1
    | cons x t => exact RefRing.swap_at h hc.2 hm v
  · have e : rCan most V = false := by unfold rCan; simpa using hc
    simp only [e, Bool.false_eq_true, if_false]
    refine (RefRing.swap_none_at h (by
      by_cases h0 : V = []
      · exact .inl h0
      · exact .inr (by have : V.length ≠ most := fun e => hc ⟨h0, e⟩; omega)) v).mono ?_
    rintro e w' ⟨rfl, n, rfl⟩
    exact ⟨rfl, h.drewN n, Only.drewN _ _ _⟩
end
end Go.Proofs.Ytmhnfcodppfaiac.HchanCode
