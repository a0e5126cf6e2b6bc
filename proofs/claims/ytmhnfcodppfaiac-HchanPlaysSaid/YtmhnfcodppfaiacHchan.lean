
/- A channel in memory is a buffer, two queues, and whether it is closed: the contracts of package hchan. -/
import Derived.Test.YtmhnfcodppfaiacListAll
import Derived.Test.YtmhnfcodppfaiacRingCopy
namespace Go.Proofs.Ytmhnfcodppfaiac.HchanCode
open Go Go.RowKit Go.Proofs.Ytmhnfcodppfaiac.Obj Go.Proofs.Ytmhnfcodppfaiac.ListPure
set_option linter.unusedVariables false
set_option maxRecDepth 100000
/-! the ring, told plainly -/
def rPutC (most : Nat) (V : List Int) : Int := if V.length < most then 0 else 4
def rPutV (most : Nat) (V : List Int) (v : Int) : List Int := if V.length < most then V ++ [v] else V
def rTakeX (V : List Int) : Int := V.headD 0
def rTakeC (V : List Int) : Int := if V = [] then 3 else 0
def rHead (V : List Int) : Int := V.headD 0
def rHas (V : List Int) : Bool := !V.isEmpty
def rCan (most : Nat) (V : List Int) : Bool := decide (V ≠ [] ∧ V.length = most)
def rSwapX (most : Nat) (V : List Int) : Int := if rCan most V then V.headD 0 else 0
def rSwapC (most : Nat) (V : List Int) : Int := if rCan most V then 0 else 3
def rSwapV (most : Nat) (V : List Int) (v : Int) : List Int := if rCan most V then V.tail ++ [v] else V
section
variable {w w' : World} {r most : Nat} {V : List Int}
theorem rput_any (h : RingCode.RingAt w r most V) (v : Int) : Calls Try.prog 41 #[.pointer (some ⟨r, 0, none⟩), .int .i64 v] w fun e w' => e = .returned (.int .i64 (rPutC most V)) ∧ RingCode.RingAt w' r most (rPutV most V v) ∧ Only (· = r) w w' := by
  unfold rPutC rPutV
  by_cases hl : V.length < most
  · rw [if_pos hl, if_pos hl]; exact RingCode.put_at h hl v
  · rw [if_neg hl, if_neg hl]
    exact (RingCode.put_full_at h (by have := h.fit; omega) v).mono fun e w' ⟨h1, h2, h3⟩ => ⟨h1, h2, h3.mono (fun _ _ h => h.elim)⟩
theorem rtake_any (h : RingCode.RingAt w r most V) : Calls Try.prog 55 #[.pointer (some ⟨r, 0, none⟩)] w fun e w' => e = .returned (.tuple #[.int .i64 (rTakeX V), .int .i64 (rTakeC V)]) ∧ RingCode.RingAt w' r most V.tail ∧ Only (· = r) w w' := by
  cases V with
  | nil =>
    refine (RingCode.take_none_at h).mono ?_
    rintro e w' ⟨rfl, rfl⟩
    exact ⟨rfl, h, Only.refl _ _⟩
  | cons x t => exact RingCode.take_at h
theorem rswap_any (h : RingCode.RingAt w r most V) (v : Int) : Calls Try.prog 56 #[.pointer (some ⟨r, 0, none⟩), .int .i64 v] w fun e w' => e = .returned (.tuple #[.int .i64 (rSwapX most V), .int .i64 (rSwapC most V)]) ∧ RingCode.RingAt w' r most (rSwapV most V v) ∧ Only (· = r) w w' := by
  unfold rSwapX rSwapC rSwapV
  by_cases hc : V ≠ [] ∧ V.length = most
  · have e : rCan most V = true := by unfold rCan; simp [hc]
    simp only [e, if_true]
    cases V with
    | nil => exact absurd rfl hc.1
    | cons x t => exact RingCode.swap_at h hc.2 v
  · have e : rCan most V = false := by unfold rCan; simpa using hc
    simp only [e, Bool.false_eq_true, if_false]
    exact (RingCode.swap_none_at h (by
      by_cases h0 : V = []
      · exact .inl h0
      · exact .inr (by have := h.fit; have : V.length ≠ most := fun e => hc ⟨h0, e⟩; omega)) v).mono fun e w' ⟨h1, h2, h3⟩ => ⟨h1, h2, h3.mono (fun _ _ h => h.elim)⟩
theorem rfront_any (h : RingCode.RingAt w r most V) : Calls Try.prog 58 #[.pointer (some ⟨r, 0, none⟩)] w fun e w' => e = .returned (.tuple #[.int .i64 (rHead V), .bool (rHas V)]) ∧ RingCode.RingAt w' r most V ∧ Only (fun _ => False) w w' := by
  cases V with
  | nil =>
    refine (RingCode.front_none_at h).mono ?_
    rintro e w' ⟨rfl, rfl⟩
    exact ⟨rfl, h, Only.refl _ _⟩
  | cons x t =>
    refine (RingCode.front_at h).mono ?_
    rintro e w' ⟨rfl, h1, h2⟩
    exact ⟨rfl, h1, h2⟩
theorem rfit_put (hf : V.length ≤ most) (v : Int) : (rPutV most V v).length ≤ most := by
  unfold rPutV
  split
  · simp; omega
  · exact hf
end
/-- What a channel is, told plainly. -/
structure Hc where
  most : Nat
  V : List Int
  L0 : List Int
  L1 : List Int
  shut : Bool
def Hc.q (h : Hc) (s : Bool) : List Int := if s then h.L1 else h.L0
def Hc.setq (h : Hc) (s : Bool) (L : List Int) : Hc := if s then { h with L1 := L } else { h with L0 := L }
structure Raw (w : World) (c r p0 b0 p1 b1 : Nat) (h : Hc) : Prop where
  blk : Blk w c 59 [.pointer (some ⟨r, 0, none⟩), .pointer (some ⟨p0, 0, none⟩), .pointer (some ⟨p1, 0, none⟩), .bool h.shut]
  ring : RingCode.RingAt w r h.most h.V
  l0 : ListCode.LsAt w p0 b0 h.L0
  l1 : ListCode.LsAt w p1 b1 h.L1
  ne0 : p0 ≠ p1
  ne1 : b0 ≠ b1
/-- A block of one of a channel's kinds. -/
def Cty (w : World) (k : Nat) : Prop := (∃ a t f, w.heap[k]? = some (.cells a t f) ∧ (t = 59 ∨ t = 83 ∨ t = 86)) ∨ ∃ es cl, w.heap[k]? = some (.map es cl)
theorem not_cty {w : World} {k : Nat} {a : Array Value} {t : TypeId} {f : Nat × Nat} (h : w.heap[k]? = some (.cells a t f)) (h1 : t ≠ 59) (h2 : t ≠ 83) (h3 : t ≠ 86) : ¬ Cty w k := fun hc => by
  rcases hc with ⟨a', t', f', e, ht⟩ | ⟨es, cl, e⟩
  · rw [h] at e
    simp only [Option.some.injEq, Obj.cells.injEq] at e
    obtain ⟨_, rfl, _⟩ := e
    rcases ht with ht | ht | ht
    · exact h1 ht
    · exact h2 ht
    · exact h3 ht
  · rw [h] at e; simp at e
def KIn (w : World) (lo hi : Nat) (k : Nat) : Prop := lo ≤ k ∧ k < hi ∧ Cty w k
theorem setC (w : World) (b i : Nat) (v : Value) : Only (· = b) w (w.setCell ⟨b, i, none⟩ v) := Only.setCell _ _ _ rfl
theorem apart_of {w : World} {x y : Nat} {o1 o2 : Go.Obj} (h1 : w.heap[x]? = some o1) (h2 : w.heap[y]? = some o2) (hn : o1 ≠ o2) : x ≠ y := fun e => by
  subst e; rw [h1] at h2; exact hn (Option.some.inj h2)
section
variable {w w' : World} {c r p0 b0 p1 b1 lo hi : Nat} {h : Hc}
theorem Raw.objs (k : Raw w c r p0 b0 p1 b1 h) : ∃ ac ar a0 a1 e0 e1 m0 m1, w.heap[c]? = some (.cells ac 59 (0, 0)) ∧ w.heap[r]? = some (.cells ar 83 (0, 0)) ∧ w.heap[p0]? = some (.cells a0 86 (0, 0)) ∧ w.heap[p1]? = some (.cells a1 86 (0, 0)) ∧ w.heap[b0]? = some (.map e0 m0) ∧ w.heap[b1]? = some (.map e1 m1) := by
  obtain ⟨A, fr, hr, _⟩ := k.ring
  obtain ⟨D0, ⟨e0, m0, hm0, _⟩, _⟩ := k.l0.map
  obtain ⟨D1, ⟨e1, m1, hm1, _⟩, _⟩ := k.l1.map
  exact ⟨_, _, _, _, e0, e1, m0, m1, k.blk, hr, k.l0.blk, k.l1.blk, hm0, hm1⟩
theorem Raw.ap (k : Raw w c r p0 b0 p1 b1 h) : c ≠ r ∧ c ≠ p0 ∧ c ≠ b0 ∧ c ≠ p1 ∧ c ≠ b1 ∧ r ≠ p0 ∧ r ≠ b0 ∧ r ≠ p1 ∧ r ≠ b1 ∧ p0 ≠ b1 ∧ p1 ≠ b0 := by
  obtain ⟨ac, ar, a0, a1, e0, e1, m0, m1, hc, hr, h0, h1, hm0, hm1⟩ := k.objs
  exact ⟨apart_of hc hr (by simp), apart_of hc h0 (by simp), apart_of hc hm0 (by simp), apart_of hc h1 (by simp), apart_of hc hm1 (by simp), apart_of hr h0 (by simp), apart_of hr hm0 (by simp), apart_of hr h1 (by simp), apart_of hr hm1 (by simp), apart_of h0 hm1 (by simp), apart_of h1 hm0 (by simp)⟩
theorem Raw.cty (k : Raw w c r p0 b0 p1 b1 h) : Cty w c ∧ Cty w r ∧ Cty w p0 ∧ Cty w b0 ∧ Cty w p1 ∧ Cty w b1 := by
  obtain ⟨ac, ar, a0, a1, e0, e1, m0, m1, hc, hr, h0, h1, hm0, hm1⟩ := k.objs
  exact ⟨.inl ⟨_, _, _, hc, .inl rfl⟩, .inl ⟨_, _, _, hr, .inr (.inl rfl)⟩, .inl ⟨_, _, _, h0, .inr (.inr rfl)⟩, .inr ⟨_, _, hm0⟩, .inl ⟨_, _, _, h1, .inr (.inr rfl)⟩, .inr ⟨_, _, hm1⟩⟩
theorem Raw.lt (k : Raw w c r p0 b0 p1 b1 h) : c < w.heap.size ∧ r < w.heap.size ∧ p0 < w.heap.size ∧ b0 < w.heap.size ∧ p1 < w.heap.size ∧ b1 < w.heap.size := ⟨k.blk.lt, k.ring.lt, k.l0.lt.1, k.l0.lt.2, k.l1.lt.1, k.l1.lt.2⟩
theorem Raw.only {S : Nat → Prop} (k : Raw w c r p0 b0 p1 b1 h) (o : Only S w w') (hs : ¬ S c ∧ ¬ S r ∧ ¬ S p0 ∧ ¬ S b0 ∧ ¬ S p1 ∧ ¬ S b1) : Raw w' c r p0 b0 p1 b1 h :=
  ⟨k.blk.only o hs.1, k.ring.only o hs.2.1, k.l0.only o hs.2.2.1 hs.2.2.2.1, k.l1.only o hs.2.2.2.2.1 hs.2.2.2.2.2, k.ne0, k.ne1⟩
/-- A channel all of whose blocks lie from lo on, ahead of hi. -/
def HcAt (w : World) (c lo hi : Nat) (h : Hc) : Prop := ∃ r p0 b0 p1 b1, Raw w c r p0 b0 p1 b1 h ∧ (lo ≤ c ∧ c < hi) ∧ (lo ≤ r ∧ r < hi) ∧ (lo ≤ p0 ∧ p0 < hi) ∧ (lo ≤ b0 ∧ b0 < hi) ∧ (lo ≤ p1 ∧ p1 < hi) ∧ (lo ≤ b1 ∧ b1 < hi)
theorem HcAt.far {S : Nat → Prop} (k : HcAt w c lo hi h) (o : Only S w w') (hs : ∀ j, lo ≤ j → j < hi → j < w.heap.size → ¬ S j) : HcAt w' c lo hi h := by
  obtain ⟨r, p0, b0, p1, b1, k, hb⟩ := k
  have hl := k.lt
  exact ⟨r, p0, b0, p1, b1, k.only o ⟨hs _ hb.1.1 hb.1.2 hl.1, hs _ hb.2.1.1 hb.2.1.2 hl.2.1, hs _ hb.2.2.1.1 hb.2.2.1.2 hl.2.2.1, hs _ hb.2.2.2.1.1 hb.2.2.2.1.2 hl.2.2.2.1, hs _ hb.2.2.2.2.1.1 hb.2.2.2.2.1.2 hl.2.2.2.2.1, hs _ hb.2.2.2.2.2.1 hb.2.2.2.2.2.2 hl.2.2.2.2.2⟩, hb⟩
theorem HcAt.below (k : HcAt w c lo hi h) (hb : Below w.heap.size w w') : HcAt w' c lo hi h := k.far (Only.none_of_below hb) (fun _ _ _ _ => id)
theorem HcAt.drewN (k : HcAt w c lo hi h) (n : Nat) : HcAt (w.drewN n) c lo hi h := k.far (Only.drewN (fun _ => False) w n) (fun _ _ _ _ => id)
theorem HcAt.drew (k : HcAt w c lo hi h) : HcAt w.drew c lo hi h := k.drewN 1
theorem HcAt.lt (k : HcAt w c lo hi h) : c < w.heap.size := by obtain ⟨r, p0, b0, p1, b1, k, _⟩ := k; exact k.lt.1
theorem HcAt.bnd (k : HcAt w c lo hi h) : lo ≤ c ∧ c < hi := by obtain ⟨r, p0, b0, p1, b1, k, hb⟩ := k; exact hb.1
theorem HcAt.lens (k : HcAt w c lo hi h) : h.V.length ≤ h.most ∧ h.most ≤ 8 ∧ h.L0.length ≤ 1024 ∧ h.L1.length ≤ 1024 := by
  obtain ⟨r, p0, b0, p1, b1, k, _⟩ := k
  exact ⟨k.ring.fit, k.ring.most8, k.l0.len, k.l1.len⟩
theorem ring__at (k : Raw w c r p0 b0 p1 b1 h) : Calls Try.prog 40 #[.pointer (some ⟨c, 0, none⟩)] w fun e w' => e = .returned (.pointer (some ⟨r, 0, none⟩)) ∧ w' = w := by
  have c0 := k.blk.cell 0
  simp only [List.getElem?_cons_zero] at c0
  clear k
  go_enter Try.func40, Try.ntmps40
  go_wp2
  go_ret
  exact ⟨rfl, rfl⟩
theorem of1_at {q1 q2 : Nat} {s : Bool} (k : Raw w c r p0 b0 p1 b1 h) (hq1 : w.cell? ⟨q1, 0, none⟩ = some (.bool s)) (hq2 : w.cell? ⟨q2, 0, none⟩ = some (.pointer (some ⟨c, 0, none⟩))) : Calls Try.prog 52 #[.pointer (some ⟨q1, 0, none⟩), .pointer (some ⟨q2, 0, none⟩)] w fun e w' => e = .returned (.pointer (some ⟨if s then p1 else p0, 0, none⟩)) ∧ w' = w := by
  have c1 := k.blk.cell 1
  have c2 := k.blk.cell 2
  simp only [List.getElem?_cons_zero, List.getElem?_cons_succ] at c1 c2
  clear k
  cases s with
  | true =>
    go_enter Try.func52, Try.ntmps52
    go_wp2
    go_ret
    exact ⟨rfl, rfl⟩
  | false =>
    go_enter Try.func52, Try.ntmps52
    go_wp2
    go_ret
    exact ⟨rfl, rfl⟩
theorem of_at (k : Raw w c r p0 b0 p1 b1 h) (s : Bool) : Calls Try.prog 28 #[.pointer (some ⟨c, 0, none⟩), .bool s] w fun e w' => e = .returned (.pointer (some ⟨if s then p1 else p0, 0, none⟩)) ∧ Below w.heap.size w w' := by
  have hb1 : Below w.heap.size w ((w.alloc (.cells #[.pointer (some ⟨c, 0, none⟩)] 24)).alloc (.cells #[.bool s] 4)) := ((Below.refl _ w).alloc (Nat.le_refl _) _).alloc (by simp) _
  have hk := k.only (w' := (w.alloc (.cells #[.pointer (some ⟨c, 0, none⟩)] 24)).alloc (.cells #[.bool s] 4)) (Only.none_of_below hb1) ⟨id, id, id, id, id, id⟩
  have q2 := ((Blk.new w 24 [.pointer (some ⟨c, 0, none⟩)]).alloc (.cells #[.bool s] 4)).cell 0
  have q1 := (Blk.new (w.alloc (.cells #[.pointer (some ⟨c, 0, none⟩)] 24)) 4 [.bool s]).cell 0
  rw [World.size_alloc] at q1
  simp only [List.getElem?_cons_zero] at q1 q2
  have hO := of1_at hk q1 q2
  clear k hk q1 q2
  generalize (if s then p1 else p0) = pq at *
  go_enter Try.func28, Try.ntmps28
  go_wp2_with (fail)
  refine hO.mono ?_
  rintro e w1 ⟨rfl, rfl⟩
  go_wp2_with (fail)
  go_ret
  exact ⟨rfl, hb1⟩
theorem cput (k : HcAt w c lo hi h) (v : Int) : Calls Try.prog 20 #[.pointer (some ⟨c, 0, none⟩), .int .i64 v] w fun e w' => e = .returned (.int .i64 (rPutC h.most h.V)) ∧ HcAt w' c lo hi { h with V := rPutV h.most h.V v } ∧ Only (KIn w lo hi) w w' := by
  obtain ⟨r, p0, b0, p1, b1, k, hb⟩ := k
  have hR := ring__at k
  have hP := rput_any k.ring v
  have hkH := hid k
  have ap := hid k.ap
  have ct := hid k.cty
  clear k
  go_enter Try.func20, Try.ntmps20
  go_wp2_with (fail)
  refine hR.mono ?_
  rintro e w1 ⟨rfl, hw⟩
  obtain rfl : w = w1 := hw.symm
  go_wp2_with (fail)
  refine hP.mono ?_
  rintro e w2 ⟨rfl, k2, o2⟩
  go_wp2_with (fail)
  go_ret
  have ap := ap.out
  have kk := hkH.out
  refine ⟨rfl, ⟨r, p0, b0, p1, b1, ⟨kk.blk.only o2 (by omega), k2, kk.l0.only o2 (by omega) (by omega), kk.l1.only o2 (by omega) (by omega), kk.ne0, kk.ne1⟩, hb⟩, o2.mono (fun j _ e => ?_)⟩
  subst e
  exact ⟨hb.2.1.1, hb.2.1.2, ct.out.2.1⟩
theorem ctake (k : HcAt w c lo hi h) : Calls Try.prog 33 #[.pointer (some ⟨c, 0, none⟩)] w fun e w' => e = .returned (.tuple #[.int .i64 (rTakeX h.V), .int .i64 (rTakeC h.V)]) ∧ HcAt w' c lo hi { h with V := h.V.tail } ∧ Only (KIn w lo hi) w w' := by
  obtain ⟨r, p0, b0, p1, b1, k, hb⟩ := k
  have hR := ring__at k
  have hP := rtake_any k.ring
  have hkH := hid k
  have ap := hid k.ap
  have ct := hid k.cty
  clear k
  go_enter Try.func33, Try.ntmps33
  go_wp2_with (fail)
  refine hR.mono ?_
  rintro e w1 ⟨rfl, hw⟩
  obtain rfl : w = w1 := hw.symm
  go_wp2_with (fail)
  refine hP.mono ?_
  rintro e w2 ⟨rfl, k2, o2⟩
  go_wp2_with (fail)
  go_ret2
  have ap := ap.out
  have kk := hkH.out
  refine ⟨rfl, ⟨r, p0, b0, p1, b1, ⟨kk.blk.only o2 (by omega), k2, kk.l0.only o2 (by omega) (by omega), kk.l1.only o2 (by omega) (by omega), kk.ne0, kk.ne1⟩, hb⟩, o2.mono (fun j _ e => ?_)⟩
  subst e
  exact ⟨hb.2.1.1, hb.2.1.2, ct.out.2.1⟩
theorem cswap (k : HcAt w c lo hi h) (v : Int) : Calls Try.prog 34 #[.pointer (some ⟨c, 0, none⟩), .int .i64 v] w fun e w' => e = .returned (.tuple #[.int .i64 (rSwapX h.most h.V), .int .i64 (rSwapC h.most h.V)]) ∧ HcAt w' c lo hi { h with V := rSwapV h.most h.V v } ∧ Only (KIn w lo hi) w w' := by
  obtain ⟨r, p0, b0, p1, b1, k, hb⟩ := k
  have hR := ring__at k
  have hP := rswap_any k.ring v
  have hkH := hid k
  have ap := hid k.ap
  have ct := hid k.cty
  clear k
  go_enter Try.func34, Try.ntmps34
  go_wp2_with (fail)
  refine hR.mono ?_
  rintro e w1 ⟨rfl, hw⟩
  obtain rfl : w = w1 := hw.symm
  go_wp2_with (fail)
  refine hP.mono ?_
  rintro e w2 ⟨rfl, k2, o2⟩
  go_wp2_with (fail)
  go_ret2
  have ap := ap.out
  have kk := hkH.out
  refine ⟨rfl, ⟨r, p0, b0, p1, b1, ⟨kk.blk.only o2 (by omega), k2, kk.l0.only o2 (by omega) (by omega), kk.l1.only o2 (by omega) (by omega), kk.ne0, kk.ne1⟩, hb⟩, o2.mono (fun j _ e => ?_)⟩
  subst e
  exact ⟨hb.2.1.1, hb.2.1.2, ct.out.2.1⟩
theorem chead (k : HcAt w c lo hi h) : Calls Try.prog 36 #[.pointer (some ⟨c, 0, none⟩)] w fun e w' => e = .returned (.tuple #[.int .i64 (rHead h.V), .bool (rHas h.V)]) ∧ HcAt w' c lo hi h ∧ Only (fun _ => False) w w' := by
  have hkH := hid k
  obtain ⟨r, p0, b0, p1, b1, k, hb⟩ := k
  have hR := ring__at k
  have hP := rfront_any k.ring
  clear k
  go_enter Try.func36, Try.ntmps36
  go_wp2_with (fail)
  refine hR.mono ?_
  rintro e w1 ⟨rfl, hw⟩
  obtain rfl : w = w1 := hw.symm
  go_wp2_with (fail)
  refine hP.mono ?_
  rintro e w2 ⟨rfl, k2, o2⟩
  go_wp2_with (fail)
  go_ret2
  exact ⟨rfl, hkH.out.far o2 (fun _ _ _ _ => id), o2⟩
theorem clen (k : HcAt w c lo hi h) : Calls Try.prog 37 #[.pointer (some ⟨c, 0, none⟩)] w fun e w' => e = .returned (.int .i64 (h.V.length : Int)) ∧ HcAt w' c lo hi h ∧ Only (fun _ => False) w w' := by
  have hkH := hid k
  obtain ⟨r, p0, b0, p1, b1, k, hb⟩ := k
  have hR := ring__at k
  have hP := RingCode.len_at k.ring
  clear k
  go_enter Try.func37, Try.ntmps37
  go_wp2_with (fail)
  refine hR.mono ?_
  rintro e w1 ⟨rfl, hw⟩
  obtain rfl : w = w1 := hw.symm
  go_wp2_with (fail)
  refine hP.mono ?_
  rintro e w2 ⟨rfl, hw⟩
  obtain rfl : w = w2 := hw.symm
  go_wp2_with (fail)
  go_ret
  exact ⟨rfl, hkH.out, Only.refl _ _⟩
theorem ccap (k : HcAt w c lo hi h) : Calls Try.prog 25 #[.pointer (some ⟨c, 0, none⟩)] w fun e w' => e = .returned (.int .i64 (h.most : Int)) ∧ HcAt w' c lo hi h ∧ Only (fun _ => False) w w' := by
  have hkH := hid k
  obtain ⟨r, p0, b0, p1, b1, k, hb⟩ := k
  have hR := ring__at k
  have hP := RingCode.cap_at k.ring
  clear k
  go_enter Try.func25, Try.ntmps25
  go_wp2_with (fail)
  refine hR.mono ?_
  rintro e w1 ⟨rfl, hw⟩
  obtain rfl : w = w1 := hw.symm
  go_wp2_with (fail)
  refine hP.mono ?_
  rintro e w2 ⟨rfl, hw⟩
  obtain rfl : w = w2 := hw.symm
  go_wp2_with (fail)
  go_ret
  exact ⟨rfl, hkH.out, Only.refl _ _⟩
theorem cenq (k : HcAt w c lo hi h) (s : Bool) {i : Int} (hwf : (Lit.int .i64 i).wf = true) : Calls Try.prog 9 #[.pointer (some ⟨c, 0, none⟩), .bool s, .int .i64 i] w fun e w' => e = .returned (.int .i64 (ListCode.putC (h.q s) i)) ∧ HcAt w' c lo hi (h.setq s (ListCode.putL (h.q s) i)) ∧ Only (KIn w lo hi) w w' := by
  obtain ⟨r, p0, b0, p1, b1, k, hb⟩ := k
  have hO := of_at k s
  have hkH := hid k
  have ap := hid k.ap
  have ct := hid k.cty
  have lt := hid k.lt
  clear k
  cases s with
  | false =>
    simp only [Hc.q, Hc.setq, Bool.false_eq_true, if_false] at hO ⊢
    go_enter Try.func9, Try.ntmps9
    go_wp2_with (fail)
    refine hO.mono ?_
    rintro e w1 ⟨rfl, hB1⟩
    have k1 := hkH.out.only (Only.none_of_below hB1) ⟨id, id, id, id, id, id⟩
    have hP := ListCode.put_at k1.l0 i
    have k1H := hid k1
    clear k1
    go_wp2_with (fail)
    refine hP.mono ?_
    rintro e w2 ⟨rfl, k2, o2⟩
    go_wp2_with (fail)
    go_ret
    have ap := ap.out
    have kk := k1H.out
    have lt := lt.out
    have n0 := kk.ne0
    have n1 := kk.ne1
    have n2 := kk.l0.ne
    have n3 := kk.l1.ne
    refine ⟨rfl, ⟨r, p0, b0, p1, b1, ⟨kk.blk.only o2 (by omega), kk.ring.only o2 (by omega), k2, kk.l1.only o2 (by omega) (by omega), n0, n1⟩, hb⟩, (Only.none_of_below hB1 |>.mono (fun _ _ h => h.elim)).trans' (o2.mono (T := KIn w lo hi) (fun j _ e => ?_)) (fun _ _ h => h)⟩
    rcases e with rfl | rfl
    · exact ⟨hb.2.2.1.1, hb.2.2.1.2, ct.out.2.2.1⟩
    · exact ⟨hb.2.2.2.1.1, hb.2.2.2.1.2, ct.out.2.2.2.1⟩
  | true =>
    simp only [Hc.q, Hc.setq, if_true] at hO ⊢
    go_enter Try.func9, Try.ntmps9
    go_wp2_with (fail)
    refine hO.mono ?_
    rintro e w1 ⟨rfl, hB1⟩
    have k1 := hkH.out.only (Only.none_of_below hB1) ⟨id, id, id, id, id, id⟩
    have hP := ListCode.put_at k1.l1 i
    have k1H := hid k1
    clear k1
    go_wp2_with (fail)
    refine hP.mono ?_
    rintro e w2 ⟨rfl, k2, o2⟩
    go_wp2_with (fail)
    go_ret
    have ap := ap.out
    have kk := k1H.out
    have lt := lt.out
    have n0 := kk.ne0
    have n1 := kk.ne1
    have n2 := kk.l0.ne
    have n3 := kk.l1.ne
    refine ⟨rfl, ⟨r, p0, b0, p1, b1, ⟨kk.blk.only o2 (by omega), kk.ring.only o2 (by omega), kk.l0.only o2 (by omega) (by omega), k2, n0, n1⟩, hb⟩, (Only.none_of_below hB1 |>.mono (fun _ _ h => h.elim)).trans' (o2.mono (T := KIn w lo hi) (fun j _ e => ?_)) (fun _ _ h => h)⟩
    rcases e with rfl | rfl
    · exact ⟨hb.2.2.2.2.1.1, hb.2.2.2.2.1.2, ct.out.2.2.2.2.1⟩
    · exact ⟨hb.2.2.2.2.2.1, hb.2.2.2.2.2.2, ct.out.2.2.2.2.2⟩
theorem cdeq (k : HcAt w c lo hi h) (s : Bool) {i : Int} (hwf : (Lit.int .i64 i).wf = true) : Calls Try.prog 10 #[.pointer (some ⟨c, 0, none⟩), .bool s, .int .i64 i] w fun e w' => e = .returned (.int .i64 (ListCode.dropC (h.q s) i)) ∧ HcAt w' c lo hi (h.setq s ((h.q s).erase i)) ∧ Only (KIn w lo hi) w w' := by
  obtain ⟨r, p0, b0, p1, b1, k, hb⟩ := k
  have hO := of_at k s
  have hkH := hid k
  have ap := hid k.ap
  have ct := hid k.cty
  have lt := hid k.lt
  clear k
  cases s with
  | false =>
    simp only [Hc.q, Hc.setq, Bool.false_eq_true, if_false] at hO ⊢
    go_enter Try.func10, Try.ntmps10
    go_wp2_with (fail)
    refine hO.mono ?_
    rintro e w1 ⟨rfl, hB1⟩
    have k1 := hkH.out.only (Only.none_of_below hB1) ⟨id, id, id, id, id, id⟩
    have hP := ListCode.drop_at k1.l0 hwf
    have k1H := hid k1
    clear k1
    go_wp2_with (fail)
    refine hP.mono ?_
    rintro e w2 ⟨rfl, k2, o2⟩
    go_wp2_with (fail)
    go_ret
    have ap := ap.out
    have kk := k1H.out
    have lt := lt.out
    have n0 := kk.ne0
    have n1 := kk.ne1
    have n2 := kk.l0.ne
    have n3 := kk.l1.ne
    refine ⟨rfl, ⟨r, p0, b0, p1, b1, ⟨kk.blk.only o2 (by omega), kk.ring.only o2 (by omega), k2, kk.l1.only o2 (by omega) (by omega), n0, n1⟩, hb⟩, (Only.none_of_below hB1 |>.mono (fun _ _ h => h.elim)).trans' (o2.mono (T := KIn w lo hi) (fun j _ e => ?_)) (fun _ _ h => h)⟩
    rcases e with rfl | rfl
    · exact ⟨hb.2.2.1.1, hb.2.2.1.2, ct.out.2.2.1⟩
    · exact ⟨hb.2.2.2.1.1, hb.2.2.2.1.2, ct.out.2.2.2.1⟩
  | true =>
    simp only [Hc.q, Hc.setq, if_true] at hO ⊢
    go_enter Try.func10, Try.ntmps10
    go_wp2_with (fail)
    refine hO.mono ?_
    rintro e w1 ⟨rfl, hB1⟩
    have k1 := hkH.out.only (Only.none_of_below hB1) ⟨id, id, id, id, id, id⟩
    have hP := ListCode.drop_at k1.l1 hwf
    have k1H := hid k1
    clear k1
    go_wp2_with (fail)
    refine hP.mono ?_
    rintro e w2 ⟨rfl, k2, o2⟩
    go_wp2_with (fail)
    go_ret
    have ap := ap.out
    have kk := k1H.out
    have lt := lt.out
    have n0 := kk.ne0
    have n1 := kk.ne1
    have n2 := kk.l0.ne
    have n3 := kk.l1.ne
    refine ⟨rfl, ⟨r, p0, b0, p1, b1, ⟨kk.blk.only o2 (by omega), kk.ring.only o2 (by omega), kk.l0.only o2 (by omega) (by omega), k2, n0, n1⟩, hb⟩, (Only.none_of_below hB1 |>.mono (fun _ _ h => h.elim)).trans' (o2.mono (T := KIn w lo hi) (fun j _ e => ?_)) (fun _ _ h => h)⟩
    rcases e with rfl | rfl
    · exact ⟨hb.2.2.2.2.1.1, hb.2.2.2.2.1.2, ct.out.2.2.2.2.1⟩
    · exact ⟨hb.2.2.2.2.2.1, hb.2.2.2.2.2.2, ct.out.2.2.2.2.2⟩
theorem lfront_any {w : World} {p b : Nat} {L : List Int} (h : ListCode.LsAt w p b L) : Calls Try.prog 50 #[.pointer (some ⟨p, 0, none⟩)] w fun e w' => e = .returned (.tuple #[.int .i64 (rHead L), .bool (rHas L)]) ∧ Below w.heap.size w w' := by
  cases L with
  | nil =>
    refine (ListCode.front_none h).mono ?_
    rintro e w' ⟨rfl, rfl⟩
    exact ⟨rfl, Below.refl _ _⟩
  | cons x t =>
    refine (ListCode.front_at h).mono ?_
    rintro e w' ⟨rfl, rfl⟩
    exact ⟨rfl, Below.refl _ _⟩
def mem (L : List Int) (i : Int) : Bool := decide (i ∈ L)
theorem cfront (k : HcAt w c lo hi h) (s : Bool) : Calls Try.prog 24 #[.pointer (some ⟨c, 0, none⟩), .bool s] w fun e w' => e = .returned (.tuple #[.int .i64 (rHead (h.q s)), .bool (rHas (h.q s))]) ∧ Below w.heap.size w w' := by
  obtain ⟨r, p0, b0, p1, b1, k, hb⟩ := k
  have hO := of_at k s
  have hk1 : ∀ w1, Below w.heap.size w w1 → ∃ b, ListCode.LsAt w1 (if s then p1 else p0) b (h.q s) := fun w1 hB1 => by
    have k1 := k.only (Only.none_of_below hB1) ⟨id, id, id, id, id, id⟩
    cases s with
    | true => exact ⟨b1, k1.l1⟩
    | false => exact ⟨b0, k1.l0⟩
  have hkH := hid hk1
  clear k hk1
  generalize (if s then p1 else p0) = pq at *
  generalize h.q s = L at *
  go_enter Try.func24, Try.ntmps24
  go_wp2_with (fail)
  refine hO.mono ?_
  rintro e w1 ⟨rfl, hB1⟩
  obtain ⟨b, k1⟩ := hkH.out w1 hB1
  have hP := lfront_any k1
  clear k1
  go_wp2_with (fail)
  refine hP.mono ?_
  rintro e w2 ⟨rfl, hB2⟩
  go_wp2_with (fail)
  go_ret2
  exact ⟨rfl, hB1.trans (hB2.mono hB1.size)⟩
theorem chas (k : HcAt w c lo hi h) (s : Bool) {i : Int} (hwf : (Lit.int .i64 i).wf = true) : Calls Try.prog 8 #[.pointer (some ⟨c, 0, none⟩), .bool s, .int .i64 i] w fun e w' => e = .returned (.bool (mem (h.q s) i)) ∧ Below w.heap.size w w' := by
  obtain ⟨r, p0, b0, p1, b1, k, hb⟩ := k
  have hO := of_at k s
  have hk1 : ∀ w1, Below w.heap.size w w1 → ∃ b, ListCode.LsAt w1 (if s then p1 else p0) b (h.q s) := fun w1 hB1 => by
    have k1 := k.only (Only.none_of_below hB1) ⟨id, id, id, id, id, id⟩
    cases s with
    | true => exact ⟨b1, k1.l1⟩
    | false => exact ⟨b0, k1.l0⟩
  have hkH := hid hk1
  clear k hk1
  generalize (if s then p1 else p0) = pq at *
  generalize h.q s = L at *
  go_enter Try.func8, Try.ntmps8
  go_wp2_with (fail)
  refine hO.mono ?_
  rintro e w1 ⟨rfl, hB1⟩
  obtain ⟨b, k1⟩ := hkH.out w1 hB1
  have hP := ListCode.has_at k1 hwf
  clear k1
  go_wp2_with (fail)
  refine hP.mono ?_
  rintro e w2 ⟨rfl, hB2⟩
  go_wp2_with (fail)
  go_ret
  exact ⟨rfl, hB1.trans (hB2.mono hB1.size)⟩
theorem crow (k : HcAt w c lo hi h) (s : Bool) : Calls Try.prog 12 #[.pointer (some ⟨c, 0, none⟩), .bool s] w fun e w' => ∃ A c, e = .returned (.slice A (h.q s).length c) ∧ Nums w' .i64 A (h.q s) ∧ Below w.heap.size w w' ∧ ∀ x, A = some x → w.heap.size ≤ x.block ∧ x.block < w'.heap.size := by
  obtain ⟨r, p0, b0, p1, b1, k, hb⟩ := k
  have hO := of_at k s
  have hk1 : ∀ w1, Below w.heap.size w w1 → ∃ b, ListCode.LsAt w1 (if s then p1 else p0) b (h.q s) := fun w1 hB1 => by
    have k1 := k.only (Only.none_of_below hB1) ⟨id, id, id, id, id, id⟩
    cases s with
    | true => exact ⟨b1, k1.l1⟩
    | false => exact ⟨b0, k1.l0⟩
  have hkH := hid hk1
  clear k hk1
  generalize (if s then p1 else p0) = pq at *
  generalize h.q s = L at *
  go_enter Try.func12, Try.ntmps12
  go_wp2_with (fail)
  refine hO.mono ?_
  rintro e w1 ⟨rfl, hB1⟩
  obtain ⟨b, k1⟩ := hkH.out w1 hB1
  have hP := ListCode.all_nums k1
  clear k1
  go_wp2_with (fail)
  refine hP.mono ?_
  rintro e w2 ⟨A, cc, rfl, hN, hB2, hA⟩
  go_wp2_with (fail)
  go_ret
  exact ⟨A, cc, rfl, hN, hB1.trans (hB2.mono hB1.size), fun x hx => ⟨Nat.le_trans hB1.size (hA x hx).1, (hA x hx).2⟩⟩
theorem cbuffer (k : HcAt w c lo hi h) : Calls Try.prog 16 #[.pointer (some ⟨c, 0, none⟩)] w fun e w' => ∃ A cc, e = .returned (.slice A h.V.length cc) ∧ Nums w' .i64 A h.V ∧ Below w.heap.size w w' ∧ ∀ x, A = some x → w.heap.size ≤ x.block ∧ x.block < w'.heap.size := by
  obtain ⟨r, p0, b0, p1, b1, k, hb⟩ := k
  have hP := RingCode.list_at k.ring
  have c0 := k.blk.cell 0
  simp only [List.getElem?_cons_zero] at c0
  clear k
  generalize h.V = V at *
  go_enter Try.func16, Try.ntmps16
  go_wp2_with (fail)
  refine hP.mono ?_
  rintro e w2 ⟨v, rfl, hrow, hB⟩
  obtain ⟨A, cc, rfl⟩ := own_form hrow
  go_wp2_with (fail)
  go_ret
  refine ⟨A, cc, rfl, own_nums hrow, hB, fun x hx => ?_⟩
  rcases own_cases hrow with ⟨rfl, _⟩ | ⟨g, rfl, h1, h2, _⟩
  · cases hx
  · cases hx; exact ⟨h1, h2⟩
theorem cclosed (k : HcAt w c lo hi h) : Calls Try.prog 13 #[.pointer (some ⟨c, 0, none⟩)] w fun e w' => e = .returned (.bool h.shut) ∧ w' = w := by
  obtain ⟨r, p0, b0, p1, b1, k, hb⟩ := k
  have c3 := k.blk.cell 3
  simp only [List.getElem?_cons_zero, List.getElem?_cons_succ] at c3
  clear k
  generalize h.shut = s at *
  go_enter Try.func13, Try.ntmps13
  go_wp2
  go_ret
  exact ⟨rfl, rfl⟩
def shutC (h : Hc) : Int := if h.shut then 9 else 0
theorem cshut (k : HcAt w c lo hi h) : Calls Try.prog 21 #[.pointer (some ⟨c, 0, none⟩)] w fun e w' => e = .returned (.int .i64 (shutC h)) ∧ HcAt w' c lo hi { h with shut := true } ∧ Only (KIn w lo hi) w w' := by
  have hkH := hid k
  obtain ⟨r, p0, b0, p1, b1, k, hb⟩ := k
  have c3 := k.blk.cell 3
  have hz := k.blk.frozen
  have hl := k.lt.1
  simp only [List.getElem?_cons_zero, List.getElem?_cons_succ] at c3
  have kH := hid k
  unfold shutC
  cases hs : h.shut with
  | true =>
    rw [hs] at c3
    have e : ({ h with shut := true } : Hc) = h := by cases h; simp at hs; simp [hs]
    rw [e]
    simp only [if_true]
    clear k e hs
    go_enter Try.func21, Try.ntmps21
    go_wp2
    go_ret
    exact ⟨rfl, hkH.out, Only.refl _ _⟩
  | false =>
    rw [hs] at c3
    simp only [Bool.false_eq_true, if_false]
    clear k hs
    go_enter Try.func21, Try.ntmps21
    go_wp2
    go_ret
    have kk := kH.out
    have ap := kk.ap
    have o := setC w c 3 (.bool true)
    refine ⟨rfl, ⟨r, p0, b0, p1, b1, ⟨kk.blk.set 3 _, kk.ring.only o (by omega), kk.l0.only o (by omega) (by omega), kk.l1.only o (by omega) (by omega), kk.ne0, kk.ne1⟩, hb⟩, o.mono (fun j _ e => ?_)⟩
    subst e
    exact ⟨hb.1.1, hb.1.2, kk.cty.1⟩
end
end Go.Proofs.Ytmhnfcodppfaiac.HchanCode
