
/- The pool, and the document's pool: the same answers, over one plain state. -/
import Derived.Test.YtmhnfcodppfaiaaRefPool3
namespace Go.Proofs.Ytmhnfcodppfaiaa.PoolBoth
open Go Go.RowKit Go.Proofs.Ytmhnfcodppfaiaa.Obj Go.Proofs.Ytmhnfcodppfaiaa.Row Go.Proofs.YtmhnfcodppfaiaaW.PrintWords Go.Proofs.YtmhnfcodppfaiaaW.PrintMore
open Go.Proofs.Ytmhnfcodppfaiaa.PoolCode (Sg Sg.cells Sg.val Sg.zero PoolS PoolAt Sound Slot isAt Else)
open Go.Proofs.Ytmhnfcodppfaiaa.RefPool (RS RAt SRow isR tk none_ upTo)
set_option maxRecDepth 100000
set_option linter.unusedVariables false
def toR (y : Slot) : RS := ⟨y.is, y.x⟩
def ints (ch : List Nat) : List Int := ch.map (fun n : Nat => (n : Int))
/-- A pool in memory, told by what its slots have. -/
def PS (W : World) (p qp : Nat) (lr : List RS) (ch : List Nat) : Prop := ∃ cp pad l, PoolS W p qp cp pad l ch ∧ l.map toR = lr
def takeL (lr : List RS) (ch : List Nat) (x : Sg) : List RS := match ch with | [] => lr | i :: _ => lr.set i ⟨true, x⟩
def takeV (ch : List Nat) : Int := match ch with | [] => 0 | i :: _ => (i : Int)
def takeE (ch : List Nat) : Int := match ch with | [] => 4 | _ :: _ => 0
def giveOK (lr : List RS) (k : Int) : Bool := decide (0 ≤ k) && isR lr k.toNat
def giveL (lr : List RS) (k : Int) : List RS := if giveOK lr k then lr.set k.toNat ⟨false, Sg.zero⟩ else lr
def giveC (lr : List RS) (ch : List Nat) (k : Int) : List Nat := if giveOK lr k then k.toNat :: ch else ch
def giveE (lr : List RS) (k : Int) : Int := if giveOK lr k then 0 else 3
def ofV (lr : List RS) (k : Int) : RS := if 0 ≤ k then (lr[k.toNat]?).getD ⟨false, Sg.zero⟩ else ⟨false, Sg.zero⟩
section
variable {W W' : World} {p qp q B : Nat} {lr : List RS} {ch : List Nat}
theorem takeL_len (x : Sg) : (takeL lr ch x).length = lr.length := by unfold takeL; split <;> simp
theorem giveL_len (k : Int) : (giveL lr k).length = lr.length := by unfold giveL; split <;> simp
theorem PS.lt (h : PS W p qp lr ch) : p < W.heap.size ∧ qp < W.heap.size := by
  obtain ⟨cp, pad, l, ⟨f, n, h1, _⟩, _⟩ := h; exact ⟨h1.lp, h1.lq⟩
theorem PS.kept (h : PS W p qp lr ch) (hp : W'.heap[p]? = W.heap[p]?) (hq : W'.heap[qp]? = W.heap[qp]?) : PS W' p qp lr ch := by
  obtain ⟨cp, pad, l, h1, h2⟩ := h; exact ⟨cp, pad, l, h1.more hp hq, h2⟩
theorem PS.below (h : PS W p qp lr ch) (hb : Below W.heap.size W W') : PS W' p qp lr ch := h.kept (hb.block _ h.lt.1) (hb.block _ h.lt.2)
theorem PS.only {S : Nat → Prop} (h : PS W p qp lr ch) (o : Only S W W') (h1 : ¬ S p) (h2 : ¬ S qp) : PS W' p qp lr ch := h.kept (o.block _ h.lt.1 h1) (o.block _ h.lt.2 h2)
theorem else_only (h : Else p qp W W') : Only (fun j => j = p ∨ j = qp) W W' := ⟨h.os, h.tape, h.output, h.size, fun k hk hn => h.block k hk (fun e => hn (.inl e)) (fun e => hn (.inr e))⟩
theorem isR_map (l : List Slot) (k : Nat) : isR (l.map toR) k = isAt l k := by
  unfold isR isAt
  rw [List.getElem?_map]
  cases l[k]? <;> rfl
theorem tk_map (l : List Slot) (k : Nat) : tk (l.map toR) k = PoolCode.tk l k := by
  unfold tk PoolCode.tk
  rw [show isR (l.map toR) = isAt l from funext (isR_map l)]
theorem PS.count (h : PS W p qp lr ch) : (tk lr lr.length).length + ch.length = lr.length := by
  obtain ⟨cp, pad, l, ⟨f, n, _, h1⟩, rfl⟩ := h
  rw [tk_map, List.length_map]
  exact PoolCode.count_taken h1
theorem PS.head {i : Nat} {r : List Nat} (h : PS W p qp lr (i :: r)) : i < lr.length := by
  obtain ⟨cp, pad, l, ⟨f, n, _, h1⟩, rfl⟩ := h
  rw [List.length_map]
  exact h1.chain.lt i (List.mem_cons_self ..)
/-- The two are apart: their blocks' types. -/
theorem apart {cr : List Int} (h : PS W p qp lr ch) {lr' : List RS} (k : RAt W B q lr' cr) : p ≠ q ∧ qp ≠ q ∧ ∀ v u, SRow W B v lr' → W.ownsRow B 3 1 u cr.length (nums .i64 cr) → (v.ownBlock ≠ some p ∧ v.ownBlock ≠ some qp) ∧ u.ownBlock ≠ some p ∧ u.ownBlock ≠ some qp := by
  obtain ⟨cp, pad, l, ⟨f, n, h1, _⟩, _⟩ := h
  obtain ⟨v, u, h3, _⟩ := k
  have h3' : W.heap[q]? = some (.cells _ 60 (0, 0)) := h3
  have hp := h1.head
  obtain ⟨C, hq, _⟩ := h1.slots
  refine ⟨fun e => ?_, fun e => ?_, fun v u hv hu => ⟨⟨fun e => ?_, fun e => ?_⟩, fun e => ?_, fun e => ?_⟩⟩
  · rw [e, h3'] at hp; simp at hp
  · rw [e, h3'] at hq; simp at hq
  · obtain ⟨c, hc⟩ := RefPool.own_typed hv e; rw [hp] at hc; simp at hc
  · obtain ⟨c, hc⟩ := RefPool.own_typed hv e; rw [hq] at hc; simp at hc
  · obtain ⟨c, hc⟩ := RefPool.own_typed hu e; rw [hp] at hc; simp at hc
  · obtain ⟨c, hc⟩ := RefPool.own_typed hu e; rw [hq] at hc; simp at hc
theorem ref_kept {cr : List Int} {lr' : List RS} (h : PS W p qp lr ch) (k : RAt W B q lr' cr) (o : Only (fun j => j = p ∨ j = qp) W W') : RAt W' B q lr' cr := by
  have ha := apart h k
  obtain ⟨v, u, h1, h2, h3, h4, h5, h6⟩ := k
  obtain ⟨⟨a1, a2⟩, a3, a4⟩ := ha.2.2 v u h2 h3
  refine ⟨v, u, h1.only o (by have := ha.1; have := ha.2.1; omega), own_only h2 o (fun j hj e => ?_), own_only h3 o (fun j hj e => ?_), h4, h5, h6⟩
  · rcases e with rfl | rfl
    · exact a1 hj
    · exact a2 hj
  · rcases e with rfl | rfl
    · exact a3 hj
    · exact a4 hj
theorem pool_kept {cr : List Int} {lr' : List RS} (h : PS W p qp lr ch) (k : RAt W B q lr' cr) (o : Only (· = q) W W') : PS W' p qp lr ch := h.only o (apart h k).1 (apart h k).2.1
theorem map_set (l : List Slot) (i : Nat) (y : Slot) : (l.set i y).map toR = (l.map toR).set i (toR y) := List.map_set
theorem takeP (h : PS W p qp lr ch) (hl : lr.length ≤ 1024) (x : Sg) : Calls Try.prog 8 #[.pointer (some ⟨p, 0, none⟩), x.val] W fun e w' => e = .returned (.tuple #[.int .i64 (takeV ch), .int .i64 (takeE ch)]) ∧ PS w' p qp (takeL lr ch x) ch.tail ∧ Only (fun j => j = p ∨ j = qp) W w' := by
  obtain ⟨cp, pad, l, h1, rfl⟩ := h
  rw [List.length_map] at hl
  cases ch with
  | nil =>
    refine (PoolCode.full_s h1 x).mono ?_
    rintro e w' ⟨rfl, h2, h3⟩
    exact ⟨rfl, ⟨cp, pad, l, h2, rfl⟩, else_only h3⟩
  | cons i r =>
    refine (PoolCode.take_s h1 hl x).mono ?_
    rintro e w' ⟨rfl, h2, h3⟩
    exact ⟨rfl, ⟨cp, pad, _, h2, map_set ..⟩, else_only h3⟩
theorem takeR (h : RAt W B q lr (ints ch)) (hl : lr.length ≤ 1024) (hc : ch.length ≤ 1024) (hi : ∀ i r, ch = i :: r → i < lr.length) (x : Sg) : Calls Try.prog 16 #[.pointer (some ⟨q, 0, none⟩), x.val] W fun e w' => e = .returned (.tuple #[.int .i64 (takeV ch), .int .i64 (takeE ch)]) ∧ RAt w' B q (takeL lr ch x) (ints ch.tail) ∧ Only (· = q) W w' := by
  obtain ⟨t, c, s, v, u⟩ := x
  cases ch with
  | nil =>
    refine (RefPool.take_none h t c v u s).mono ?_
    rintro e w' ⟨rfl, hb⟩
    exact ⟨rfl, h.below hb, (Only.none_of_below hb).mono (fun _ _ => False.elim)⟩
  | cons i r =>
    refine (RefPool.take_at (r := ints r) h hl (by simp only [List.length_cons] at hc; simp [ints]; omega) (hi i r rfl) t c v u s).mono ?_
    rintro e w' ⟨rfl, h2, h3⟩
    exact ⟨rfl, h2, h3⟩
theorem ok_out {k : Int} (hk : k < 0 ∨ k ≥ lr.length) : giveOK lr k = false := by
  unfold giveOK isR
  by_cases h0 : 0 ≤ k
  · rw [List.getElem?_eq_none (by omega)]; simp
  · simp [h0]
theorem ok_at {i : Nat} {y : RS} (hy : lr[i]? = some y) : giveOK lr (i : Int) = y.is := by
  unfold giveOK isR
  simp [hy]
theorem giveP (h : PS W p qp lr ch) (hl : lr.length ≤ 1024) (k : Int) : Calls Try.prog 10 #[.pointer (some ⟨p, 0, none⟩), .int .i64 k] W fun e w' => e = .returned (.int .i64 (giveE lr k)) ∧ PS w' p qp (giveL lr k) (giveC lr ch k) ∧ Only (fun j => j = p ∨ j = qp) W w' := by
  have h0 := h
  obtain ⟨cp, pad, l, h1, rfl⟩ := h
  rw [List.length_map] at hl
  by_cases hk : k < 0 ∨ k ≥ l.length
  · have hn := ok_out (lr := l.map toR) (k := k) (by rw [List.length_map]; exact hk)
    unfold giveE giveL giveC
    rw [hn]
    refine (PoolCode.give_out_s h1 k hk).mono ?_
    rintro e w' ⟨rfl, rfl⟩
    exact ⟨rfl, h0, Only.refl _ _⟩
  · obtain ⟨i, rfl⟩ : ∃ i : Nat, k = (i : Int) := ⟨k.toNat, by omega⟩
    obtain ⟨y, hy⟩ : ∃ y, l[i]? = some y := ⟨_, List.getElem?_eq_getElem (by omega)⟩
    have hn := ok_at (lr := l.map toR) (i := i) (y := toR y) (by rw [List.getElem?_map, hy]; rfl)
    unfold giveE giveL giveC
    rw [hn]
    cases hb : y.is with
    | false =>
      refine (PoolCode.give_not_s h1 hy hb).mono ?_
      rintro e w' ⟨rfl, rfl⟩
      simp only [toR, hb]
      exact ⟨rfl, h0, Only.refl _ _⟩
    | true =>
      refine (PoolCode.give_s h1 hl hy hb).mono ?_
      rintro e w' ⟨rfl, ⟨k', h2⟩, h3⟩
      simp only [toR, hb, if_true, Int.toNat_natCast]
      exact ⟨trivial, ⟨cp, pad, _, h2, map_set ..⟩, else_only h3⟩
theorem giveR (h : RAt W B q lr (ints ch)) (hl : lr.length ≤ 1024) (hc : ch.length ≤ 1024) (k : Int) : Calls Try.prog 17 #[.pointer (some ⟨q, 0, none⟩), .int .i64 k] W fun e w' => e = .returned (.int .i64 (giveE lr k)) ∧ RAt w' B q (giveL lr k) (ints (giveC lr ch k)) ∧ Only (· = q) W w' := by
  have none' : giveOK lr k = false → (k < 0 ∨ k ≥ lr.length ∨ ∃ (i : Nat) (y : RS), k = (i : Int) ∧ lr[i]? = some y ∧ y.is = false) → Calls Try.prog 17 #[.pointer (some ⟨q, 0, none⟩), .int .i64 k] W fun e w' => e = .returned (.int .i64 (giveE lr k)) ∧ RAt w' B q (giveL lr k) (ints (giveC lr ch k)) ∧ Only (· = q) W w' := by
    intro hn hk
    unfold giveE giveL giveC
    rw [hn]
    refine (RefPool.give_not h k hk).mono ?_
    rintro e w' ⟨rfl, hb⟩
    exact ⟨rfl, h.below hb, (Only.none_of_below hb).mono (fun _ _ => False.elim)⟩
  by_cases hk : k < 0 ∨ k ≥ lr.length
  · exact none' (ok_out hk) (by omega)
  · obtain ⟨i, rfl⟩ : ∃ i : Nat, k = (i : Int) := ⟨k.toNat, by omega⟩
    obtain ⟨y, hy⟩ : ∃ y, lr[i]? = some y := ⟨_, List.getElem?_eq_getElem (by omega)⟩
    have hn := ok_at hy
    cases hb : y.is with
    | false => exact none' (by rw [hn, hb]) (.inr (.inr ⟨i, y, rfl, hy, hb⟩))
    | true =>
      unfold giveE giveL giveC
      rw [hn, hb]
      refine (RefPool.give_at h hl (by simpa [ints] using hc) i y hy hb).mono ?_
      rintro e w' ⟨rfl, h2, h3⟩
      exact ⟨rfl, h2, h3⟩
theorem of_out' {k : Int} (hk : k < 0 ∨ k ≥ lr.length) : ofV lr k = ⟨false, Sg.zero⟩ := by
  unfold ofV
  split
  · rw [List.getElem?_eq_none (by omega)]; rfl
  · rfl
theorem of_at' {i : Nat} {y : RS} (hy : lr[i]? = some y) : ofV lr (i : Int) = y := by
  unfold ofV
  rw [if_pos (by omega), Int.toNat_natCast, hy]; rfl
theorem ofP (h : PS W p qp lr ch) (k : Int) : Calls Try.prog 11 #[.pointer (some ⟨p, 0, none⟩), .int .i64 k] W fun e w' => e = .returned (.tuple #[(ofV lr k).x.val, .bool (ofV lr k).is]) ∧ PS w' p qp lr ch ∧ Only (fun j => j = p ∨ j = qp) W w' := by
  obtain ⟨cp, pad, l, h1, rfl⟩ := h
  by_cases hk : k < 0 ∨ k ≥ l.length
  · rw [of_out' (by rw [List.length_map]; exact hk)]
    refine (PoolCode.of_out_s h1 k hk).mono ?_
    rintro e w' ⟨rfl, h2, h3⟩
    exact ⟨rfl, ⟨cp, pad, l, h2, rfl⟩, else_only h3⟩
  · obtain ⟨i, rfl⟩ : ∃ i : Nat, k = (i : Int) := ⟨k.toNat, by omega⟩
    obtain ⟨y, hy⟩ : ∃ y, l[i]? = some y := ⟨_, List.getElem?_eq_getElem (by omega)⟩
    rw [of_at' (y := toR y) (by rw [List.getElem?_map, hy]; rfl)]
    refine (PoolCode.of_s h1 hy).mono ?_
    rintro e w' ⟨rfl, h2, h3⟩
    exact ⟨rfl, ⟨cp, pad, l, h2, rfl⟩, else_only h3⟩
theorem ofR {cr : List Int} (h : RAt W B q lr cr) (k : Int) : Calls Try.prog 19 #[.pointer (some ⟨q, 0, none⟩), .int .i64 k] W fun e w' => e = .returned (.tuple #[(ofV lr k).x.val, .bool (ofV lr k).is]) ∧ Below W.heap.size W w' := by
  by_cases hk : k < 0 ∨ k ≥ lr.length
  · rw [of_out' hk]
    exact RefPool.of_out h k hk
  · obtain ⟨i, rfl⟩ : ∃ i : Nat, k = (i : Int) := ⟨k.toNat, by omega⟩
    obtain ⟨y, hy⟩ : ∃ y, lr[i]? = some y := ⟨_, List.getElem?_eq_getElem (by omega)⟩
    rw [of_at' hy]
    exact RefPool.of_at h i y hy
theorem lenP (h : PS W p qp lr ch) : Calls Try.prog 12 #[.pointer (some ⟨p, 0, none⟩)] W fun e w' => e = .returned (.int .i64 ((tk lr lr.length).length : Int)) ∧ w' = W := by
  have hc := h.count
  obtain ⟨cp, pad, l, h1, rfl⟩ := h
  have hx : ((tk (l.map toR) (l.map toR).length).length : Int) = (l.length : Int) - (ch.length : Int) := by
    rw [List.length_map] at hc ⊢; omega
  rw [hx]
  exact PoolCode.len_s h1
theorem freeP (h : PS W p qp lr ch) (hl : lr.length ≤ 1024) : Calls Try.prog 9 #[.pointer (some ⟨p, 0, none⟩)] W fun e w' => e = .returned (.int .i64 (ch.length : Int)) ∧ ∃ k, w' = W.drewN k := by
  obtain ⟨cp, pad, l, h1, rfl⟩ := h
  exact PoolCode.free_s h1 (by rw [List.length_map] at hl; exact hl)
theorem listP (h : PS W p qp lr ch) (hl : lr.length ≤ 1024) : Calls Try.prog 13 #[.pointer (some ⟨p, 0, none⟩)] W fun e W' => ∃ v, e = .returned v ∧ W'.ownsRow W.heap.size 3 1 v (tk lr lr.length).length (nums .i64 (tk lr lr.length)) ∧ Below W.heap.size W W' := by
  obtain ⟨cp, pad, l, ⟨f, n, h1, _⟩, rfl⟩ := h
  rw [tk_map, List.length_map]
  exact PoolCode.list_at h1 (by rw [List.length_map] at hl; exact hl)
theorem copyP (h : PS W p qp lr ch) (hl : lr.length ≤ 1024) (h1 : 1 ≤ lr.length) : Calls Try.prog 18 #[.pointer (some ⟨p, 0, none⟩)] W fun e w' => ∃ p' q', e = .returned (.pointer (some ⟨p', 0, none⟩)) ∧ PS w' p' q' lr ch ∧ Below W.heap.size W w' ∧ W.heap.size ≤ p' ∧ W.heap.size ≤ q' := by
  obtain ⟨cp, pad, l, ⟨f, n, h2, h3⟩, rfl⟩ := h
  rw [List.length_map] at hl h1
  refine (PoolCode.copy_at h2 hl h1).mono ?_
  rintro e w' ⟨p', q', cp', pad', rfl, h4, h5, h6, h7⟩
  exact ⟨p', q', rfl, ⟨cp', pad', l, ⟨f, n, h4, h3⟩, rfl⟩, h5, h6, h7⟩
theorem mk_map (n : Nat) : ((PoolCode.mk n).set (n - 1) ⟨false, Sg.zero, -1⟩).map toR = none_ n := by
  refine List.ext_getElem? (fun j => ?_)
  rw [map_set]
  by_cases hj : j < n
  · have hm : ((PoolCode.mk n).map toR)[j]? = some ⟨false, Sg.zero⟩ := by rw [List.getElem?_map, PoolCode.mk_at n j hj]; rfl
    have hr : (none_ n)[j]? = some ⟨false, Sg.zero⟩ := by rw [none_, List.getElem?_replicate, if_pos hj]
    rw [hr]
    by_cases e : n - 1 = j
    · subst e
      rw [List.getElem?_set_self (by rw [List.length_map, PoolCode.mk_len]; omega)]; rfl
    · rw [List.getElem?_set_ne e, hm]
  · rw [List.getElem?_eq_none (by rw [List.length_set, List.length_map, PoolCode.mk_len]; omega), List.getElem?_eq_none (by simp [none_]; omega)]
theorem newP (n : Nat) (h1 : 1 ≤ n) (h2 : n ≤ 1024) (w : World) : Calls Try.prog 7 #[.int .i64 (n : Int)] w fun e w' => e = .returned (.tuple #[.pointer (some ⟨w.heap.size,0,none⟩), .int .i64 0]) ∧
    Below w.heap.size w w' ∧ ∃ q, w.heap.size < q ∧ PS w' w.heap.size q (none_ n) (List.range n) := by
  refine (PoolCode.new_s n h1 h2 w).mono ?_
  rintro e w' ⟨rfl, hb, q, cp, pad, hq, hP⟩
  rw [← List.range_eq_range'] at hP
  exact ⟨rfl, hb, q, hq, cp, pad, _, hP, mk_map n⟩
end
end Go.Proofs.Ytmhnfcodppfaiaa.PoolBoth
