
/- The law GuardApart: what holds from round to round. -/
import Derived.Test.YtabcodjalacdjabGuardApart
import Derived.Test.YtabcodjalacdjabGuardNone
namespace Go.Proofs.Ytabcodjalacdjab.GuardCode
open Go Go.RowKit Go.Proofs.Ytabcodjalacdjab.Obj Go.Proofs.Ytabcodjalacdjab.Row Go.Proofs.Ytabcodjalacdjab.CellCode Go.Proofs.Ytabcodjalacdjab.TicketCode Go.Proofs.Ytabcodjalacdjab.GuardLocks Go.Proofs.YtabcodjalacdjabW.PrintWords Go.Proofs.YtabcodjalacdjabW.PrintMore
set_option linter.unusedVariables false
set_option maxRecDepth 100000
/-- The guards' states, the done ones, as functions. -/
def sf (ss : List Gs) : Nat → Gs := fun j => ss.getD j default
def df (dn : List Bool) : Nat → Bool := fun j => dn.getD j false
theorem sf_set {ss : List Gs} {i : Nat} (hi : i < ss.length) (s : Gs) : sf (ss.set i s) = upd (sf ss) i s := by
  funext j
  unfold sf upd
  rw [List.getD_eq_getElem?_getD]
  by_cases e : j = i
  · subst e; rw [if_pos rfl, List.getElem?_set_self hi]; rfl
  · rw [if_neg e, List.getElem?_set_ne (Ne.symm e), ← List.getD_eq_getElem?_getD]
theorem df_set {dn : List Bool} {i : Nat} (hi : i < dn.length) (b : Bool) : df (dn.set i b) = upd (df dn) i b := by
  funext j
  unfold df upd
  rw [List.getD_eq_getElem?_getD]
  by_cases e : j = i
  · subst e; rw [if_pos rfl, List.getElem?_set_self hi]; rfl
  · rw [if_neg e, List.getElem?_set_ne (Ne.symm e), ← List.getD_eq_getElem?_getD]
structure RS (w0 w' : World) (B D len len' : Nat) (zs : List Int) (A : Option Addr) (ps : List Nat) (n stp : Nat) (ss : List Gs) (L : List Nat) (N : Nat) (dn : List Bool) (Q : Nat → List Nat) : Prop where
  many : Many w' (B + 2) (B + 1) B ps ss L N
  psl : PSl w' A ps
  dnb : Blk w' D 4 (bools dn)
  dnl : dn.length = len
  ssl : ss.length = len
  inv : Inv len (wants zs) (sf ss) L (df dn) Q
  few : N ≤ n
  rd : len' ≤ n → Rd len (wants zs) (sf ss) L (df dn) n (n - len')
  first : n = 0 → ∀ j, df dn j = false
  some : 0 < n → 0 < stp
  le : stp ≤ n
  below : Below B w0 w'
  lo : ∀ p, p ∈ ps → B ≤ p
  loD : B ≤ D
  bs : B ≤ w'.heap.size
section
variable {w w' w0 : World} {x c lb : Nat} {B D len len' n stp N i : Nat} {zs : List Int} {A : Option Addr} {ps : List Nat} {ss : List Gs} {L : List Nat} {dn : List Bool} {Q : Nat → List Nat}
theorem small (hs : Sm L N) (hN : N < 65536) : ∀ y ∈ L, y < 65536 := fun y hy => by have := hs.2 y hy; omega
/-- A round in which nothing is done. -/
theorem RS.skip (h : RS w0 w B D len len' zs A ps n stp ss L N dn Q) (hn : n < 60000) (hlen : 0 < len) (hd : df dn i = true) (hi : len' ≤ n → i = n % len) : RS w0 w B D len len' zs A ps (n + 1) stp ss L N dn Q := by
  have hn0 : 0 < n := by
    rcases Nat.eq_zero_or_pos n with h0 | h0
    · rw [h.first h0 i] at hd; cases hd
    · exact h0
  refine ⟨h.many, h.psl, h.dnb, h.dnl, h.ssl, h.inv, by have := h.few; omega, fun hl => ?_, fun e => by omega, fun _ => h.some hn0, by have := h.le; omega, h.below, h.lo, h.loD, h.bs⟩
  rcases Nat.lt_or_ge n len' with h1 | h1
  · rw [show n + 1 - len' = 0 by omega]
    exact rd_begin h.inv (small h.many.sm (by have := h.few; omega)) hlen _
  · rw [show n + 1 - len' = n - len' + 1 by omega]
    exact rd_skip (h.rd h1) hlen (.inl (by rw [← hi h1]; exact hd))
/-- A round in which one guard is visited. -/
theorem RS.visit {L' : List Nat} {N' : Nat} {s' : Gs} {b : Bool} (h : RS w0 w B D len len' zs A ps n stp ss L N dn Q) (hn : n < 60000) (hlen : 0 < len) (hil : i < len) (hd : df dn i = false) (hi : len' ≤ n → i = n % len)
    (hv : GuardCode.visit (sf ss i) L = ⟨s', L', b⟩) (hN' : N' ≤ N + 1) (hM : Many w' (B + 2) (B + 1) B ps (ss.set i s') L' N') (hP : PSl w' A ps) (hB : Blk w' D 4 (bools (dn.set i b))) (hb : Below B w0 w') (hbs : B ≤ w'.heap.size) :
    ∃ Q', RS w0 w' B D len len' zs A ps (n + 1) (stp + 1) (ss.set i s') L' N' (dn.set i b) Q' := by
  have hfew := h.few
  have hs := small h.many.sm (by omega)
  have hs' := small hM.sm (by omega)
  obtain ⟨Q', h1, h2, h3⟩ := visit_round h.inv hil hd hs (by rw [hv]; exact hs')
  rw [hv] at h1 h2 h3
  rw [← sf_set (by rw [h.ssl]; exact hil), ← df_set (by rw [h.dnl]; exact hil)] at h1 h2 h3
  refine ⟨Q', hM, hP, hB, by rw [List.length_set]; exact h.dnl, by rw [List.length_set]; exact h.ssl, h1, by omega, fun hl => ?_, fun e => by omega, fun _ => by omega, by have := h.le; omega, hb, h.lo, h.loD, hbs⟩
  rcases Nat.lt_or_ge n len' with h4 | h4
  · rw [show n + 1 - len' = 0 by omega]
    exact rd_begin h1 hs' hlen _
  · rw [show n + 1 - len' = n - len' + 1 by omega]
    exact h3 n (n - len') (hi h4) (h.rd h4)
theorem inv_zero2 {m : Nat} {W : Nat → List Int} {st : Nat → Gs} {d : Nat → Bool} (hW : ∀ i, i < m → Rise (W i)) (hst : ∀ i, i < m → st i = ⟨W i, 0, 0, false⟩) (hd : ∀ i, d i = false) : Inv m W st (List.replicate 20 0) d (fun _ => []) := by
  have h := inv_zero hW
  refine ⟨h.len, fun i hi => ?_, fun k hk => ?_⟩
  · rw [hst i hi, hd i]; exact h.g i hi
  · have hq := h.q k hk
    refine ⟨hq.nd, hq.nxt, fun i hi => (by cases hi), fun i hi hh => ?_, fun i hi hw => ?_⟩
    · rw [hst i hi] at hh; exact absurd hh (by simp [Gs.held])
    · rw [hst i hi] at hw; have := hw.1; cases this
theorem rs_begin (hM : Many w (B + 2) (B + 1) B ps (fresh zs len) (List.replicate 20 0) 0) (hP : PSl w A ps) (hB : Blk w D 4 (bools (List.replicate len false))) (hb : Below B w0 w) (hlen : 0 < len) (hlo : ∀ p, p ∈ ps → B ≤ p) (hloD : B ≤ D) (hbs : B ≤ w.heap.size) :
    RS w0 w B D len len' zs A ps 0 0 (fresh zs len) (List.replicate 20 0) 0 (List.replicate len false) (fun _ => []) := by
  have hfl : (fresh zs len).length = len := by simp [fresh]
  have hfg : ∀ j, j < len → sf (fresh zs len) j = ⟨wants zs j, 0, 0, false⟩ := fun j hj => by
    rw [sf, fresh, List.getD_eq_getElem?_getD, List.getElem?_map, List.getElem?_range hj]; rfl
  have hdf : ∀ j, df (List.replicate len false) j = false := fun j => by
    unfold df
    rw [List.getD_eq_getElem?_getD, List.getElem?_replicate]; split <;> rfl
  have hI : Inv len (wants zs) (sf (fresh zs len)) (List.replicate 20 0) (df (List.replicate len false)) (fun _ => []) :=
    inv_zero2 (fun j hj => by have := hM.rise j (by rw [hfl]; exact hj); rw [show (fresh zs len).getD j default = _ from hfg j hj] at this; exact this) hfg hdf
  refine ⟨hM, hP, hB, by simp, hfl, hI, Nat.le_refl _, fun hl => ?_, fun _ => hdf, fun h => by omega, Nat.le_refl _, hb, hlo, hloD, hbs⟩
  rw [Nat.zero_sub]
  exact rd_begin hI (small hM.sm (by decide)) hlen _
theorem RS.below' (h : RS w0 w B D len len' zs A ps n stp ss L N dn Q) (hb : Below w.heap.size w w') : RS w0 w' B D len len' zs A ps n stp ss L N dn Q :=
  ⟨h.many.below hb, h.psl.below hb, h.dnb.same (hb.block _ h.dnb.lt), h.dnl, h.ssl, h.inv, h.few, h.rd, h.first, h.some, h.le, h.below.trans (hb.mono h.bs), h.lo, h.loD, Nat.le_trans h.bs hb.size⟩
theorem Many.ms_not (h : Many w x c lb ps ss L N) {k : Nat} (hk : MS ps c lb k) {us : Array Value} {t : TypeId} (e : w.heap[k]? = some (.cells us t (0, 0))) (h1 : t ≠ 76) (h2 : t ≠ 86) (h3 : t ≠ 48) : False := by
  rcases hk with hk | rfl | rfl
  · obtain ⟨i, hi, rfl⟩ := List.mem_iff_getElem.mp hk
    obtain ⟨A0, c0, hO, _⟩ := (h.g i _ (List.getElem?_eq_getElem hi)).obj
    have := hO.symm.trans e
    simp at this
    exact h1 this.2.symm
  · have := h.t.cells.obj.symm.trans e
    simp at this
    exact h2 this.2.symm
  · have := h.t.cells.row.symm.trans e
    simp at this
    exact h3 this.2.symm
theorem PSl.ms (h : PSl w A ps) (hM : Many w x c lb ps ss L N) (o : Only (MS ps c lb) w w') : PSl w' A ps :=
  h.only o fun k hk vs e => hM.ms_not hk e (by decide) (by decide) (by decide)
theorem bl_ms {b : Nat} {B : List Bool} (h : Blk w b 4 (bools B)) (hM : Many w x c lb ps ss L N) (o : Only (MS ps c lb) w w') : Blk w' b 4 (bools B) :=
  h.same (o.block _ h.lt fun hk => hM.ms_not hk h (by decide) (by decide) (by decide))
theorem RS.ms_below (h : RS w0 w B D len len' zs A ps n stp ss L N dn Q) (o : Only (MS ps (B + 1) B) w w') : Below B w0 w' :=
  o.below h.below h.bs fun k _ hk => by
    rcases hk with hk | rfl | rfl
    · exact h.lo k hk
    · omega
    · exact Nat.le_refl _
/-- A guard that has all gives. -/
theorem RS.give (h : RS w0 w B D len len' zs A ps n stp ss L N dn Q) (hn : n < 60000) (hlen : 0 < len) (hil : i < len) (hd : df dn i = false) (hi : len' ≤ n → i = n % len)
    (hall : (sf ss i).n = (sf ss i).row.length) (hM : Many w' (B + 2) (B + 1) B ps (ss.set i (giveA (sf ss i) L).s) (giveA (sf ss i) L).L (N + (giveA (sf ss i) L).k)) (o : Only (MS ps (B + 1) B) w w') :
    ∃ Q', RS w0 (w'.setCell ⟨D, i, none⟩ (.bool (decide ((giveA (sf ss i) L).left = 0)))) B D len len' zs A ps (n + 1) (stp + 1) (ss.set i (giveA (sf ss i) L).s) (giveA (sf ss i) L).L (N + (giveA (sf ss i) L).k) (dn.set i (decide ((giveA (sf ss i) L).left = 0))) Q' := by
  have hB := bl_ms h.dnb h.many o
  have hP := h.psl.ms h.many o
  have hb := h.ms_below o
  have hbs := Nat.le_trans h.bs o.size
  refine h.visit hn hlen hil hd hi ?_ ?_ (hM.setB hB) (hP.setB hB) (bl_set hB i _) ((Only.setCell (S := fun k => k = D) w' ⟨D, i, none⟩ _ rfl).below hb hbs (fun k _ hk => by rw [hk]; exact h.loD)) (by rw [size_set]; exact hbs)
  · unfold GuardCode.visit; rw [if_pos hall]
  · unfold giveA; split
    · simp
    · split <;> simp
/-- A guard that wants more steps. -/
theorem RS.step (h : RS w0 w B D len len' zs A ps n stp ss L N dn Q) (hn : n < 60000) (hlen : 0 < len) (hil : i < len) (hd : df dn i = false) (hi : len' ≤ n → i = n % len)
    (hall : ¬ (sf ss i).n = (sf ss i).row.length) (hM : Many w' (B + 2) (B + 1) B ps (ss.set i (stepA (sf ss i) L).s) (stepA (sf ss i) L).L (N + (stepA (sf ss i) L).k)) (o : Only (MS ps (B + 1) B) w w') :
    ∃ Q', RS w0 w' B D len len' zs A ps (n + 1) (stp + 1) (ss.set i (stepA (sf ss i) L).s) (stepA (sf ss i) L).L (N + (stepA (sf ss i) L).k) dn Q' := by
  have hB := bl_ms h.dnb h.many o
  have hP := h.psl.ms h.many o
  have hb := h.ms_below o
  have hbs := Nat.le_trans h.bs o.size
  have hset : dn.set i false = dn := by
    have hl : i < dn.length := by rw [h.dnl]; exact hil
    apply List.ext_getElem?
    intro j
    by_cases e : i = j
    · subst e
      unfold df at hd
      rw [List.getD_eq_getElem?_getD, List.getElem?_eq_getElem hl] at hd
      rw [List.getElem?_set_self hl, List.getElem?_eq_getElem hl]
      rw [show dn[i] = false from hd]
    · rw [List.getElem?_set_ne e]
  have := h.visit (s' := (stepA (sf ss i) L).s) (L' := (stepA (sf ss i) L).L) (N' := N + (stepA (sf ss i) L).k) (b := false) hn hlen hil hd hi ?_ ?_ hM hP (by rw [hset]; exact hB) hb hbs
  · rw [hset] at this; exact this
  · unfold GuardCode.visit; rw [if_neg hall]
  · unfold stepA; split
    · simp
    · split
      · simp
      · split <;> simp
/-- What Give answers, of one that has all. -/
theorem RS.err (h : RS w0 w B D len len' zs A ps n stp ss L N dn Q) (hil : i < len) (hd : df dn i = false) (hall : (sf ss i).n = (sf ss i).row.length) :
    (giveA (sf ss i) L).e = 0 ∨ ((giveA (sf ss i) L).e = 3 ∧ wants zs i = []) := by
  have hg := h.inv.g i hil
  have hdr : (sf ss i).drawn = false := by
    rcases hg.shape with ⟨h1, h2⟩ | h1
    · rw [h1] at hall; omega
    · exact h1.2
  by_cases h0 : (sf ss i).n = 0
  · refine .inr ⟨by unfold giveA; rw [if_pos h0], hg.live hd (List.length_eq_zero_iff.mp (by omega))⟩
  · refine .inl ?_
    unfold giveA
    rw [if_neg h0, if_neg (by rw [hdr]; decide)]
theorem RS.apart (h : RS w0 w B D len len' zs A ps n stp ss L N dn Q) : ∀ i j y, i < ss.length → j < ss.length → y ∈ (ss.getD i default).row.take (ss.getD i default).n → y ∈ (ss.getD j default).row.take (ss.getD j default).n → i = j := fun i j y hi hj h1 h2 =>
  inv_apart h.inv (by rw [← h.ssl]; exact hi) (by rw [← h.ssl]; exact hj) h1 h2
theorem RS.done (h : RS w0 w B D len len' zs A ps n stp ss L N dn Q) (hlen : 0 < len) (hn : n = len' + 280 * len * len) : (∀ j, j < len → dn.getD j false = true) ∧ 0 < stp := by
  refine ⟨?_, h.some ?_⟩
  · have := h.rd (by omega)
    rw [show n - len' = 280 * len * len by omega] at this
    exact rd_end hlen this
  · have : 0 < 280 * len * len := Nat.mul_pos (Nat.mul_pos (by decide) hlen) hlen
    omega
end
end Go.Proofs.Ytabcodjalacdjab.GuardCode
