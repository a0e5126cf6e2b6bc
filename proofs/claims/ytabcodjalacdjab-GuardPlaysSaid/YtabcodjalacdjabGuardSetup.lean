
/- GuardPlays: six locks, three guards of each kind. -/
import Derived.Test.YtabcodjalacdjabGuardPair
namespace Go.Proofs.Ytabcodjalacdjab.GuardPlays
open Go Go.RowKit Go.Proofs.Ytabcodjalacdjab.Obj Go.Proofs.Ytabcodjalacdjab.Row Go.Proofs.YtabcodjalacdjabW.PrintWords Go.Proofs.YtabcodjalacdjabW.PrintMore
open Go.Proofs.Ytabcodjalacdjab.TicketCode (Sm TAt)
open Go.Proofs.Ytabcodjalacdjab.GuardCode
open Go.Proofs.Ytabcodjalacdjab.RefGuard
open Go.Proofs.Ytabcodjalacdjab.RefCells (RC zs zs_len)
open Go.Proofs.Ytabcodjalacdjab.CellCode (u64s)
set_option linter.unusedVariables false
set_option maxRecDepth 100000
theorem pinfo1 : (Try.prog.info? 29).map (fun i => (i.zero, i.size, i.bytes)) = some (some (.pointer none), 1, 8) := by kernel_rfl
theorem pinfo2 : (Try.prog.info? 55).map (fun i => (i.zero, i.size, i.bytes)) = some (some (.pointer none), 1, 8) := by kernel_rfl
def nils : List Value := [.pointer none, .pointer none, .pointer none]
theorem made_p {t e : TypeId} (hu : Try.prog.underlying t = some (.slice e)) (hinfo : (Try.prog.info? e).map (fun i => (i.zero, i.size, i.bytes)) = some (some (.pointer none), 1, 8)) (W : World) : (Instr.makeSlice t (.int .i64 3) (.int .i64 3)).run Try.prog W = .ok (.slice (some ⟨W.heap.size, 0, none⟩) 3 3) (W.alloc (.cells nils.toArray e)) := by
  obtain ⟨i0, hi, hz⟩ := Option.map_eq_some_iff.1 hinfo
  simp only [Prod.mk.injEq] at hz
  obtain ⟨h1, h2, h3⟩ := hz
  have := run_make (P := Try.prog) W t e i0 (.pointer none) hu hi h1 .i64 .i64 3 3 (by omega) (by omega) (by rw [h3]; decide) (by omega)
  have e2 : madeCells #[Value.pointer none] 3 = nils.toArray := by
    apply Array.ext'
    apply List.ext_getElem?
    intro i
    unfold madeCells
    match i with
    | 0 => simp [nils]
    | 1 => simp [nils]
    | 2 => simp [nils]
    | n + 3 => simp [nils]
  rw [← e2]
  simpa [h2, Value.cells] using this
/-- A slice of three pointers, of which some are set. -/
def slots (ps : List Nat) : List Value := ps.map (fun p => .pointer (some ⟨p, 0, none⟩)) ++ List.replicate (3 - ps.length) (.pointer none)
theorem slots_nil : slots [] = nils := rfl
theorem slots_len {ps : List Nat} (h : ps.length ≤ 3) : (slots ps).length = 3 := by simp [slots]; omega
theorem slots_get {ps : List Nat} {i p : Nat} (h : ps[i]? = some p) : (slots ps)[i]? = some (.pointer (some ⟨p, 0, none⟩)) := by
  have := (List.getElem?_eq_some_iff.mp h).1
  rw [slots, List.getElem?_append_left (by simpa using this), List.getElem?_map, h]; rfl
theorem slots_more {ps : List Nat} (g : Nat) (h : ps.length < 3) : (slots ps).set ps.length (.pointer (some ⟨g, 0, none⟩)) = slots (ps ++ [g]) := by
  match ps, h with
  | [], _ => rfl
  | [_], _ => rfl
  | [_, _], _ => rfl
theorem slots_set {ps : List Nat} (i g : Nat) (h : ps.length = 3) : (slots ps).set i (.pointer (some ⟨g, 0, none⟩)) = slots (ps.set i g) := by
  match ps, h with
  | [a, b, c], _ =>
    match i with
    | 0 => rfl
    | 1 => rfl
    | 2 => rfl
    | n + 3 => rfl
def s0 : Gs := ⟨[], 0, 0, false⟩
def L0 : List Nat := List.replicate 20 0
section
variable {w w' : World} {x c lb y m lo : Nat} {L L' : List Nat} {N N' : Nat} {ps rs : List Nat} {ss : List Gs} {S : Nat → Prop}
/-- Blocks of pointers are none of the guards'. -/
def PT (w : World) (S : Nat → Prop) : Prop := ∀ k, S k → ∃ us t, w.heap[k]? = some (.cells us t (0, 0)) ∧ (t = 29 ∨ t = 55)
theorem pt_off (hS : PT w S) {p : Nat} {t : TypeId} {vs : List Value} (hB : Blk w p t vs) (h1 : t ≠ 29) (h2 : t ≠ 55) : ¬ S p := by
  intro hk
  obtain ⟨us, u, e, hu⟩ := hS p hk
  have := hB.symm.trans e
  simp at this
  rcases hu with hu | hu
  · exact h1 (this.2.trans hu)
  · exact h2 (this.2.trans hu)
theorem pt_no (hS : PT w S) {t : TypeId} (h1 : t ≠ 29) (h2 : t ≠ 55) : ∀ k, S k → ∀ vs, w.heap[k]? ≠ some (.cells vs t (0, 0)) := fun k hk vs e => by
  obtain ⟨us, u, e2, hu⟩ := hS k hk
  rw [e2] at e
  simp at e
  rcases hu with hu | hu
  · exact h1 (e.2.symm.trans hu)
  · exact h2 (e.2.symm.trans hu)
theorem many_off (M : Many w x c lb ps ss L N) (hS : PT w S) (o : Only S w w') : Many w' x c lb ps ss L N := by
  refine ⟨M.t.only o (pt_off hS M.t.cells.obj (by decide) (by decide)) (pt_off hS M.t.cells.row (by decide) (by decide)) (pt_off hS M.t.obj (by decide) (by decide)), M.len, fun i p hp => ?_, M.nd, M.sm, M.rise⟩
  obtain ⟨A0, c0, hG, _⟩ := (M.g i p hp).obj
  exact (M.g i p hp).only o (pt_off hS hG (by decide) (by decide)) (pt_no hS (by decide) (by decide))
theorem rmany_off (R : RMany w y m lo rs ss L N) (hS : PT w S) (o : Only S w w') : RMany w' y m lo rs ss L N := by
  obtain ⟨b, cp, hO, hR⟩ := R.t.cells.obj
  refine ⟨R.t.only o (pt_off hS hO (by decide) (by decide)) (pt_off hS R.t.obj (by decide) (by decide)) (fun k hk _ => pt_no hS (by decide) (by decide) k hk), R.len, fun i p hp => ?_, R.nd⟩
  obtain ⟨A0, c0, hG, _⟩ := (R.g i p hp).obj
  exact (R.g i p hp).only o (pt_off hS hG (by decide) (by decide)) (pt_no hS (by decide) (by decide))
theorem pair_off (h : Pair w x c lb y m lo ps rs ss L N) (hS : PT w S) (o : Only S w w') : Pair w' x c lb y m lo ps rs ss L N := ⟨many_off h.p hS o, rmany_off h.r hS o, h.ok, h.lb⟩
theorem many_push {s : Gs} {g : Nat} (h : Many w x c lb ps ss L N) (hg : GAt w g x s) (hn : g ∉ ps) (hr : Rise s.row) : Many w x c lb (ps ++ [g]) (ss ++ [s]) L N := by
  refine ⟨h.t, by simp [h.len], fun i p hp => ?_, ?_, h.sm, fun i hi => ?_⟩
  · rcases Nat.lt_or_ge i ps.length with h1 | h1
    · rw [List.getElem?_append_left h1] at hp
      rw [List.getD_eq_getElem?_getD, List.getElem?_append_left (by rw [← h.len]; exact h1), ← List.getD_eq_getElem?_getD]
      exact h.g i p hp
    · rw [List.getElem?_append_right h1] at hp
      rw [List.getD_eq_getElem?_getD, List.getElem?_append_right (by rw [← h.len]; exact h1), ← h.len]
      obtain ⟨h2, h3⟩ := List.getElem?_eq_some_iff.mp hp
      simp only [List.length_singleton] at h2
      rw [show i - ps.length = 0 by omega] at hp ⊢
      simp at hp
      subst hp
      exact hg
  · rw [List.nodup_append]
    exact ⟨h.nd, by simp, fun a ha b hb => by rw [List.mem_singleton.mp hb]; rintro rfl; exact hn ha⟩
  · rcases Nat.lt_or_ge i ss.length with h1 | h1
    · rw [List.getD_eq_getElem?_getD, List.getElem?_append_left h1, ← List.getD_eq_getElem?_getD]
      exact h.rise i h1
    · rw [List.length_append, List.length_singleton] at hi
      rw [List.getD_eq_getElem?_getD, List.getElem?_append_right h1, show i - ss.length = 0 by omega]
      exact hr
theorem rmany_push {s : Gs} {g : Nat} (h : RMany w y m lo rs ss L N) (hg : RG w g y s) (hn : g ∉ rs) : RMany w y m lo (rs ++ [g]) (ss ++ [s]) L N := by
  refine ⟨h.t, by simp [h.len], fun i p hp => ?_, ?_⟩
  · rcases Nat.lt_or_ge i rs.length with h1 | h1
    · rw [List.getElem?_append_left h1] at hp
      rw [List.getD_eq_getElem?_getD, List.getElem?_append_left (by rw [← h.len]; exact h1), ← List.getD_eq_getElem?_getD]
      exact h.g i p hp
    · rw [List.getElem?_append_right h1] at hp
      rw [List.getD_eq_getElem?_getD, List.getElem?_append_right (by rw [← h.len]; exact h1), ← h.len]
      obtain ⟨h2, h3⟩ := List.getElem?_eq_some_iff.mp hp
      simp only [List.length_singleton] at h2
      rw [show i - rs.length = 0 by omega] at hp ⊢
      simp at hp
      subst hp
      exact hg
  · rw [List.nodup_append]
    exact ⟨h.nd, by simp, fun a ha b hb => by rw [List.mem_singleton.mp hb]; rintro rfl; exact hn ha⟩
theorem many_lt (h : Many w x c lb ps ss L N) {p : Nat} (hp : p ∈ ps) : p < w.heap.size := by
  obtain ⟨i, hi, rfl⟩ := List.mem_iff_getElem.mp hp
  exact (h.g i ps[i] (List.getElem?_eq_getElem hi)).lt
theorem rmany_lt (h : RMany w y m lo rs ss L N) {p : Nat} (hp : p ∈ rs) : p < w.heap.size := by
  obtain ⟨i, hi, rfl⟩ := List.mem_iff_getElem.mp hp
  exact (h.g i rs[i] (List.getElem?_eq_getElem hi)).lt
theorem oks0 : Oks s0 := ⟨fun i hi => absurd hi (Nat.not_lt_zero i), Nat.le_refl _, fun e => Bool.noConfusion e, fun _ => rfl⟩
theorem sm00 : Sm L0 0 := ⟨by decide, fun y hy => by rw [List.eq_of_mem_replicate hy]; exact Nat.le_refl _⟩
/-- What stands ahead of the first guard. -/
theorem setup_at {W : World} {Z : Nat} (T : TAt W x c lb L0 0) (hZ : W.heap.size = Z) (hlb : lb < Z) :
    let W0 := ((((W.alloc (.cells (u64s L0).toArray 48)).alloc (.cells #[.slice (some ⟨Z, 0, none⟩) 20 20, .int .u64 0] 50)).alloc (.cells #[.pointer (some ⟨Z + 1, 0, none⟩), .int .i64 4, .int .i64 6] 53)).alloc (.cells nils.toArray 29)).alloc (.cells nils.toArray 55)
    Pair W0 x c lb (Z + 2) (Z + 1) Z [] [] [] L0 0 ∧ Blk W0 (Z + 3) 29 nils ∧ Blk W0 (Z + 4) 55 nils ∧ Below Z W W0 ∧ W0.heap.size = Z + 5 := by
  intro W0
  subst hZ
  have hb1 := (Below.refl W.heap.size W).alloc (Nat.le_refl _) (.cells (u64s L0).toArray 48)
  have hb2 := hb1.alloc (by simp) (.cells #[.slice (some ⟨W.heap.size, 0, none⟩) 20 20, .int .u64 0] 50)
  have hb3 := hb2.alloc (by simp; omega) (.cells #[.pointer (some ⟨W.heap.size + 1, 0, none⟩), .int .i64 4, .int .i64 6] 53)
  have hb4 := hb3.alloc (by simp; omega) (.cells nils.toArray 29)
  have hb5 : Below W.heap.size W W0 := hb4.alloc (by simp; omega) (.cells nils.toArray 55)
  have own : (W.alloc (.cells (u64s L0).toArray 48)).ownsRow W.heap.size 48 1 (.slice (some ⟨W.heap.size, 0, none⟩) 20 20) 20 (nums .u64 (zs L0)) := own_lit W W.heap.size 48 .u64 (zs L0) (Nat.le_refl _) (by decide)
  have B1 := Blk.new (W.alloc (.cells (u64s L0).toArray 48)) 50 [.slice (some ⟨W.heap.size, 0, none⟩) 20 20, .int .u64 0]
  have B2 := Blk.new ((W.alloc (.cells (u64s L0).toArray 48)).alloc (.cells #[.slice (some ⟨W.heap.size, 0, none⟩) 20 20, .int .u64 0] 50)) 53 [.pointer (some ⟨W.heap.size + 1, 0, none⟩), .int .i64 4, .int .i64 6]
  have B3 := Blk.new (((W.alloc (.cells (u64s L0).toArray 48)).alloc (.cells #[.slice (some ⟨W.heap.size, 0, none⟩) 20 20, .int .u64 0] 50)).alloc (.cells #[.pointer (some ⟨W.heap.size + 1, 0, none⟩), .int .i64 4, .int .i64 6] 53)) 29 nils
  have B4 := Blk.new ((((W.alloc (.cells (u64s L0).toArray 48)).alloc (.cells #[.slice (some ⟨W.heap.size, 0, none⟩) 20 20, .int .u64 0] 50)).alloc (.cells #[.pointer (some ⟨W.heap.size + 1, 0, none⟩), .int .i64 4, .int .i64 6] 53)).alloc (.cells nils.toArray 29)) 55 nils
  simp only [World.size_alloc] at B1 B2 B3 B4
  refine ⟨⟨⟨T.below hb5, rfl, fun i p hp => by simp at hp, List.nodup_nil, sm00, fun i hi => by simp at hi⟩, ⟨⟨⟨⟨W.heap.size, 20, ((B1.alloc _).alloc _).alloc _, own_alloc (own_alloc (own_alloc (own_alloc own _) _) _) _⟩, hb5.size⟩, ((B2.alloc _).alloc _), rfl⟩, rfl, fun i p hp => by simp at hp, List.nodup_nil⟩, fun i hi => by simp at hi, hlb⟩, B3.alloc _, B4, hb5, by simp [W0]⟩
/-- One guard more of each kind. -/
theorem round2 {g gb rb i : Nat} (h : Pair w x c lb y m lo ps rs (List.replicate i s0) L N) (hG : GAt w g x s0) (hgp : g ∉ ps) (Bg : Blk w gb 29 (slots ps)) (Br : Blk w rb 55 (slots rs)) (hps : ps.length = i) (hrs : rs.length = i) (hi : i < 3) :
    ∀ w6, w6 = ((w.setCell ⟨gb, i, none⟩ (.pointer (some ⟨g, 0, none⟩))).alloc (.cells #[.pointer (some ⟨y, 0, none⟩), .slice none 0 0, .int .i64 0, .int .u16 0, .bool false] 58)).setCell ⟨rb, i, none⟩ (.pointer (some ⟨w.heap.size, 0, none⟩)) →
    Pair w6 x c lb y m lo (ps ++ [g]) (rs ++ [w.heap.size]) (List.replicate (i + 1) s0) L N ∧ Blk w6 gb 29 (slots (ps ++ [g])) ∧ Blk w6 rb 55 (slots (rs ++ [w.heap.size])) ∧ Only (fun k => k = gb ∨ k = rb) w w6 := by
  intro w6 hw6
  have hne : gb ≠ rb := CellCode.blk_ne Bg Br (by decide)
  have o1 : Only (fun k => k = gb) w (w.setCell ⟨gb, i, none⟩ (.pointer (some ⟨g, 0, none⟩))) := Only.setCell _ _ _ rfl
  have p1 := pair_off h (S := fun k => k = gb) (fun k hk => by subst hk; exact ⟨_, _, Bg, .inl rfl⟩) o1
  obtain ⟨A0, c0, hO, _⟩ := hG.obj
  have G1 := hG.only o1 (pt_off (S := fun k => k = gb) (w := w) (fun k hk => by subst hk; exact ⟨_, _, Bg, .inl rfl⟩) hO (by decide) (by decide)) (pt_no (S := fun k => k = gb) (w := w) (fun k hk => by subst hk; exact ⟨_, _, Bg, .inl rfl⟩) (by decide) (by decide))
  have Bg1 := Bg.set i (.pointer (some ⟨g, 0, none⟩))
  have Br1 := Br.set_other ⟨gb, i, none⟩ (.pointer (some ⟨g, 0, none⟩)) (Ne.symm hne)
  have z1 : (w.setCell ⟨gb, i, none⟩ (.pointer (some ⟨g, 0, none⟩))).heap.size = w.heap.size := size_set _ _ _
  rw [← hps, slots_more g (by omega), hps] at Bg1
  generalize w.setCell ⟨gb, i, none⟩ (.pointer (some ⟨g, 0, none⟩)) = w1 at *
  have hb := (Below.refl w1.heap.size w1).alloc (Nat.le_refl _) (.cells #[.pointer (some ⟨y, 0, none⟩), .slice none 0 0, .int .i64 0, .int .u16 0, .bool false] 58)
  have p2 := p1.below hb
  have G2 := G1.below hb
  have Bg2 := Bg1.alloc (.cells #[.pointer (some ⟨y, 0, none⟩), .slice none 0 0, .int .i64 0, .int .u16 0, .bool false] 58)
  have Br2 := Br1.alloc (.cells #[.pointer (some ⟨y, 0, none⟩), .slice none 0 0, .int .i64 0, .int .u16 0, .bool false] 58)
  have R2 : RG (w1.alloc (.cells #[.pointer (some ⟨y, 0, none⟩), .slice none 0 0, .int .i64 0, .int .u16 0, .bool false] 58)) w1.heap.size y s0 := ⟨⟨none, 0, Blk.new w1 _ [.pointer (some ⟨y, 0, none⟩), .slice none 0 0, .int .i64 0, .int .u16 0, .bool false], Nat.le_refl _, RowM.nil _⟩, Nat.le_refl _, by decide⟩
  have hr1 : w1.heap.size ∉ rs := fun hm => by have := rmany_lt p1.r hm; omega
  have o2 : Only (fun k => k = gb ∨ k = rb) w (w1.alloc (.cells #[.pointer (some ⟨y, 0, none⟩), .slice none 0 0, .int .i64 0, .int .u16 0, .bool false] 58)) := (o1.mono (fun k _ hk => .inl hk)).trans (Only.alloc _ _ _)
  rw [z1] at R2 hr1
  have o3 : Only (fun k => k = rb) (w1.alloc (.cells #[.pointer (some ⟨y, 0, none⟩), .slice none 0 0, .int .i64 0, .int .u16 0, .bool false] 58)) w6 := by rw [hw6]; exact Only.setCell _ ⟨rb, i, none⟩ _ rfl
  have p3 : Pair (w1.alloc (.cells #[.pointer (some ⟨y, 0, none⟩), .slice none 0 0, .int .i64 0, .int .u16 0, .bool false] 58)) x c lb y m lo (ps ++ [g]) (rs ++ [w.heap.size]) (List.replicate i s0 ++ [s0]) L N := ⟨many_push p2.p G2 hgp oks0.rise, rmany_push p2.r R2 hr1, fun j hj => by
    rcases Nat.lt_or_ge j (List.replicate i s0).length with h1 | h1
    · rw [List.getD_eq_getElem?_getD, List.getElem?_append_left h1, ← List.getD_eq_getElem?_getD]; exact p2.ok j h1
    · rw [List.length_append, List.length_singleton] at hj
      rw [List.getD_eq_getElem?_getD, List.getElem?_append_right h1, show j - (List.replicate i s0).length = 0 by omega]; exact oks0, p2.lb⟩
  rw [← List.replicate_succ'] at p3
  have Br3 := Br2.set i (.pointer (some ⟨w.heap.size, 0, none⟩))
  rw [← hrs, slots_more w.heap.size (by omega), hrs, ← hw6] at Br3
  refine ⟨pair_off p3 (S := fun k => k = rb) (fun k hk => by subst hk; exact ⟨_, _, Br2, .inr rfl⟩) o3, Bg2.only o3 hne, Br3, o2.trans (o3.mono (fun k _ hk => .inr hk))⟩
end
/-- Which guard a step is of. -/
theorem who_of (who : Int) : ∃ wi : Nat, wi < 3 ∧ wrap64 ((IntKind.u64.wrap who).tmod 3) = (wi : Int) := by
  have e : IntKind.u64.wrap who = who % 18446744073709551616 := by simp [IntKind.wrap, IntKind.bits, IntKind.signed]
  have h0 : 0 ≤ IntKind.u64.wrap who := by rw [e]; omega
  generalize IntKind.u64.wrap who = u at *
  rw [Int.tmod_eq_emod_of_nonneg h0]
  refine ⟨(u % 3).toNat, by omega, ?_⟩
  have h1 : ((u % 3).toNat : Int) = u % 3 := by omega
  have h2 : 0 ≤ u % 3 := by omega
  have h3 : u % 3 < 3 := by omega
  rw [h1]
  generalize u % 3 = z at *
  clear e h0 h1
  exact IntWalk.wrap64_in _ ⟨by omega, by omega⟩
theorem blk_prog {q : Nat} {t : TypeId} {vs : List Value} {w w' : World} {x c lb : Nat} {L : List Nat} {N : Nat} {ps : List Nat} {ss : List Gs} (M : Many w x c lb ps ss L N) (hB : Blk w q t vs) (o : Only (MS ps c lb) w w') (h1 : t ≠ 76) (h2 : t ≠ 86) (h3 : t ≠ 48) : Blk w' q t vs := hB.only o (ms_off M hB h1 h2 h3)
theorem blk_ref {q : Nat} {t : TypeId} {vs : List Value} {w w' : World} {y m lo : Nat} {L : List Nat} {N : Nat} {rs : List Nat} {ss : List Gs} (R : RMany w y m lo rs ss L N) (hB : Blk w q t vs) (o : Only (RMS rs m) w w') (h1 : t ≠ 58) (h2 : t ≠ 50) : Blk w' q t vs := hB.only o (rms_off R hB h1 h2)
/-- All that a round of the plays keeps. -/
structure Kept (w0 w : World) (x c lb y m lo gb rb : Nat) (ps rs : List Nat) (ss : List Gs) (L : List Nat) (N : Nat) : Prop where
  pair : Pair w x c lb y m lo ps rs ss L N
  gsl : Blk w gb 29 (slots ps)
  rsl : Blk w rb 55 (slots rs)
  bel : Below w0.heap.size w0 w
  len : ps.length = 3 ∧ ss.length = 3 ∧ rs.length = 3
  new : (∀ p ∈ ps, w0.heap.size ≤ p) ∧ (∀ p ∈ rs, w0.heap.size ≤ p)
  base : w0.heap.size ≤ c ∧ w0.heap.size ≤ lb ∧ w0.heap.size ≤ m ∧ w0.heap.size ≤ gb ∧ w0.heap.size ≤ rb
section
variable {w0 w w' : World} {x c lb y m lo gb rb : Nat} {ps rs : List Nat} {ss ss' : List Gs} {L L' : List Nat} {N N' : Nat}
theorem Kept.below (h : Kept w0 w x c lb y m lo gb rb ps rs ss L N) (hb : Below w.heap.size w w') : Kept w0 w' x c lb y m lo gb rb ps rs ss L N :=
  ⟨h.pair.below hb, h.gsl.same (hb.block _ h.gsl.lt), h.rsl.same (hb.block _ h.rsl.lt), h.bel.trans (hb.mono h.bel.size), h.len, h.new, h.base⟩
theorem Kept.p_at (h : Kept w0 w x c lb y m lo gb rb ps rs ss L N) {i : Nat} (hi : i < 3) : ∃ p, ps[i]? = some p ∧ w.cell? ⟨gb, i, none⟩ = some (.pointer (some ⟨p, 0, none⟩)) ∧ w.frozen? ⟨gb, i, none⟩ = false := by
  have h1 := h.len.1
  refine ⟨ps[i], List.getElem?_eq_getElem (by omega), ?_, h.gsl.frozen i⟩
  rw [h.gsl.cell i]
  exact slots_get (List.getElem?_eq_getElem (by omega))
theorem Kept.r_at (h : Kept w0 w x c lb y m lo gb rb ps rs ss L N) {i : Nat} (hi : i < 3) : ∃ p, rs[i]? = some p ∧ w.cell? ⟨rb, i, none⟩ = some (.pointer (some ⟨p, 0, none⟩)) := by
  have h1 := h.len.2.2
  refine ⟨rs[i], List.getElem?_eq_getElem (by omega), ?_⟩
  rw [h.rsl.cell i]
  exact slots_get (List.getElem?_eq_getElem (by omega))
theorem Kept.prog (h : Kept w0 w x c lb y m lo gb rb ps rs ss L N) (o : Only (MS ps c lb) w w') : Blk w' gb 29 (slots ps) ∧ Blk w' rb 55 (slots rs) ∧ Below w0.heap.size w0 w' :=
  ⟨blk_prog h.pair.p h.gsl o (by decide) (by decide) (by decide), blk_prog h.pair.p h.rsl o (by decide) (by decide) (by decide), o.below h.bel h.bel.size (fun k _ hk => by
    rcases hk with hk | rfl | rfl
    · exact h.new.1 k hk
    · exact h.base.1
    · exact h.base.2.1)⟩
/-- Behind a step of both. -/
theorem Kept.both {w2 : World} (h : Kept w0 w x c lb y m lo gb rb ps rs ss L N) (o : Only (MS ps c lb) w w2) (hR : RMany w2 y m lo rs ss L N) (hP : Pair w' x c lb y m lo ps rs ss' L' N') (o2 : Only (RMS rs m) w2 w') (hl : ss'.length = 3) : Kept w0 w' x c lb y m lo gb rb ps rs ss' L' N' := by
  obtain ⟨h1, h2, h3⟩ := h.prog o
  exact ⟨hP, blk_ref hR h1 o2 (by decide) (by decide), blk_ref hR h2 o2 (by decide) (by decide), o2.below h3 h3.size (fun k _ hk => by
    rcases hk with hk | rfl
    · exact h.new.2 k hk
    · exact h.base.2.2.1), ⟨h.len.1, hl, h.len.2.2⟩, h.new, h.base⟩
/-- A guard that goes on as its copy. -/
theorem Kept.copy {w3 : World} {i g : Nat} (h : Kept w0 w x c lb y m lo gb rb ps rs ss L N) (hP : Pair w3 x c lb y m lo (ps.set i g) rs ss L N) (hb : Below w.heap.size w w3) (hg : w0.heap.size ≤ g) : Kept w0 (w3.setCell ⟨gb, i, none⟩ (.pointer (some ⟨g, 0, none⟩))) x c lb y m lo gb rb (ps.set i g) rs ss L N := by
  have B1 := h.gsl.same (hb.block _ h.gsl.lt)
  have B2 := h.rsl.same (hb.block _ h.rsl.lt)
  have hne : gb ≠ rb := CellCode.blk_ne B1 B2 (by decide)
  have o : Only (fun k => k = gb) w3 (w3.setCell ⟨gb, i, none⟩ (.pointer (some ⟨g, 0, none⟩))) := Only.setCell _ _ _ rfl
  have hb3 := h.bel.trans (hb.mono h.bel.size)
  refine ⟨pair_off hP (S := fun k => k = gb) (fun k hk => by subst hk; exact ⟨_, _, B1, .inl rfl⟩) o, ?_, B2.only o (Ne.symm hne), o.below hb3 hb3.size (fun k _ hk => by rw [hk]; exact h.base.2.2.2.1), ⟨by rw [List.length_set]; exact h.len.1, h.len.2⟩, ⟨fun p hp => ?_, h.new.2⟩, h.base⟩
  · rw [← slots_set i g h.len.1]; exact B1.set i _
  · rcases List.mem_or_eq_of_mem_set hp with h1 | rfl
    · exact h.new.1 p h1
    · exact hg
/-- Two guards of one place are the same. -/
theorem Kept.same (h : Kept w0 w x c lb y m lo gb rb ps rs ss L N) {i p r : Nat} (hp : ps[i]? = some p) (hr : rs[i]? = some r) : Calls Try.prog 21 #[.pointer (some ⟨p, 0, none⟩), .pointer (some ⟨r, 0, none⟩)] w fun e w' => e = .returned (.bool true) ∧ Below w.heap.size w w' := by
  have hi := h.pair.p.lt hp
  exact same_at (h.pair.p.g i p hp) (h.pair.r.g i r hr) (h.pair.ok i hi) (by have := rise_len (h.pair.p.rise i hi); omega)
end
theorem stepA_k (s : Gs) (L : List Nat) : (stepA s L).k ≤ 1 := by
  unfold stepA
  split
  · exact Nat.zero_le _
  · split
    · exact Nat.le_refl _
    · split <;> exact Nat.le_refl _
theorem giveA_k (s : Gs) (L : List Nat) : (giveA s L).k ≤ 1 := by
  unfold giveA
  split
  · exact Nat.zero_le _
  · split
    · exact Nat.zero_le _
    · exact Nat.le_refl _
theorem grown_below {w w' : World} (h : w.grownBy w' none) : Below w.heap.size w w' := ⟨h.os, h.tape, h.output, h.size, fun k hk => h.block k hk (by simp)⟩
theorem slw_of {w : World} {base cap m : Nat} {A : Option Addr} {R : List Int} (h : w.ownsRow base 3 1 (.slice A m cap) R.length (nums .i64 R)) (hl : R.length ≤ 1000000) : SlW w A cap R ∧ m = R.length := by
  obtain ⟨h1, h2, h3⟩ := rowM_of_own h
  refine ⟨⟨h1, fun e => ?_, h3, hl⟩, h2⟩
  rcases own_cases h with ⟨_, e1, e2⟩ | ⟨gb, e1, _⟩
  · exact ⟨List.length_eq_zero_iff.mp e1, e2⟩
  · rw [e] at e1; cases e1
end Go.Proofs.Ytabcodjalacdjab.GuardPlays
