
/- mchan: what is done. -/
import Derived.Test.YtabcodjalacdjaaMchanTake
namespace Go.Proofs.Ytabcodjalacdjaa.MchanCode
open Go Go.RowKit Go.Proofs.Ytabcodjalacdjaa.Obj Go.Proofs.Ytabcodjalacdjaa.Iter Go.Proofs.Ytabcodjalacdjaa.RingCode Go.Proofs.YtabcodjalacdjaaW.PrintWords Go.Proofs.YtabcodjalacdjaaW.PrintLast Go.Proofs.YtabcodjalacdjaaW.PrintMore
attribute [local go_sem] Oper.semAt_some
set_option linter.unusedVariables false
set_option linter.unusedSimpArgs false
set_option maxRecDepth 100000
/-- What is told of an operation. -/
def got (k : Int) (x : Wt) (v : Int) (ok : Bool) (u : Int) : Value := .agg #[.int .u8 k, .int .i64 x.task, .int .i64 x.case, .int .i64 x.val, .int .i64 v, .bool ok, .int .i64 u]
def gcells (k : Int) (x : Wt) (v : Int) (ok : Bool) (u : Int) : List Value := [.int .u8 k, .int .i64 x.task, .int .i64 x.case, .int .i64 x.val, .int .i64 v, .bool ok, .int .i64 u]
section
variable {lo : Nat} {w w' : World} {c most : Nat} {Bf : List Int} {R0 R1 : List Wt}
theorem only1 {W : World} {p i : Nat} {v : Value} : Only (fun k => k = p) W (W.setCell ⟨p, i, none⟩ v) := Only.setCell _ _ _ rfl
/-- What stands in the result's cell is stored, and nothing else. -/
theorem got_fin {W : World} {p : Nat} {vs : List Value} (hX : Blk W p 50 vs) (hl : vs.length = 7) (k : Int) (x : Wt) (v : Int) (ok : Bool) (u : Int) : ∀ W4 : World, W4 = (((((((W.setCell ⟨p, 0, none⟩ (.int .u8 k)).setCell ⟨p, 1, none⟩ (.int .i64 x.task)).setCell ⟨p, 2, none⟩ (.int .i64 x.case)).setCell ⟨p, 3, none⟩ (.int .i64 x.val)).setCell ⟨p, 4, none⟩ (.int .i64 v)).setCell ⟨p, 5, none⟩ (.bool ok)).setCell ⟨p, 6, none⟩ (.int .i64 u)) →
    Blk W4 p 50 (gcells k x v ok u) ∧ Only (fun k => k = p) W W4 := by
  rintro W4 rfl
  match vs, hl with
  | [a0, a1, a2, a3, a4, a5, a6], _ =>
    refine ⟨((((((hX.set 0 _).set 1 _).set 2 _).set 3 _).set 4 _).set 5 _).set 6 _, ?_⟩
    exact (((((only1.trans only1).trans only1).trans only1).trans only1).trans only1).trans only1
/-- Blocks of other types are written. -/
theorem ChAt.onlyT {S : Nat → Prop} (h : ChAt lo w c most Bf R0 R1) (o : Only S w w') (hS : ∀ k, S k → ∃ cur t, w.heap[k]? = some (.cells cur t (0, 0)) ∧ t ≠ 88 ∧ t ≠ 72 ∧ t ≠ 48) : ChAt lo w' c most Bf R0 R1 := by
  obtain ⟨r, v0, v1, hO, hr, hR, hr0, hr1, hne⟩ := h.obj
  have n1 : ¬ S c := fun hs => by
    obtain ⟨cur, t, e, _, ht, _⟩ := hS c hs
    have := hO.symm.trans e
    simp at this
    exact ht this.2.symm
  have n2 : ¬ S r := fun hs => by
    obtain ⟨cur, t, e, ht, _, _⟩ := hS r hs
    obtain ⟨_, _, q1, _⟩ := hR
    have := q1.symm.trans e
    simp at this
    exact ht this.2.symm
  have n3 : ∀ {v : Value} {L : List Wt}, WRow lo w v L → WRow lo w' v L := fun hw => hw.same fun g hg => o.block g (hw.block hg).2 fun hs => by
    obtain ⟨cur, t, e, _, _, ht⟩ := hS g hs
    obtain ⟨cur2, e2⟩ := hw.typed hg
    have := e2.symm.trans e
    simp at this
    exact ht this.2.symm
  exact ⟨⟨r, v0, v1, hO.only o n1, hr, hR.only o n2, n3 hr0, n3 hr1, hne⟩, h.lo, h.few0, h.few1⟩
theorem ChAt.onlyG {p : Nat} {vs : List Value} (h : ChAt lo w c most Bf R0 R1) (o : Only (fun k => k = p) w w') (hp : Blk w p 50 vs) : ChAt lo w' c most Bf R0 R1 :=
  h.onlyT o fun k hk => ⟨vs.toArray, 50, by rw [hk]; exact hp, by decide, by decide, by decide⟩
theorem got_ret {W : World} {p : Nat} {k : Int} {x : Wt} {v : Int} {ok : Bool} {u : Int} (hX : Blk W p 50 (gcells k x v ok u)) {fn : Func} {sl : Tmp} (hf : fn.results = #[.cell sl 50]) (tmps : Array Value) (ht : tmps.getD sl undef = .pointer (some ⟨p, 0, none⟩)) :
    (results fn tmps).run Try.prog W = .ok (got k x v ok u) W :=
  results_cell_row hf _ _ p 50 _ (0, 0) _ ht hX Try.underlying50 rfl (by kernel_rfl)
/-- What was told stays. -/
def KeepG (w w' : World) : Prop := ∀ q vs, Blk w q 50 vs → Blk w' q 50 vs
theorem KeepG.trans {a b d : World} (h : KeepG a b) (k : KeepG b d) : KeepG a d := fun q vs hq => k q vs (h q vs hq)
theorem KeepG.below {a b : World} (h : Below a.heap.size a b) : KeepG a b := fun q vs hq => hq.same (h.block _ hq.lt)
theorem KeepG.chan {a b : World} {c : Nat} {t : TypeId} {us : List Value} (o : Only (fun k => k = c) a b) (hc : Blk a c t us) (ht : t ≠ 50) : KeepG a b := fun q vs hq => hq.only o fun e => by
  have e2 : q = c := e
  rw [e2] at hq
  have := hc.symm.trans hq
  simp at this
  exact ht this.2
theorem KeepG.last {a b d : World} {p : Nat} (h : KeepG a b) (o : Only (fun k => k = p) b d) (hp : a.heap.size ≤ p) : KeepG a d := fun q vs hq => (h q vs hq).only o fun e => by
  have e2 : q = p := e
  have := hq.lt
  omega
theorem ChAt.chan (h : ChAt lo w c most Bf R0 R1) : ∃ us, Blk w c 72 us := by obtain ⟨r, v0, v1, hO, _⟩ := h.obj; exact ⟨_, hO⟩
def zg : List Value := gcells 0 zeroW 0 false 0
set_option maxHeartbeats 4000000 in
/-- A value is put into the buffer. -/
theorem buffer1_at (h : ChAt lo w c most Bf R0 R1) (hlo : lo ≤ w.heap.size) (hl : Bf.length < most) (v : Int) : Calls Try.prog 30 #[.pointer (some ⟨c, 0, none⟩), .bool true, .int .i64 v] w fun e w' => e = .returned (got 3 zeroW v true 0) ∧ ChAt lo w' c most (Bf ++ [v]) R0 R1 ∧ Below lo w w' ∧ KeepG w w' := by
  have hB0 : Below w.heap.size w (w.alloc (.cells zg.toArray 50)) := (Below.refl _ w).alloc (Nat.le_refl _) _
  have hX := Blk.new w 50 zg
  obtain ⟨w0, hw0⟩ : ∃ w0, w0 = w.alloc (.cells zg.toArray 50) := ⟨_, rfl⟩
  have hw0' : w.alloc (.cells #[.int .u8 0, .int .i64 0, .int .i64 0, .int .i64 0, .int .i64 0, .bool false, .int .i64 0] 50) = w0 := hw0.symm
  rw [← hw0] at hB0 hX
  have hlt := h.lt
  have h1 := h.below hB0
  obtain ⟨r, v0, v1, hO, hr, hR, hr0, hr1, hne⟩ := h1.obj
  have g0 : w0.cell? ⟨c, 0, none⟩ = some (.pointer (some ⟨r, 0, none⟩)) := hO.cell 0
  have hP := RingCode.put_at hR hl v
  have hs0 : w.heap.size < w0.heap.size := hX.lt
  clear hw0
  go_enter Try.func30, Try.ntmps30
  go_wp2_with (fail)
  refine hP.mono ?_
  rintro e w1 ⟨rfl, hR1, o1⟩
  have hrp : r ≠ w.heap.size := fun e => by
    obtain ⟨_, _, q1, _⟩ := hR
    rw [e] at q1
    have := q1.symm.trans hX
    simp at this
  have hX1 := hX.only o1 (Ne.symm hrp)
  have hcr : ¬ c = r := fun e => by
    obtain ⟨_, _, q1, _⟩ := hR
    rw [← e] at q1
    have := q1.symm.trans hO
    simp at this
  have hrw : ∀ {v : Value} {L : List Wt}, WRow lo w0 v L → WRow lo w1 v L := fun hw => hw.same fun g hg => o1.block g (hw.block hg).2 fun hs => by
    obtain ⟨_, _, q1, _⟩ := hR
    obtain ⟨cur, hcur⟩ := hw.typed hg
    rw [hs] at hcur
    have := q1.symm.trans hcur
    simp at this
  have h2 : ChAt lo w1 c most (Bf ++ [v]) R0 R1 := ⟨⟨r, v0, v1, hO.only o1 hcr, hr, hR1, hrw hr0, hrw hr1, hne⟩, h.lo, h.few0, h.few1⟩
  have hb1 := o1.below (hB0.mono hlo) (Nat.le_trans hlo hB0.size) (fun k _ hk => by rw [hk]; exact hr)
  have hf := got_fin hX1 rfl 3 zeroW v true 0
  have hfH := hid hf
  have hz := hX1.frozen
  have z0 : w1.cell? ⟨w.heap.size, 0, none⟩ = some (.int .u8 0) := hX1.cell 0
  have z1 : w1.cell? ⟨w.heap.size, 1, none⟩ = some (.int .i64 0) := hX1.cell 1
  have z2 : w1.cell? ⟨w.heap.size, 2, none⟩ = some (.int .i64 0) := hX1.cell 2
  have z3 : w1.cell? ⟨w.heap.size, 3, none⟩ = some (.int .i64 0) := hX1.cell 3
  have z4 : w1.cell? ⟨w.heap.size, 4, none⟩ = some (.int .i64 0) := hX1.cell 4
  have z5 : w1.cell? ⟨w.heap.size, 5, none⟩ = some (.bool false) := hX1.cell 5
  have z6 : w1.cell? ⟨w.heap.size, 6, none⟩ = some (.int .i64 0) := hX1.cell 6
  have hKG := hid ((KeepG.below hB0).trans (fun q vs hq => hq.only o1 fun e => by
    obtain ⟨_, _, q1, _⟩ := hR
    have e2 : q = r := e
    rw [← e2] at q1
    have := q1.symm.trans hq
    simp at this))
  have hXH := hid hX1
  have h2H := hid h2
  have hb1H := hid hb1
  clear hP hR1 o1 hX1 hrw h2 hb1 hf hO hR hr0 hr1 hne h1 hB0 hX g0
  go_wp2_with (fail)
  obtain ⟨f1, f2⟩ := hfH.out _ rfl
  refine bodyPost_ret (got_ret f1 rfl _ rfl) rfl ?_
  exact ⟨rfl, h2H.out.onlyG f2 hXH.out, f2.below hb1H.out (by have := hb1H.out.size; omega) (fun k _ hk => by rw [hk]; exact hlo), hKG.out.last f2 (Nat.le_refl _)⟩
end
end Go.Proofs.Ytabcodjalacdjaa.MchanCode
