
/- mchan: what goes over a row; Row. -/
import Derived.Test.YtabcodjalacdjaaMchan
namespace Go.Proofs.Ytabcodjalacdjaa.MchanCode
open Go Go.RowKit Go.Shelf Go.Proofs.Ytabcodjalacdjaa.Obj Go.Proofs.Ytabcodjalacdjaa.Iter Go.Proofs.Ytabcodjalacdjaa.RingCode Go.Proofs.YtabcodjalacdjaaW.PrintWords Go.Proofs.YtabcodjalacdjaaW.PrintLast Go.Proofs.YtabcodjalacdjaaW.PrintMore
attribute [local go_sem] Oper.semAt_some
set_option linter.unusedVariables false
set_option linter.unusedSimpArgs false
set_option maxRecDepth 100000
abbrev KT : List TypeId := [42, 4]
def Kp (B : Nat) (W W' : World) : Prop := Below B W W' ∧ Kt KT W W'
theorem Kp_t {B : Nat} {X Y Z : World} (h : Kp B X Y) (k : Kp B Y Z) : Kp B X Z := ⟨h.1.trans k.1, Kt_t h.2 k.2⟩
theorem Kp_b {B : Nat} {w : World} (hn : B ≤ w.heap.size) (W : World) (l : Nat) (o o' : Obj) (hl : w.heap.size ≤ l) (h : W.heap[l]? = some o) (ho : o.isCells = false) (hw : o.isWalk = false) : Kp B W (W.putObj l o') :=
  ⟨belowK_b hn W l o o' hl h ho hw, Kt_b (w := w) W l o o' hl h ho hw⟩
/-- The place of a row's slice in the channel. -/
def ix (b : Bool) : Nat := if b then 1 else 0
structure Sees (B : Nat) (W : World) (c : Nat) (b : Bool) (A : Option Addr) (cap : Nat) (L : List Wt) : Prop where
  lt : c < B
  hd : W.cell? ⟨c, 2 + ix b, none⟩ = some (.slice A L.length cap)
  le : L.length ≤ cap
  few : L.length ≤ 100000
  row : ∀ i, i < L.length → ∃ g o, A = some ⟨g, o, none⟩ ∧ g < B ∧ W.cell? ⟨g, o + i * 3, none⟩ = some (.int .i64 (L.getD i default).task) ∧ W.cell? ⟨g, o + i * 3 + 1, none⟩ = some (.int .i64 (L.getD i default).case) ∧ W.cell? ⟨g, o + i * 3 + 2, none⟩ = some (.int .i64 (L.getD i default).val)
theorem Sees.below {B : Nat} {W W' : World} {c : Nat} {b : Bool} {A : Option Addr} {cap : Nat} {L : List Wt} (h : Sees B W c b A cap L) (hb : Below B W W') : Sees B W' c b A cap L := by
  refine ⟨h.lt, by rw [← h.hd]; exact hb.cell (p := ⟨_, _, none⟩) h.lt, h.le, h.few, fun i hi => ?_⟩
  obtain ⟨g, o, e, hg, h0, h1, h2⟩ := h.row i hi
  exact ⟨g, o, e, hg, by rw [← h0]; exact hb.cell (p := ⟨_, _, none⟩) hg, by rw [← h1]; exact hb.cell (p := ⟨_, _, none⟩) hg, by rw [← h2]; exact hb.cell (p := ⟨_, _, none⟩) hg⟩
theorem ChAt.sees {lo : Nat} {w : World} {c most : Nat} {Bf : List Int} {R0 R1 : List Wt} (h : ChAt lo w c most Bf R0 R1) (b : Bool) : ∃ A cap, Sees w.heap.size w c b A cap (if b then R1 else R0) := by
  obtain ⟨r, v0, v1, hO, hr, hR, h0, h1, _⟩ := h.obj
  cases b with
  | true =>
    obtain ⟨A, cp, rfl, hle⟩ := h1.form
    refine ⟨A, cp, hO.lt, hO.cell 3, hle, h.few1, fun i hi => ?_⟩
    obtain ⟨g, o, e, _, hg, _, x0, x1, x2⟩ := h1.at hi
    exact ⟨g, o, e, hg, x0, x1, x2⟩
  | false =>
    obtain ⟨A, cp, rfl, hle⟩ := h0.form
    refine ⟨A, cp, hO.lt, hO.cell 2, hle, h.few0, fun i hi => ?_⟩
    obtain ⟨g, o, e, _, hg, _, x0, x1, x2⟩ := h0.at hi
    exact ⟨g, o, e, hg, x0, x1, x2⟩
structure Stays (W : World) (B Bn Bs c : Nat) (b : Bool) (A : Option Addr) (cap : Nat) (L : List Wt) : Prop where
  box : Blk W Bn 42 [.pointer (some ⟨c, 0, none⟩)]
  box2 : Blk W Bs 4 [.bool b]
  sees : Sees B W c b A cap L
section
variable {W W' : World} {B Bn Bs c : Nat} {b : Bool} {A : Option Addr} {cap : Nat} {L : List Wt}
theorem Stays.kept (h : Stays W B Bn Bs c b A cap L) (k : Kp B W W') : Stays W' B Bn Bs c b A cap L := ⟨blk_kt h.box k.2 (by decide), blk_kt h.box2 k.2 (by decide), h.sees.below k.1⟩
theorem Stays.below (h : Stays W B Bn Bs c b A cap L) (hb : Below W.heap.size W W') (hB : B ≤ W.heap.size) : Stays W' B Bn Bs c b A cap L := ⟨h.box.same (hb.block _ h.box.lt), h.box2.same (hb.block _ h.box2.lt), h.sees.below (hb.mono hB)⟩
end
set_option maxHeartbeats 4000000 in
theorem all1_in (n lb B Bn Bs c : Nat) (b : Bool) (A : Option Addr) (cap : Nat) (L : List Wt) (J Jx : List Wt → World → Prop)
    (hJ : ∀ pre W W', J pre W → Below W.heap.size W W' → J pre W')
    (hY : ∀ pre x W, J pre W → pre.length < L.length → pre ++ [x] <+: L → YieldAt Fence.wide (n - 1) Try.prog lb #[x.v] W fun e W' =>
      (e = .returned (.bool true) ∧ J (pre ++ [x]) W' ∧ Kp B W W') ∨ (e = .returned (.bool false) ∧ Jx (pre ++ [x]) W'))
    (W : World) (hB : B ≤ W.heap.size) (hK : Stays W B Bn Bs c b A cap L) (h0 : J [] W) :
    CallsIn Fence.wide n Try.prog 36 #[.func (.yield lb) #[] #[], .pointer (some ⟨Bn, 0, none⟩), .pointer (some ⟨Bs, 0, none⟩)] W fun e W' => (∃ v, e = .returned v) ∧
      ((∃ ys, ys = L ∧ J ys W') ∨ (∃ pre, pre <+: L ∧ Jx pre W')) := by
  refine callsIn_of_wp Try.func36 rfl trivial ?_ rfl
  simp only [Try.ntmps36, List.size_toArray, List.length_cons, List.length_nil, Nat.reduceAdd, Nat.reduceSub, Array.replicate_succ, Array.replicate_zero, List.push_toArray, List.append_toArray, List.nil_append, List.cons_append]
  have hc : W.cell? ⟨Bn, 0, none⟩ = some (.pointer (some ⟨c, 0, none⟩)) := hK.box.cell 0
  have hs : W.cell? ⟨Bs, 0, none⟩ = some (.bool b) := hK.box2.cell 0
  have hd := hK.sees.hd
  have hro : Fence.wide.round = none := rfl
  have hwd : Fence.wide.depth = none := rfl
  have hf : Fence.wide.fn 28 := trivial
  cases b with
  | true =>
    have hd2 : W.cell? ⟨c, 3, none⟩ = some (.slice A L.length cap) := hd
    have hofv : ∀ W, Calls Try.prog 28 #[.bool true] W fun e w' => e = .returned (.int .i64 1) ∧ w' = W := of_at true
    have hb0 : Below W.heap.size W W.drew := bl_drewN (n := 1) (Below.refl _ W)
    have hJ0 := hJ _ _ _ h0 hb0
    have hK0 := hK.below hb0 hB
    have hB0 : B ≤ W.drew.heap.size := hB
    have hle := hK.sees.le
    have hfew := hK.sees.few
    clear hd hb0 h0 hK
    gi_wp2_with (fail)
    gi_region_with (gi_at_call 28; refine (callsIn_wide.2 (hofv _)).mono ?_; rintro e w1 ⟨rfl, rfl⟩)
    all_goals
      clear hc hs hd2 hofv
      gi_wp2
      gi_loopw [15] (fun v wr => ∃ k : Nat, v = .int .i64 (k : Int) ∧ k ≤ L.length ∧ J (L.take k) wr ∧ Stays wr B Bn Bs c true A cap L ∧ B ≤ wr.heap.size)
        (fun v wr => L.length - (intOf v).toNat)
      case atStart => exact ⟨0, rfl, by omega, hJ0, hK0, hB0⟩
      case round =>
        clear hJ0 hK0 hB0 hB
        obtain ⟨k, rfl, hk, hJk, hK, hB⟩ := hrel
        by_cases hlt : k < L.length
        · have hin : (k : Int) < (L.length : Int) := by omega
          obtain ⟨g, o, rfl, hg, e0, e1, e2⟩ := hK.sees.row k hlt
          obtain ⟨x, hx⟩ : ∃ x, x = L.getD k default := ⟨_, rfl⟩
          rw [← hx] at e0 e1 e2
          have htk : L.take (k + 1) = L.take k ++ [x] := by rw [List.take_add_one, List.getElem?_eq_getElem hlt, hx, List.getD_eq_getElem?_getD, List.getElem?_eq_getElem hlt]; rfl
          have hpre : L.take k ++ [x] <+: L := by rw [← htk]; exact List.take_prefix _ _
          have hb0 : Below wr.heap.size wr (wr.alloc (.cells #[.int .i64 x.task, .int .i64 x.case, .int .i64 x.val] 48)) := (Below.refl _ wr).alloc (Nat.le_refl _) _
          have hJ1 := hJ _ _ _ hJk hb0
          have hK1 := hid (hK.below hb0 hB)
          have hB1 := hid (Nat.le_trans hB hb0.size)
          obtain ⟨fn, tmps, assign, body, hyy, hR⟩ := hY (L.take k) x _ hJ1 (by rw [List.length_take]; omega) hpre
          have hR' := hR.mono (R' := fun e W' => ∃ q : Bool, e = .returned (.bool q) ∧ ((q = true ∧ J (L.take (k + 1)) W' ∧ Kp B (wr.alloc (.cells #[.int .i64 x.task, .int .i64 x.case, .int .i64 x.val] 48)) W') ∨ (q = false ∧ Jx (L.take k ++ [x]) W')))
            (fun e W' h => h.elim (fun h => ⟨true, h.1, .inl ⟨rfl, by rw [htk]; exact h.2.1, h.2.2⟩⟩) (fun h => ⟨false, h.1, .inr ⟨rfl, h.2⟩⟩))
          simp only [Wt.v] at hyy
          clear hR hY hJ hx htk hb0 hJk hK hB hJ1
          gi_wp2_with (with_reducible refine hR'.mono ?_; rintro e W3 ⟨q, rfl, hpost⟩)
          all_goals rcases hpost with ⟨rfl, hJ3, hk3⟩ | ⟨rfl, hx3⟩
          · rename_i hq; exact absurd hq (by decide)
          · refine bodyPost_ret (results_none rfl _ _ _) rfl ?_
            exact ⟨⟨_, rfl⟩, .inr ⟨_, hpre, hx3⟩⟩
          · refine ⟨⟨k + 1, by first | rfl | go_num, by omega, hJ3, hK1.out.kept hk3, Nat.le_trans hB1.out hk3.1.size⟩, by simp [intOf]; omega⟩
          · rename_i hq; exact absurd hq (by decide)
        · have hJ3 : J L wr := by
            rw [List.take_of_length_le (by omega)] at hJk
            exact hJk
          gi_wp2
          go_end0
          exact ⟨⟨_, rfl⟩, .inl ⟨_, rfl, hJ3⟩⟩
  | false =>
    have hd2 : W.cell? ⟨c, 2, none⟩ = some (.slice A L.length cap) := hd
    have hofv : ∀ W, Calls Try.prog 28 #[.bool false] W fun e w' => e = .returned (.int .i64 0) ∧ w' = W := of_at false
    have hb0 : Below W.heap.size W W.drew := bl_drewN (n := 1) (Below.refl _ W)
    have hJ0 := hJ _ _ _ h0 hb0
    have hK0 := hK.below hb0 hB
    have hB0 : B ≤ W.drew.heap.size := hB
    have hle := hK.sees.le
    have hfew := hK.sees.few
    clear hd hb0 h0 hK
    gi_wp2_with (fail)
    gi_region_with (gi_at_call 28; refine (callsIn_wide.2 (hofv _)).mono ?_; rintro e w1 ⟨rfl, rfl⟩)
    all_goals
      clear hc hs hd2 hofv
      gi_wp2
      gi_loopw [15] (fun v wr => ∃ k : Nat, v = .int .i64 (k : Int) ∧ k ≤ L.length ∧ J (L.take k) wr ∧ Stays wr B Bn Bs c false A cap L ∧ B ≤ wr.heap.size)
        (fun v wr => L.length - (intOf v).toNat)
      case atStart => exact ⟨0, rfl, by omega, hJ0, hK0, hB0⟩
      case round =>
        clear hJ0 hK0 hB0 hB
        obtain ⟨k, rfl, hk, hJk, hK, hB⟩ := hrel
        by_cases hlt : k < L.length
        · have hin : (k : Int) < (L.length : Int) := by omega
          obtain ⟨g, o, rfl, hg, e0, e1, e2⟩ := hK.sees.row k hlt
          obtain ⟨x, hx⟩ : ∃ x, x = L.getD k default := ⟨_, rfl⟩
          rw [← hx] at e0 e1 e2
          have htk : L.take (k + 1) = L.take k ++ [x] := by rw [List.take_add_one, List.getElem?_eq_getElem hlt, hx, List.getD_eq_getElem?_getD, List.getElem?_eq_getElem hlt]; rfl
          have hpre : L.take k ++ [x] <+: L := by rw [← htk]; exact List.take_prefix _ _
          have hb0 : Below wr.heap.size wr (wr.alloc (.cells #[.int .i64 x.task, .int .i64 x.case, .int .i64 x.val] 48)) := (Below.refl _ wr).alloc (Nat.le_refl _) _
          have hJ1 := hJ _ _ _ hJk hb0
          have hK1 := hid (hK.below hb0 hB)
          have hB1 := hid (Nat.le_trans hB hb0.size)
          obtain ⟨fn, tmps, assign, body, hyy, hR⟩ := hY (L.take k) x _ hJ1 (by rw [List.length_take]; omega) hpre
          have hR' := hR.mono (R' := fun e W' => ∃ q : Bool, e = .returned (.bool q) ∧ ((q = true ∧ J (L.take (k + 1)) W' ∧ Kp B (wr.alloc (.cells #[.int .i64 x.task, .int .i64 x.case, .int .i64 x.val] 48)) W') ∨ (q = false ∧ Jx (L.take k ++ [x]) W')))
            (fun e W' h => h.elim (fun h => ⟨true, h.1, .inl ⟨rfl, by rw [htk]; exact h.2.1, h.2.2⟩⟩) (fun h => ⟨false, h.1, .inr ⟨rfl, h.2⟩⟩))
          simp only [Wt.v] at hyy
          clear hR hY hJ hx htk hb0 hJk hK hB hJ1
          gi_wp2_with (with_reducible refine hR'.mono ?_; rintro e W3 ⟨q, rfl, hpost⟩)
          all_goals rcases hpost with ⟨rfl, hJ3, hk3⟩ | ⟨rfl, hx3⟩
          · rename_i hq; exact absurd hq (by decide)
          · refine bodyPost_ret (results_none rfl _ _ _) rfl ?_
            exact ⟨⟨_, rfl⟩, .inr ⟨_, hpre, hx3⟩⟩
          · refine ⟨⟨k + 1, by first | rfl | go_num, by omega, hJ3, hK1.out.kept hk3, Nat.le_trans hB1.out hk3.1.size⟩, by simp [intOf]; omega⟩
          · rename_i hq; exact absurd hq (by decide)
        · have hJ3 : J L wr := by
            rw [List.take_of_length_le (by omega)] at hJk
            exact hJk
          gi_wp2
          go_end0
          exact ⟨⟨_, rfl⟩, .inl ⟨_, rfl, hJ3⟩⟩
theorem all1_stops (n B Bn Bs c : Nat) (b : Bool) (A : Option Addr) (cap : Nat) (L : List Wt) (w : World) (hB : B ≤ w.heap.size) (hS : Stays w B Bn Bs c b A cap L) :
    SeqStopsK Fence.wide n Try.prog 36 #[.pointer (some ⟨Bn, 0, none⟩), .pointer (some ⟨Bs, 0, none⟩)] (fun x : Wt => #[x.v]) (Kp B) (fun ys => ys = L) (fun pre => pre <+: L) L.length w := fun lb J Jx W hW hJ _ hY h0 =>
  all1_in n lb B Bn Bs c b A cap L J Jx (fun pre W W' h hb => hJ pre W W' none h ⟨hb.os, hb.tape, hb.output, hb.size, fun k hk _ => hb.block k hk⟩ (fun r e => by cases e)) (fun pre x W h hl _ => hY pre x W h hl) W
    (Nat.le_trans hB hW.size) (hS.below hW hB) h0
/-- The same, and each one that is told is known to stand in the row. -/
theorem all1_stopsS (n B Bn Bs c : Nat) (b : Bool) (A : Option Addr) (cap : Nat) (L : List Wt) (w : World) (hB : B ≤ w.heap.size) (hS : Stays w B Bn Bs c b A cap L) :
    SeqStopsK Fence.wide n Try.prog 36 #[.pointer (some ⟨Bn, 0, none⟩), .pointer (some ⟨Bs, 0, none⟩)] (fun x : {x : Wt // x ∈ L} => #[x.1.v]) (Kp B) (fun ys => ys.map (·.1) = L) (fun pre => True) L.length w := fun lb J Jx W hW hJ _ hY h0 =>
  (all1_in n lb B Bn Bs c b A cap L (fun pre W => ∃ q, q.map (·.1) = pre ∧ J q W) (fun pre W => ∃ q, Jx q W) (fun pre W W' h hb => by
      obtain ⟨q, hq, h⟩ := h
      exact ⟨q, hq, hJ q W W' none h ⟨hb.os, hb.tape, hb.output, hb.size, fun k hk _ => hb.block k hk⟩ (fun r e => by cases e)⟩)
    (fun pre x W h hl hp => by
      obtain ⟨q, hq, h⟩ := h
      have hx : x ∈ L := hp.subset (by simp)
      refine (hY q ⟨x, hx⟩ W h (by have := congrArg List.length hq; rw [List.length_map] at this; omega)).mono ?_
      rintro e W' (⟨he, h1, h2⟩ | ⟨he, h1⟩)
      · exact .inl ⟨he, ⟨_, by rw [List.map_append, hq]; rfl, h1⟩, h2⟩
      · exact .inr ⟨he, _, h1⟩) W
    (Nat.le_trans hB hW.size) (hS.below hW hB) ⟨[], rfl, h0⟩).mono fun e W' h => by
      obtain ⟨hv, h⟩ := h
      refine ⟨hv, ?_⟩
      rcases h with ⟨ys, hys, q, hq, h⟩ | ⟨pre, _, q, h⟩
      · exact .inl ⟨q, hq.trans hys, h⟩
      · exact .inr ⟨q, trivial, h⟩
theorem all_in (F : Fence) (n : Nat) (h : F.fn 27) (hro : F.round = none) (c : Nat) (b : Bool) (w : World) :
    CallsIn F n Try.prog 27 #[.pointer (some ⟨c, 0, none⟩), .bool b] w fun e w' => e = .returned (.func (.func 36) #[] #[.pointer (some ⟨w.heap.size, 0, none⟩), .pointer (some ⟨w.heap.size + 1, 0, none⟩)]) ∧ w' = (w.alloc (.cells #[.pointer (some ⟨c, 0, none⟩)] 42)).alloc (.cells #[.bool b] 4) := by
  refine callsIn_of_wp Try.func27 rfl h ?_ hro
  simp only [Try.ntmps27, List.size_toArray, List.length_cons, List.length_nil, Nat.reduceAdd, Nat.reduceSub, Array.replicate_succ, Array.replicate_zero, List.push_toArray, List.append_toArray, List.nil_append, List.cons_append]
  gi_wp2
  refine bodyPost_ret (results_tmp rfl _ _ _) rfl ?_
  exact ⟨rfl, rfl⟩
end Go.Proofs.Ytabcodjalacdjaa.MchanCode
