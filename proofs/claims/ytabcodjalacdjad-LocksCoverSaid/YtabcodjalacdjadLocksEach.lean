
/- locks.each: what goes over the cases of one site, or of none. -/
import Derived.Test.YtabcodjalacdjadLocksSet
namespace Go.Proofs.Ytabcodjalacdjad.LocksCode
open Go Go.RowKit Go.Shelf Go.Proofs.Ytabcodjalacdjad.Obj Go.Proofs.Ytabcodjalacdjad.Iter Go.Proofs.YtabcodjalacdjadW.PrintWords Go.Proofs.YtabcodjalacdjadW.PrintLast Go.Proofs.YtabcodjalacdjadW.PrintMore
attribute [local go_sem] Oper.semAt_some
set_option linter.unusedVariables false
set_option linter.unusedSimpArgs false
set_option maxRecDepth 100000
/-- A case. -/
structure Cs where
  send : Bool
  ch : Int
  vl : Int
  ok : Int
  wf : (Lit.int .i64 ch).wf = true
instance : Inhabited Cs := ⟨⟨false, 0, 0, 0, by decide⟩⟩
def Cs.val (c : Cs) : Value := .agg #[.bool c.send, .int .i64 c.ch, .int .i64 c.vl, .int .i64 c.ok]
/-- Cases in memory, in blocks below B. -/
def CSl (B : Nat) (w : World) (A : Option Addr) (cs : List Cs) : Prop :=
  ∀ i, i < cs.length → ∃ b o, A = some ⟨b, o, none⟩ ∧ b < B ∧ w.cell? ⟨b, o + i * 4, none⟩ = some (.bool (cs.getD i default).send) ∧ w.cell? ⟨b, o + i * 4 + 1, none⟩ = some (.int .i64 (cs.getD i default).ch) ∧
    w.cell? ⟨b, o + i * 4 + 2, none⟩ = some (.int .i64 (cs.getD i default).vl) ∧ w.cell? ⟨b, o + i * 4 + 3, none⟩ = some (.int .i64 (cs.getD i default).ok)
theorem CSl.below {B : Nat} {w w' : World} {A : Option Addr} {cs : List Cs} (h : CSl B w A cs) (hb : Below B w w') : CSl B w' A cs := fun i hi => by
  obtain ⟨b, o, e, hlt, h0, h1, h2, h3⟩ := h i hi
  exact ⟨b, o, e, hlt, by rw [← h0]; exact hb.cell (p := ⟨_, _, none⟩) hlt, by rw [← h1]; exact hb.cell (p := ⟨_, _, none⟩) hlt, by rw [← h2]; exact hb.cell (p := ⟨_, _, none⟩) hlt, by rw [← h3]; exact hb.cell (p := ⟨_, _, none⟩) hlt⟩
theorem CSl.up {B B' : Nat} {w : World} {A : Option Addr} {cs : List Cs} (h : CSl B w A cs) (hb : B ≤ B') : CSl B' w A cs := fun i hi => by
  obtain ⟨b, o, e, hlt, h⟩ := h i hi
  exact ⟨b, o, e, Nat.lt_of_lt_of_le hlt hb, h⟩
abbrev KT : List TypeId := [49, 24]
def Kp (B : Nat) (W W' : World) : Prop := Below B W W' ∧ Kt KT W W'
theorem Kp_t {B : Nat} {X Y Z : World} (h : Kp B X Y) (k : Kp B Y Z) : Kp B X Z := ⟨h.1.trans k.1, Kt_t h.2 k.2⟩
theorem Kp_b {B : Nat} {w : World} (hn : B ≤ w.heap.size) (W : World) (l : Nat) (o o' : Obj) (hl : w.heap.size ≤ l) (h : W.heap[l]? = some o) (ho : o.isCells = false) (hw : o.isWalk = false) : Kp B W (W.putObj l o') :=
  ⟨belowK_b hn W l o o' hl h ho hw, Kt_b (w := w) W l o o' hl h ho hw⟩
/-- One site. -/
structure Stays (W : World) (B Bn sb : Nat) (A : Option Addr) (cap : Nat) (d : Bool) (cs : List Cs) : Prop where
  box : Blk W Bn 49 [.slice (some ⟨sb, 0, none⟩) 1 1]
  site : Blk W sb 24 [.slice A cs.length cap, .bool d]
  cs : CSl B W A cs
theorem Stays.kept {W W' : World} {B Bn sb : Nat} {A : Option Addr} {cap : Nat} {d : Bool} {cs : List Cs} (h : Stays W B Bn sb A cap d cs) (k : Kp B W W') : Stays W' B Bn sb A cap d cs :=
  ⟨blk_kt h.box k.2 (by decide), blk_kt h.site k.2 (by decide), h.cs.below k.1⟩
theorem Stays.below {W W' : World} {B Bn sb : Nat} {A : Option Addr} {cap : Nat} {d : Bool} {cs : List Cs} (h : Stays W B Bn sb A cap d cs) (hb : Below W.heap.size W W') (hB : B ≤ W.heap.size) : Stays W' B Bn sb A cap d cs :=
  ⟨h.box.same (hb.block _ h.box.lt), h.site.same (hb.block _ h.site.lt), h.cs.below (hb.mono hB)⟩
abbrev KC := Nat × Cs
def kc (cs : List Cs) (i : Nat) : KC := (i, cs.getD i default)
def kcs (cs : List Cs) (n : Nat) : List KC := (List.range n).map (kc cs)
theorem kcs_succ (cs : List Cs) (n : Nat) : kcs cs (n + 1) = kcs cs n ++ [kc cs n] := by simp [kcs, List.range_succ]
theorem kcs_len (cs : List Cs) (n : Nat) : (kcs cs n).length = n := by simp [kcs]
def encK (x : KC) : Array Value := #[.int .i64 (x.1 : Int), x.2.val]
set_option maxHeartbeats 4000000 in
theorem each1_in (n lb B Bn sb : Nat) (A : Option Addr) (cap : Nat) (d : Bool) (cs : List Cs) (hl : cs.length ≤ 1000) (hcap : cs.length ≤ cap) (J Jx : List KC → World → Prop)
    (hJ : ∀ pre W W', J pre W → Below W.heap.size W W' → J pre W')
    (hY : ∀ pre x W, J pre W → pre.length < cs.length → YieldAt Fence.wide (n - 1) Try.prog lb (encK x) W fun e W' =>
      (e = .returned (.bool true) ∧ J (pre ++ [x]) W' ∧ Kp B W W') ∨ (e = .returned (.bool false) ∧ Jx (pre ++ [x]) W'))
    (W : World) (hB : B ≤ W.heap.size) (hK : Stays W B Bn sb A cap d cs) (h0 : J [] W) :
    CallsIn Fence.wide n Try.prog 20 #[.func (.yield lb) #[] #[], .pointer (some ⟨Bn, 0, none⟩)] W fun e W' => (∃ v, e = .returned v) ∧
      ((∃ ys, ys = kcs cs cs.length ∧ J ys W') ∨ (∃ pre, True ∧ Jx pre W')) := by
  refine callsIn_of_wp Try.func20 rfl trivial ?_ rfl
  simp only [Try.ntmps20, List.size_toArray, List.length_cons, List.length_nil, Nat.reduceAdd, Nat.reduceSub, Array.replicate_succ, Array.replicate_zero, List.push_toArray, List.append_toArray, List.nil_append, List.cons_append]
  have hc : W.cell? ⟨Bn, 0, none⟩ = some (.slice (some ⟨sb, 0, none⟩) 1 1) := hK.box.cell 0
  have hro : Fence.wide.round = none := rfl
  have hwd : Fence.wide.depth = none := rfl
  gi_wp2
  gi_loopw [9] (fun v wr => (v = .int .i64 0 ∧ J [] wr ∧ Stays wr B Bn sb A cap d cs ∧ B ≤ wr.heap.size) ∨ (v = .int .i64 1 ∧ J (kcs cs cs.length) wr))
    (fun v wr => 1 - (intOf v).toNat)
  case atStart => exact .inl ⟨rfl, h0, hK, hB⟩
  case round =>
    clear hc h0 hK hB
    rcases hrel with ⟨rfl, hJ0, hK, hB⟩ | ⟨rfl, hJ1⟩
    · have c0 : wr.cell? ⟨sb, 0, none⟩ = some (.slice A cs.length cap) := hK.site.cell 0
      have c1 : wr.cell? ⟨sb, 1, none⟩ = some (.bool d) := hK.site.cell 1
      have hB0 : Below wr.heap.size wr (wr.alloc (.cells #[.slice A cs.length cap, .bool d] 24)) := (Below.refl _ wr).alloc (Nat.le_refl _) _
      have hJ1 := hJ _ _ _ hJ0 hB0
      have hK1 := hK.below hB0 hB
      have hB1 : B ≤ (wr.alloc (.cells #[.slice A cs.length cap, .bool d] 24)).heap.size := Nat.le_trans hB hB0.size
      clear hB0 hJ0 hK hB
      gi_wp2
      clear c0 c1
      gi_loopw [16] (fun v wr => ∃ k : Nat, v = .int .i64 (k : Int) ∧ k ≤ cs.length ∧ J (kcs cs k) wr ∧ Stays wr B Bn sb A cap d cs ∧ B ≤ wr.heap.size)
        (fun v wr => cs.length - (intOf v).toNat)
      case atStart => exact ⟨0, rfl, by omega, hJ1, hK1, hB1⟩
      case round =>
        clear hJ1 hK1 hB1
        obtain ⟨k, rfl, hk, hJk, hK, hB⟩ := hrel
        by_cases hlt : k < cs.length
        · have hin : (k : Int) < (cs.length : Int) := by omega
          obtain ⟨b, o, rfl, hbB, e0, e1, e2, e3⟩ := hK.cs k hlt
          have hkc : kc cs k = (k, cs.getD k default) := rfl
          obtain ⟨x, hx⟩ : ∃ x, x = cs.getD k default := ⟨_, rfl⟩
          rw [← hx] at e0 e1 e2 e3 hkc
          have hB0 : Below wr.heap.size wr (wr.alloc (.cells #[.bool x.send, .int .i64 x.ch, .int .i64 x.vl, .int .i64 x.ok] 32)) := (Below.refl _ wr).alloc (Nat.le_refl _) _
          have hJ1 := hJ _ _ _ hJk hB0
          have hK1 := hK.below hB0 hB
          have hB1 : B ≤ (wr.alloc (.cells #[.bool x.send, .int .i64 x.ch, .int .i64 x.vl, .int .i64 x.ok] 32)).heap.size := Nat.le_trans hB hB0.size
          obtain ⟨fn, tmps, assign, body, hyy, hR⟩ := hY (kcs cs k) (k, x) _ hJ1 (by rw [kcs_len]; exact hlt)
          have hR' := hR.mono (R' := fun e W' => ∃ b : Bool, e = .returned (.bool b) ∧ ((b = true ∧ J (kcs cs (k + 1)) W' ∧ Kp B (wr.alloc (.cells #[.bool x.send, .int .i64 x.ch, .int .i64 x.vl, .int .i64 x.ok] 32)) W') ∨ (b = false ∧ Jx (kcs cs k ++ [(k, x)]) W')))
            (fun e W' h => h.elim (fun h => ⟨true, h.1, .inl ⟨rfl, by rw [kcs_succ, hkc]; exact h.2.1, h.2.2⟩⟩) (fun h => ⟨false, h.1, .inr ⟨rfl, h.2⟩⟩))
          have hK1H := hid hK1
          have hB1H := hid hB1
          simp only [encK, Cs.val] at hyy
          clear hR hY hJ hx hkc hB0 hJk hK hB hJ1 hK1 hB1
          gi_wp2_with (with_reducible refine hR'.mono ?_; rintro e W3 ⟨b, rfl, hpost⟩)
          all_goals rcases hpost with ⟨rfl, hJ3, hk3⟩ | ⟨rfl, hx3⟩
          · rename_i hq; exact absurd hq (by decide)
          · refine bodyPost_ret (results_none rfl _ _ _) rfl ?_
            exact ⟨⟨_, rfl⟩, .inr ⟨_, trivial, hx3⟩⟩
          · refine ⟨⟨k + 1, by first | rfl | go_num, by omega, hJ3, hK1H.out.kept hk3, Nat.le_trans hB1H.out hk3.1.size⟩, by simp [intOf]; omega⟩
          · rename_i hq; exact absurd hq (by decide)
        · gi_wp2
          obtain rfl : k = cs.length := by omega
          exact ⟨.inr ⟨rfl, hJk⟩, by simp [intOf]⟩
    · gi_wp2
      go_end0
      exact ⟨⟨_, rfl⟩, .inl ⟨_, rfl, hJ1⟩⟩
theorem each1_stops (n B Bn sb : Nat) (A : Option Addr) (cap : Nat) (d : Bool) (cs : List Cs) (hl : cs.length ≤ 1000) (hcap : cs.length ≤ cap) (w : World) (hB : B ≤ w.heap.size) (hS : Stays w B Bn sb A cap d cs) :
    SeqStopsK Fence.wide n Try.prog 20 #[.pointer (some ⟨Bn, 0, none⟩)] encK (Kp B) (fun ys => ys = kcs cs cs.length) (fun _ => True) cs.length w := fun lb J Jx W hW hJ _ hY h0 =>
  each1_in n lb B Bn sb A cap d cs hl hcap J Jx (fun pre W W' h hb => hJ pre W W' none h ⟨hb.os, hb.tape, hb.output, hb.size, fun k hk _ => hb.block k hk⟩ (fun r e => by cases e)) hY W
    (Nat.le_trans hB hW.size) (hS.below hW hB) h0
theorem each_in (F : Fence) (n : Nat) (h : F.fn 15) (hro : F.round = none) (v : Value) (A : Option Addr) (m cap : Nat) (hv : v = .slice A m cap) (w : World) :
    CallsIn F n Try.prog 15 #[v] w fun e w' => e = .returned (.func (.func 20) #[] #[.pointer (some ⟨w.heap.size, 0, none⟩)]) ∧ w' = w.alloc (.cells #[v] 49) := by
  subst hv
  refine callsIn_of_wp Try.func15 rfl h ?_ hro
  simp only [Try.ntmps15, List.size_toArray, List.length_cons, List.length_nil, Nat.reduceAdd, Nat.reduceSub, Array.replicate_succ, Array.replicate_zero, List.push_toArray, List.append_toArray, List.nil_append, List.cons_append]
  gi_wp2
  refine bodyPost_ret (results_tmp rfl _ _ _) rfl ?_
  exact ⟨rfl, rfl⟩
/-- No site: nothing comes. -/
theorem none1_in (n lb Bn : Nat) (J Jx : List KC → World → Prop) (W : World) (hb : Blk W Bn 49 [.slice none 0 0]) (h0 : J [] W) :
    CallsIn Fence.wide n Try.prog 20 #[.func (.yield lb) #[] #[], .pointer (some ⟨Bn, 0, none⟩)] W fun e W' => (∃ v, e = .returned v) ∧
      ((∃ ys, ys = [] ∧ J ys W') ∨ (∃ pre, True ∧ Jx pre W')) := by
  refine callsIn_of_wp Try.func20 rfl trivial ?_ rfl
  simp only [Try.ntmps20, List.size_toArray, List.length_cons, List.length_nil, Nat.reduceAdd, Nat.reduceSub, Array.replicate_succ, Array.replicate_zero, List.push_toArray, List.append_toArray, List.nil_append, List.cons_append]
  have hc : W.cell? ⟨Bn, 0, none⟩ = some (.slice none 0 0) := hb.cell 0
  have hro : Fence.wide.round = none := rfl
  have hwd : Fence.wide.depth = none := rfl
  gi_wp2
  gi_loopw [9] (fun v wr => v = .int .i64 0 ∧ J [] wr) (fun v wr => 0)
  case atStart => exact ⟨rfl, h0⟩
  case round =>
    clear hc h0
    obtain ⟨rfl, hJ0⟩ := hrel
    gi_wp2
    go_end0
    exact ⟨⟨_, rfl⟩, .inl ⟨_, rfl, hJ0⟩⟩
theorem none1_stops (n B Bn : Nat) (w : World) (hb : Blk w Bn 49 [.slice none 0 0]) :
    SeqStopsK Fence.wide n Try.prog 20 #[.pointer (some ⟨Bn, 0, none⟩)] encK (Kp B) (fun ys => ys = []) (fun _ => True) 0 w := fun lb J Jx W hW hJ _ hY h0 =>
  none1_in n lb Bn J Jx W (hb.same (hW.block _ hb.lt)) h0
end Go.Proofs.Ytabcodjalacdjad.LocksCode
