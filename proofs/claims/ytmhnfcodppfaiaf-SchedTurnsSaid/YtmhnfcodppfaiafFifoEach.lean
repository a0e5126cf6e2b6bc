
/- fifo.each goes over the row; At and List over it. -/
import Derived.Test.YtmhnfcodppfaiafFifo
import Derived.Test.YtmhnfcodppfaiafMeth
namespace Go.Proofs.Ytmhnfcodppfaiaf.FifoCode
open Go Go.RowKit Go.Shelf Go.Proofs.Ytmhnfcodppfaiaf.Obj Go.Proofs.Ytmhnfcodppfaiaf.Iter Go.Proofs.Ytmhnfcodppfaiaf.Meth Go.Proofs.YtmhnfcodppfaiafW.PrintWords Go.Proofs.YtmhnfcodppfaiafW.PrintLast Go.Proofs.YtmhnfcodppfaiafW.PrintMore
attribute [local go_sem] Oper.semAt_some
set_option linter.unusedVariables false
set_option maxRecDepth 100000
section
variable {w w' : World} {p most : Nat} {L : List Int}
theorem FifoAt.lt (h : FifoAt w p most L) : p < w.heap.size := by obtain ⟨A, fr, h1, _⟩ := h; exact h1.lt
theorem FifoAt.most32 (h : FifoAt w p most L) : most ≤ 32 := by obtain ⟨A, fr, _, h2⟩ := h; exact h2.most32
theorem FifoAt.fit (h : FifoAt w p most L) : L.length ≤ most := by obtain ⟨A, fr, _, h2⟩ := h; exact h2.fit
theorem FifoAt.same (h : FifoAt w p most L) (e : w'.heap[p]? = w.heap[p]?) : FifoAt w' p most L := by obtain ⟨A, fr, h1, h2⟩ := h; exact ⟨A, fr, h1.same e, h2⟩
theorem FifoAt.only {S : Nat → Prop} (h : FifoAt w p most L) (o : Only S w w') (hs : ¬ S p) : FifoAt w' p most L := h.same (o.block p h.lt hs)
theorem FifoAt.alloc (h : FifoAt w p most L) (o : Obj) : FifoAt (w.alloc o) p most L := h.same (Below.heap_alloc _ _ _ h.lt)
end
/-- The first k of a row, each with its place. -/
def upto (L : List Int) (k : Nat) : List (Nat × Int) := (List.range k).map (fun i => (i, L.getD i 0))
theorem upto_succ (L : List Int) (k : Nat) : upto L (k + 1) = upto L k ++ [(k, L.getD k 0)] := by simp [upto, List.range_succ]
theorem upto_len (L : List Int) (k : Nat) : (upto L k).length = k := by simp [upto]
theorem upto_vals (L : List Int) : (upto L L.length).map (·.2) = L := by
  apply List.ext_getElem?
  intro i
  simp only [upto, List.map_map, List.getElem?_map]
  by_cases h : i < L.length
  · rw [List.getElem?_range h]; simp [List.getD, List.getElem?_eq_getElem h]
  · rw [List.getElem?_eq_none (by simp; omega), List.getElem?_eq_none (by omega)]; rfl
/-- Block p stands as it stood. -/
def Kb1 (p : Nat) (W W' : World) : Prop := W'.heap[p]? = W.heap[p]?
theorem Kb1_t {p : Nat} {A B C : World} (h : Kb1 p A B) (k : Kb1 p B C) : Kb1 p A C := Eq.trans k h
theorem Kb1_b {p : Nat} {w : World} (hp : p < w.heap.size) (W : World) (l : Nat) (o o' : Obj) (hl : w.heap.size ≤ l) (h : W.heap[l]? = some o) (_ : o.isCells = false) (_ : o.isWalk = false) : Kb1 p W (W.putObj l o') := by
  have hlt := heap_lt h
  exact (grownBy_putObj' W l o').block p (by omega) (by simp; omega)
set_option maxHeartbeats 1000000 in
theorem each_in (n lb p most : Nat) (L : List Int) (J Jx : List (Nat × Int) → World → Prop)
    (hJ : ∀ pre W m, J pre W → J pre (W.drewN m))
    (hY : ∀ pre x W, J pre W → pre.length < L.length → YieldAt Fence.wide (n - 1) Try.prog lb #[.int .i64 (x.1 : Nat), .int .i64 x.2] W fun e W' =>
      (e = .returned (.bool true) ∧ J (pre ++ [x]) W' ∧ Kb1 p W W') ∨ (e = .returned (.bool false) ∧ Jx (pre ++ [x]) W'))
    (W : World) (hK : FifoAt W p most L) (h0 : J [] W) :
    CallsIn Fence.wide n Try.prog 39 #[.pointer (some ⟨p, 0, none⟩), .func (.yield lb) #[] #[]] W fun e W' => (∃ v, e = .returned v) ∧
      ((∃ ys, ys = upto L L.length ∧ J ys W') ∨ (∃ pre, (∃ k, k ≤ L.length ∧ pre = upto L k) ∧ Jx pre W')) := by
  refine callsIn_of_wp Try.func39 rfl trivial ?_ rfl
  simp only [Try.ntmps39, List.size_toArray, List.length_cons, List.length_nil, Nat.reduceAdd, Nat.reduceSub, Array.replicate_succ, Array.replicate_zero, List.push_toArray, List.append_toArray, List.nil_append, List.cons_append]
  have hro : Fence.wide.round = none := rfl
  have hf1 : Fence.wide.fn 38 := trivial
  have hwd : Fence.wide.depth = none := rfl
  obtain ⟨A, fr, h1, h2⟩ := hK
  obtain ⟨c32, c33, c34⟩ := fc32 h1 h2.len
  have hL : L.length ≤ 32 := by have := h2.fit; have := h2.most32; omega
  gi_wp2
  clear c32 c33 c34
  have hK : FifoAt W p most L := ⟨A, fr, h1, h2⟩
  clear h1 h2
  gi_loopw [9] (fun v wr => ∃ k : Nat, k ≤ L.length ∧ v = .int .i64 k ∧ J (upto L k) wr ∧ FifoAt wr p most L) (fun v wr => L.length - (intOf v).toNat)
  case atStart => exact ⟨0, by omega, rfl, h0, hK⟩
  case round =>
    clear h0 hK
    obtain ⟨k, hk, rfl, hJs, hS⟩ := hrel
    by_cases hlt : k < L.length
    · have hin : (k : Int) < (L.length : Int) := by omega
      obtain ⟨A, fr, h1, h2⟩ := id hS
      obtain ⟨c32, c33, c34⟩ := fc32 h1 h2.len
      have hfr := h2.frl
      have hi8 : (fr + k) % 32 < 32 := Nat.mod_lt _ (by omega)
      have e8 : (((fr + k) % 32 : Nat) : Int) = ((fr : Int) + k) % 32 := by omega
      have hi8' : ((fr : Int) + k) % 32 < 32 := by omega
      have hi0' : 0 ≤ ((fr : Int) + k) % 32 := by omega
      obtain ⟨x, hx⟩ : ∃ x, L[k]? = some x := ⟨_, List.getElem?_eq_getElem hlt⟩
      have cx := fcA h1 _ x ((h2.get k hlt).trans hx)
      have cx2 : wr.cell? ⟨p, (((fr : Int) + k) % 32).toNat, none⟩ = some (.int .i64 x) := by rw [← e8, Int.toNat_natCast]; exact cx
      have hxd : L.getD k 0 = x := by simp [List.getD, hx]
      have htkH := hid (upto_succ L k)
      rw [hxd] at htkH
      clear e8 hx hxd h1 h2
      obtain ⟨fn, tmps, assign, body, hyy, hR⟩ := hY (upto L k) (k, x) wr.drew (hJ _ wr 1 hJs) (by rw [upto_len]; omega)
      have hR' := hR.mono (R' := fun e W' => ∃ b : Bool, e = .returned (.bool b) ∧ ((b = true ∧ J (upto L k ++ [(k, x)]) W' ∧ Kb1 p wr.drew W') ∨ (b = false ∧ Jx (upto L k ++ [(k, x)]) W')))
          (fun e W' h => h.elim (fun h => ⟨true, h.1, .inl ⟨rfl, h.2⟩⟩) (fun h => ⟨false, h.1, .inr ⟨rfl, h.2⟩⟩))
      clear hR
      gi_wp2_with (fail)
      gi_region_with (first | (gi_at_call 38; (refine (callsIn_wide.2 (place_raw p fr k _ (by omega) (by omega) (by go_simp))).mono ?_); (rintro e w1 ⟨rfl, rfl⟩)) | (with_reducible refine hR'.mono ?_; rintro e W3 ⟨b, rfl, hpost⟩))
      all_goals
        rcases hpost with ⟨rfl, hJ3, hk3⟩ | ⟨rfl, hx3⟩
        · have hS3 : FifoAt W3 p most L := hS.same hk3
          rw [← htkH.out] at hJ3
          clear hS hk3 hJs c32 c33 c34 cx cx2 hR' hyy
          gi_wp2
          go_roundw
          case rel => exact ⟨k + 1, by omega, by go_num, hJ3, hS3⟩
          case measure => simp [intOf]; omega
        · clear hS hJs c32 c33 c34 cx cx2 hR' hyy
          gi_wp2
          refine bodyPost_ret (results_none rfl _ _ _) rfl ?_
          exact ⟨⟨_, rfl⟩, .inr ⟨_, ⟨k + 1, hlt, htkH.out.symm⟩, hx3⟩⟩
    · have hJ3 : J (upto L L.length) wr := by
        obtain rfl : k = L.length := by omega
        exact hJs
      gi_wp2
      go_end0
      exact ⟨⟨_, rfl⟩, .inl ⟨_, rfl, hJ3⟩⟩
theorem each_seq (n p most : Nat) (L : List Int) (w : World) (hS : FifoAt w p most L) :
    SeqM Fence.wide n Try.prog 39 #[.pointer (some ⟨p, 0, none⟩)] #[] (fun x : Nat × Int => #[Value.int .i64 (x.1 : Nat), .int .i64 x.2]) (Kb1 p) (fun ys => ys = upto L L.length) (fun pre => ∃ k, k ≤ L.length ∧ pre = upto L k) L.length w := fun lb J Jx W hW hJ _ hY h0 =>
  each_in n lb p most L J Jx (fun pre W m h => hJ pre W (W.drewN m) none h ⟨rfl, rfl, rfl, Nat.le_refl _, fun _ _ _ => rfl⟩ (fun r e => by cases e)) hY W (hS.same (hW.block _ hS.lt)) h0
end Go.Proofs.Ytmhnfcodppfaiaf.FifoCode
