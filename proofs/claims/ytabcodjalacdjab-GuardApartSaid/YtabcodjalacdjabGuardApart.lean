
/- The law GuardApart. -/
import Derived.Test.YtabcodjalacdjabGuardSeen
import Derived.Test.YtabcodjalacdjabGuardRounds
namespace Go.Proofs.Ytabcodjalacdjab.GuardCode
open Go Go.RowKit Go.Proofs.Ytabcodjalacdjab.Obj Go.Proofs.Ytabcodjalacdjab.Row Go.Proofs.Ytabcodjalacdjab.CellCode Go.Proofs.Ytabcodjalacdjab.TicketCode Go.Proofs.Ytabcodjalacdjab.GuardLocks Go.Proofs.YtabcodjalacdjabW.PrintWords Go.Proofs.YtabcodjalacdjabW.PrintMore
set_option linter.unusedVariables false
set_option maxRecDepth 100000
section
variable {w w' : World} {g x c lb : Nat} {s : Gs} {L : List Nat} {N : Nat} {A : Option Addr} {r r' D G : List Int} {ps : List Nat} {ss : List Gs}
def ptrs (ps : List Nat) : List Value := ps.map fun p => .pointer (some ⟨p, 0, none⟩)
theorem psl_of_own {base m cap : Nat} (h : w.ownsRow base 29 1 (.slice A m cap) ps.length (ptrs ps)) : PSl w A ps := by
  rcases h.2 with ⟨hv, h0⟩ | ⟨gb, cp, cur, hv, hg, hh, _, _, _, hc⟩
  · simp only [Value.slice.injEq] at hv
    obtain ⟨rfl, _, _⟩ := hv
    refine ⟨fun i p hp => ?_, fun a e => by cases e⟩
    have h1 := (List.getElem?_eq_some_iff.mp hp).1
    omega
  · simp only [Value.slice.injEq] at hv
    obtain ⟨rfl, rfl, rfl⟩ := hv
    refine ⟨fun i p hp => ⟨gb, 0, rfl, ?_⟩, fun a e => by cases e; exact ⟨_, hh⟩⟩
    have h1 := (List.getElem?_eq_some_iff.mp hp).1
    have e2 : cur[i]? = some (.pointer (some ⟨p, 0, none⟩)) := by
      have : (cur.toList.take (ps.length * 1))[i]? = (ptrs ps)[i]? := by rw [hc]
      rw [List.getElem?_take_of_lt (by omega), ptrs, List.getElem?_map, hp] at this
      rw [← Array.getElem?_toList, this]; rfl
    rw [Nat.zero_add, ← e2]
    unfold World.cell?
    simp [hh]
theorem Many.nil (h : TAt w x c lb L N) (hs : Sm L N) : Many w x c lb [] [] L N :=
  ⟨h, rfl, fun i p hp => by simp at hp, List.nodup_nil, hs, fun i hi => by simp at hi⟩
theorem Many.push (h : Many w x c lb ps ss L N) (hg : GAt w g x s) (hn : g ∉ ps) (hr : Rise s.row) : Many w x c lb (ps ++ [g]) (ss ++ [s]) L N := by
  refine ⟨h.t, by simp [h.len], fun i p hp => ?_, ?_, h.sm, fun i hi => ?_⟩
  · rcases Nat.lt_or_ge i ps.length with h1 | h1
    · rw [List.getElem?_append_left h1] at hp
      rw [List.getD_eq_getElem?_getD, List.getElem?_append_left (by rw [← h.len]; exact h1), ← List.getD_eq_getElem?_getD]
      exact h.g i p hp
    · rw [List.getElem?_append_right h1] at hp
      rw [List.getD_eq_getElem?_getD, List.getElem?_append_right (by rw [← h.len]; exact h1), ← h.len]
      obtain ⟨h2, h3⟩ := List.getElem?_eq_some_iff.mp hp
      simp only [List.length_singleton] at h2
      rw [show i - ps.length = 0 by omega] at hp ⊢
      simp at hp
      subst hp
      exact hg
  · rw [List.nodup_append]
    exact ⟨h.nd, by simp, fun a ha b hb => by rw [List.mem_singleton.mp hb]; rintro rfl; exact hn ha⟩
  · rcases Nat.lt_or_ge i ss.length with h1 | h1
    · rw [List.getD_eq_getElem?_getD, List.getElem?_append_left h1, ← List.getD_eq_getElem?_getD]
      exact h.rise i h1
    · rw [List.length_append, List.length_singleton] at hi
      rw [List.getD_eq_getElem?_getD, List.getElem?_append_right h1, show i - ss.length = 0 by omega]
      exact hr
theorem Many.fresh (h : Many w x c lb ps ss L N) : w.heap.size ∉ ps := by
  intro hm
  obtain ⟨i, hi, e⟩ := List.mem_iff_getElem.mp hm
  have := (h.g i ps[i] (List.getElem?_eq_getElem hi)).lt
  omega
/-- An argument's number, by its place. -/
theorem ints_get {len cap : Nat} {a : Option Addr} {zs : List Int} (h : Obj.Ints .u8 w a len cap zs) {i : Nat} (hi : i < len) : ∃ b o, a = some ⟨b, o, none⟩ ∧ b < w.heap.size ∧ w.cell? ⟨b, o + i, none⟩ = some (.int .u8 (((zs.getD i 0).toNat : Nat) : Int)) ∧ (zs.getD i 0).toNat < 256 := by
  rcases h with ⟨_, h0, _⟩ | ⟨⟨b, o, sp⟩, rfl, h1, _, h3, h4, h5⟩
  · omega
  · have h6 := h4 i (by omega)
    have hs0 := h4 0 (by omega)
    have hs := cell_spot hs0
    have hb := cell_lt hs0
    simp only [Addr.add, if_true] at hs hb
    subst hs
    have hm : zs.getD i 0 ∈ zs := by rw [List.getD_eq_getElem?_getD, List.getElem?_eq_getElem (by omega)]; exact List.getElem_mem _
    obtain ⟨z0, z1⟩ := u8_of (h5 _ hm)
    refine ⟨b, o, rfl, hb, ?_, by omega⟩
    rw [show (((zs.getD i 0).toNat : Nat) : Int) = zs.getD i 0 by omega, ← h6]
    unfold Addr.add
    split
    · rename_i e; rw [e, Nat.add_zero]
    · rfl
/-- What the guards want. -/
def wants (zs : List Int) (i : Nat) : List Int := locksL (zs.getD i 0).toNat 6
def fresh (zs : List Int) (n : Nat) : List Gs := (List.range n).map fun i => ⟨wants zs i, 0, 0, false⟩
theorem ptr_info : (Try.prog.info? 29).map (fun i => (i.zero, i.size, i.bytes)) = some (some (.pointer none), 1, 8) := by kernel_rfl
theorem ptrs_app (ps : List Nat) (g : Nat) : ptrs (ps ++ [g]) = ptrs ps ++ [.pointer (some ⟨g, 0, none⟩)] := by simp [ptrs]
theorem fresh_more (zs : List Int) (n : Nat) : fresh zs (n + 1) = fresh zs n ++ [⟨wants zs n, 0, 0, false⟩] := by simp [fresh, List.range_succ]
theorem wants_rise (zs : List Int) (i : Nat) (h : (zs.getD i 0).toNat < 256) : Rise (wants zs i) := by
  have := List.all_eq_true.mp (show ((List.range 256).all fun b => (List.range (locksL b 6).length).all fun i => decide (lastOf (locksL b 6) i < (locksL b 6).getD i 0) && decide ((locksL b 6).getD i 0 < 6)) = true by kernel_rfl) _ (List.mem_range.mpr h)
  intro j hj
  have h2 := List.all_eq_true.mp this j (List.mem_range.mpr hj)
  simp only [Bool.and_eq_true, decide_eq_true_eq] at h2
  exact h2
theorem own_typ {base n : Nat} {v : Value} {xs : List Value} (h : w.ownsRow base 29 1 v n xs) {k : Nat} (hk : v.ownBlock = some k) : ∃ cur, w.heap[k]? = some (.cells cur 29 (0, 0)) := by
  rcases h.2 with ⟨rfl, _⟩ | ⟨g, cap, cur, rfl, hg, hh, _⟩
  · cases hk
  · have : g = k := by simpa [Value.ownBlock] using hk
    subst this
    exact ⟨cur, hh⟩
theorem typ_ne {k p : Nat} {t : TypeId} {vs : List Value} {us : Array Value} (h : Blk w p t vs) (e : w.heap[k]? = some (.cells us 29 (0, 0))) (ht : t ≠ 29) : ¬ k = p := by
  rintro rfl
  have := h.symm.trans e
  simp at this
  exact ht this.2
/-- A slice of guards that grows leaves the guards as they are. -/
theorem Many.onlyT {S : Nat → Prop} (h : Many w x c lb ps ss L N) (o : Only S w w') (hS : ∀ k, S k → ∃ us, w.heap[k]? = some (.cells us 29 (0, 0))) : Many w' x c lb ps ss L N := by
  have hn : ∀ p t vs, Blk w p t vs → t ≠ 29 → ¬ S p := fun p t vs hB ht hs => by
    obtain ⟨us, e⟩ := hS p hs
    exact typ_ne hB e ht rfl
  refine ⟨h.t.only o (hn _ _ _ h.t.cells.obj (by decide)) (hn _ _ _ h.t.cells.row (by decide)) (hn _ _ _ h.t.obj (by decide)), h.len, fun j p hp => ?_, h.nd, h.sm, h.rise⟩
  obtain ⟨A0, c0, hO, _⟩ := (h.g j p hp).obj
  refine (h.g j p hp).only o (hn _ _ _ hO (by decide)) (fun k hk vs e => ?_)
  obtain ⟨us, e2⟩ := hS k hk
  rw [e2] at e
  simp at e
end
end Go.Proofs.Ytabcodjalacdjab.GuardCode
