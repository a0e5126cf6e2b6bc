
/- A scheduler in memory is a row and counts: the contracts of package sched. -/
import Derived.Test.YtmhnfcodppfaiafFifoCopy
namespace Go.Proofs.Ytmhnfcodppfaiaf.SchedCode
open Go Go.RowKit Go.Proofs.Ytmhnfcodppfaiaf.Obj Go.Proofs.Ytmhnfcodppfaiaf.FifoCode
set_option maxRecDepth 100000
set_option linter.unusedVariables false
/-- What a scheduler is, told plainly. -/
structure Sc where
  most : Nat
  made : Nat
  live : Nat
  busy : Nat
  L : List Int
/-- .. as it ought to be. -/
structure Sc.Ok (s : Sc) : Prop where
  most32 : s.most ≤ 32
  made : s.made ≤ s.most
  live : s.live ≤ s.made
  busy : s.busy ≤ 1000
  rng : ∀ x ∈ s.L, 0 ≤ x ∧ x < (s.made : Int)
  nodup : s.L.Nodup
def Sc.new (most : Nat) : Sc := ⟨most, 0, 0, 0, []⟩
def Sc.makeV (s : Sc) : Int := if s.made < s.most then s.made else 0
def Sc.makeC (s : Sc) : Int := if s.made < s.most then 0 else 4
def Sc.make (s : Sc) : Sc := if s.made < s.most then { s with made := s.made + 1, live := s.live + 1, L := s.L ++ [(s.made : Int)] } else s
def Sc.nextV (s : Sc) : Int := match s.L with
  | x :: _ => x
  | [] => 0
def Sc.nextC (s : Sc) : Int := match s.L with
  | _ :: _ => 1
  | [] => if 0 < s.busy then 2 else if s.live = 0 then 3 else 4
def Sc.next (s : Sc) : Sc := match s.L with
  | _ :: r => { s with busy := s.busy + 1, L := r }
  | [] => s
def Sc.pushC (s : Sc) (t : Int) : Int := if t < 0 ∨ t ≥ s.made then 2 else if t ∈ s.L then 9 else 0
def Sc.push (s : Sc) (t : Int) : Sc := if s.pushC t = 0 then { s with L := s.L ++ [t] } else s
def Sc.backC (s : Sc) (t : Int) : Int := if s.busy = 0 then 3 else s.pushC t
def Sc.back (s : Sc) (t : Int) : Sc := if s.busy = 0 then s else if s.pushC t = 0 then { s with busy := s.busy - 1, L := s.L ++ [t] } else s
def Sc.leaveC (s : Sc) : Int := if s.busy = 0 then 3 else 0
def Sc.leave (s : Sc) : Sc := { s with busy := s.busy - 1 }
def Sc.endC (s : Sc) : Int := if s.busy = 0 ∨ s.live = 0 then 3 else 0
def Sc.ended (s : Sc) : Sc := if s.busy = 0 ∨ s.live = 0 then s else { s with busy := s.busy - 1, live := s.live - 1 }
theorem Sc.leave_zero {s : Sc} (h : s.busy = 0) : s.leave = s := by cases s; simp [Sc.leave] at *; omega
theorem few32 : ∀ (m : Nat) (c : List Int), c.Nodup → (∀ x ∈ c, 0 ≤ x ∧ x < (m : Int)) → c.length ≤ m
  | 0, c, _, h => by
    cases c with
    | nil => exact Nat.le_refl _
    | cons a _ => exact absurd (h a (List.mem_cons_self ..)) (by omega)
  | m + 1, c, hn, h => by
    by_cases hm : (m : Int) ∈ c
    · have h1 := few32 m (c.erase m) (hn.erase _) (fun x hx => by
        have := (hn.mem_erase_iff).1 hx
        have := h x this.2
        omega)
      rw [List.length_erase_of_mem hm] at h1
      omega
    · exact Nat.le_succ_of_le (few32 m c hn (fun x hx => by
        have h2 := h x hx
        have : x ≠ (m : Int) := fun e => hm (e ▸ hx)
        omega))
section
variable {s : Sc}
theorem Sc.Ok.len (h : s.Ok) : s.L.length ≤ s.made := few32 _ _ h.nodup h.rng
theorem Sc.Ok.new {most : Nat} (h : most ≤ 32) : (Sc.new most).Ok := ⟨h, Nat.zero_le _, Nat.le_refl _, Nat.zero_le _, fun x hx => absurd hx List.not_mem_nil, List.nodup_nil⟩
theorem snoc_nodup {L : List Int} {k : Int} (h : L.Nodup) (hk : k ∉ L) : (L ++ [k]).Nodup :=
  List.nodup_append.2 ⟨h, List.nodup_cons.2 ⟨List.not_mem_nil, List.nodup_nil⟩, fun a ha b hb e => by rw [List.mem_singleton.1 hb] at e; exact hk (e ▸ ha)⟩
theorem Sc.Ok.fresh (h : s.Ok) : (s.made : Int) ∉ s.L := fun hm => by have := (h.rng _ hm).2; omega
theorem Sc.Ok.make (h : s.Ok) : s.make.Ok := by
  unfold Sc.make
  split
  · refine ⟨h.most32, by simp; omega, by have := h.live; simp; omega, h.busy, fun x hx => ?_, snoc_nodup h.nodup h.fresh⟩
    rcases List.mem_append.1 hx with h1 | h1
    · have := h.rng x h1; simp; omega
    · rw [List.mem_singleton.1 h1]; simp; omega
  · exact h
theorem Sc.Ok.next (h : s.Ok) (hb : s.busy < 1000) : s.next.Ok := by
  cases s with
  | mk most made live busy L =>
    cases L with
    | nil => exact h
    | cons x r => exact ⟨h.most32, h.made, h.live, by simp [Sc.next]; simp at hb; omega, fun y hy => h.rng y (List.mem_cons_of_mem _ hy), (List.nodup_cons.1 h.nodup).2⟩
theorem Sc.push_ok {t : Int} (h : s.pushC t = 0) : 0 ≤ t ∧ t < s.made ∧ t ∉ s.L := by
  unfold Sc.pushC at h
  by_cases h1 : t < 0 ∨ t ≥ s.made
  · rw [if_pos h1] at h; exact absurd h (by decide)
  · by_cases h2 : t ∈ s.L
    · rw [if_neg h1, if_pos h2] at h; exact absurd h (by decide)
    · exact ⟨by omega, by omega, h2⟩
theorem Sc.Ok.snoc (h : s.Ok) {t : Int} (ht : s.pushC t = 0) {b : Nat} (hb : b ≤ 1000) : ({ s with busy := b, L := s.L ++ [t] } : Sc).Ok := by
  obtain ⟨h0, h1, h2⟩ := Sc.push_ok ht
  refine ⟨h.most32, h.made, h.live, hb, fun x hx => ?_, snoc_nodup h.nodup h2⟩
  rcases List.mem_append.1 hx with h3 | h3
  · exact h.rng x h3
  · rw [List.mem_singleton.1 h3]; exact ⟨h0, h1⟩
theorem Sc.Ok.push (h : s.Ok) (t : Int) : (s.push t).Ok := by
  unfold Sc.push
  split
  · rename_i ht; exact h.snoc ht h.busy
  · exact h
theorem Sc.Ok.back (h : s.Ok) (t : Int) : (s.back t).Ok := by
  unfold Sc.back
  split
  · exact h
  · split
    · rename_i ht; exact h.snoc ht (by have := h.busy; omega)
    · exact h
theorem Sc.Ok.leave (h : s.Ok) : s.leave.Ok := ⟨h.most32, h.made, h.live, by have := h.busy; simp [Sc.leave]; omega, h.rng, h.nodup⟩
theorem Sc.Ok.ended (h : s.Ok) : s.ended.Ok := by
  unfold Sc.ended
  split
  · exact h
  · exact ⟨h.most32, h.made, by have := h.live; simp; omega, by have := h.busy; simp; omega, h.rng, h.nodup⟩
end
theorem setO (w : World) (b i : Nat) (v : Value) : Only (· = b) w (w.setCell ⟨b, i, none⟩ v) := Only.setCell _ _ _ rfl
def schedCells (p : Nat) (s : Sc) : List Value := [.pointer (some ⟨p, 0, none⟩), .int .i64 s.most, .int .i64 s.made, .int .i64 s.live, .int .i64 s.busy]
structure SchedAt (w : World) (a p : Nat) (s : Sc) : Prop where
  blk : Blk w a 59 (schedCells p s)
  row : FifoAt w p 32 s.L
  ok : s.Ok
section
variable {w w' : World} {a p : Nat} {s : Sc}
theorem SchedAt.lt (h : SchedAt w a p s) : a < w.heap.size ∧ p < w.heap.size := ⟨h.blk.lt, h.row.lt⟩
theorem SchedAt.only {S : Nat → Prop} (h : SchedAt w a p s) (o : Only S w w') (ha : ¬ S a) (hp : ¬ S p) : SchedAt w' a p s := ⟨h.blk.only o ha, h.row.only o hp, h.ok⟩
theorem SchedAt.below (h : SchedAt w a p s) (hb : Below w.heap.size w w') : SchedAt w' a p s := h.only (Only.none_of_below hb) id id
theorem SchedAt.ne (h : SchedAt w a p s) : a ≠ p := fun e => by
  subst e
  obtain ⟨A, fr, h1, _⟩ := h.row
  have h2 : w.heap[a]? = some (.cells _ 59 (0, 0)) := h.blk
  have h1' : w.heap[a]? = some (.cells _ 71 (0, 0)) := h1
  rw [h2] at h1'
  simp at h1'
theorem only_below {S : Nat → Prop} {w w' : World} (h : Below w.heap.size w w') : Only S w w' := (Only.none_of_below h).mono (fun _ _ h => h.elim)
theorem up {B : Nat} {w W W' : World} {S : Nat → Prop} (hb : Below B w W) (hB : B ≤ w.heap.size) (o : Only S W W') (hs : ∀ k, S k → B ≤ k) : Below B w W' := o.below hb (Nat.le_trans hB hb.size) (fun k _ h => hs k h)
theorem new_sched_out (k : Int) (w : World) (h : k < 1 ∨ k > 32) : Calls Try.prog 7 #[.int .i64 k] w fun e w' => e = .returned (.tuple #[.pointer none, .int .i64 2]) ∧ w' = w := by
  go_enter Try.func7, Try.ntmps7
  rcases h with h | h
  · go_wp2
    go_ret2
    exact ⟨rfl, rfl⟩
  · by_cases h1 : k < 1
    · exact absurd h (by omega)
    · go_wp2
      go_ret2
      exact ⟨rfl, rfl⟩
theorem new_sched (most : Nat) (w : World) (h1 : 1 ≤ most) (h2 : most ≤ 32) : Calls Try.prog 7 #[.int .i64 most] w fun e w' => e = .returned (.tuple #[.pointer (some ⟨w.heap.size + 1, 0, none⟩), .int .i64 0]) ∧ SchedAt w' (w.heap.size + 1) w.heap.size (Sc.new most) ∧ Below w.heap.size w w' := by
  have e1 : ¬ ((most : Int) < 1) := by omega
  have e2 : ¬ ((most : Int) > 32) := by omega
  go_enter Try.func7, Try.ntmps7
  go_wp2_with (fail)
  refine (new_raw 32 w (by decide) (by decide)).mono ?_
  rintro e w1 ⟨rfl, rfl⟩
  go_wp2_with (fail)
  go_ret2
  have hF : FifoAt (w.alloc (.cells (fifoCells (List.replicate 32 0) 0 0 32).toArray 71)) w.heap.size 32 [] := ⟨_, _, Blk.new w 71 (fifoCells (List.replicate 32 0) 0 0 32), FifoSt.new 32 (by decide)⟩
  have hS := Blk.new (w.alloc (.cells (fifoCells (List.replicate 32 0) 0 0 32).toArray 71)) 59 (schedCells w.heap.size (Sc.new most))
  rw [World.size_alloc] at hS
  exact ⟨rfl, ⟨hS, hF.alloc _, Sc.Ok.new h2⟩, ((Below.refl _ w).alloc (Nat.le_refl _) _).alloc (by simp) _⟩
theorem SchedAt.cells (h : SchedAt w a p s) : w.cell? ⟨a, 0, none⟩ = some (.pointer (some ⟨p, 0, none⟩)) ∧ w.cell? ⟨a, 1, none⟩ = some (.int .i64 s.most) ∧ w.cell? ⟨a, 2, none⟩ = some (.int .i64 s.made) ∧ w.cell? ⟨a, 3, none⟩ = some (.int .i64 s.live) ∧ w.cell? ⟨a, 4, none⟩ = some (.int .i64 s.busy) :=
  ⟨h.blk.cell 0, h.blk.cell 1, h.blk.cell 2, h.blk.cell 3, h.blk.cell 4⟩
theorem made_at (h : SchedAt w a p s) : Calls Try.prog 17 #[.pointer (some ⟨a, 0, none⟩)] w fun e w' => e = .returned (.int .i64 s.made) ∧ w' = w := by
  obtain ⟨c0, c1, c2, c3, c4⟩ := h.cells
  clear h
  go_enter Try.func17, Try.ntmps17
  go_wp2
  go_ret
  exact ⟨rfl, rfl⟩
theorem live_at (h : SchedAt w a p s) : Calls Try.prog 16 #[.pointer (some ⟨a, 0, none⟩)] w fun e w' => e = .returned (.int .i64 s.live) ∧ w' = w := by
  obtain ⟨c0, c1, c2, c3, c4⟩ := h.cells
  clear h
  go_enter Try.func16, Try.ntmps16
  go_wp2
  go_ret
  exact ⟨rfl, rfl⟩
theorem busy_at (h : SchedAt w a p s) : Calls Try.prog 15 #[.pointer (some ⟨a, 0, none⟩)] w fun e w' => e = .returned (.int .i64 s.busy) ∧ w' = w := by
  obtain ⟨c0, c1, c2, c3, c4⟩ := h.cells
  clear h
  go_enter Try.func15, Try.ntmps15
  go_wp2
  go_ret
  exact ⟨rfl, rfl⟩
theorem slist_at (h : SchedAt w a p s) : Calls Try.prog 19 #[.pointer (some ⟨a, 0, none⟩)] w fun e w' => ∃ A c, e = .returned (.slice A s.L.length c) ∧ Nums w' .i64 A s.L ∧ Below w.heap.size w w' := by
  obtain ⟨c0, c1, c2, c3, c4⟩ := h.cells
  have hr := list_nums h.row
  clear h
  generalize s.L = L at *
  go_enter Try.func19, Try.ntmps19
  go_wp2_with (fail)
  refine hr.mono ?_
  rintro e w1 ⟨A, c, rfl, hN, hB⟩
  go_wp2_with (fail)
  go_ret
  exact ⟨A, c, rfl, hN, hB⟩
theorem make_full (h : SchedAt w a p s) (hf : ¬ s.made < s.most) : Calls Try.prog 8 #[.pointer (some ⟨a, 0, none⟩)] w fun e w' => e = .returned (.tuple #[.int .i64 0, .int .i64 4]) ∧ ∃ n, w' = w.drewN n := by
  obtain ⟨c0, c1, c2, c3, c4⟩ := h.cells
  have hm := h.ok.made
  have e : s.made = s.most := by omega
  rw [e] at c2
  clear h hf e
  go_enter Try.func8, Try.ntmps8
  go_wp2_with (go_quiet (fail))
  go_ret2
  exact ⟨rfl, _, rfl⟩
set_option maxHeartbeats 1000000 in
theorem make_some (h : SchedAt w a p s) (hf : s.made < s.most) : Calls Try.prog 8 #[.pointer (some ⟨a, 0, none⟩)] w fun e w' => e = .returned (.tuple #[.int .i64 s.made, .int .i64 0]) ∧ SchedAt w' a p { s with made := s.made + 1, live := s.live + 1, L := s.L ++ [(s.made : Int)] } ∧ Only (fun k => k = a ∨ k = p) w w' := by
  have hk := h.ok.make
  unfold Sc.make at hk
  rw [if_pos hf] at hk
  have hne := h.ne
  obtain ⟨c0, c1, c2, c3, c4⟩ := h.cells
  have hm := h.ok.most32
  have hlv := h.ok.live
  have hlen := h.ok.len
  have hfr := h.ok.fresh
  have hge : ¬ ((s.most : Int) ≤ (s.made : Int)) := by omega
  have hal := h.lt.1
  have hfz := h.blk.frozen
  have hH := hid h
  have hkH := hid hk
  clear h hk
  go_enter Try.func8, Try.ntmps8
  go_wp2_with (go_quiet (fail))
  have hB : Blk (((w.drewN nq).setCell ⟨a, 2, none⟩ (.int .i64 ((s.made : Int) + 1))).setCell ⟨a, 3, none⟩ (.int .i64 ((s.live : Int) + 1))) a 59 (schedCells p { s with made := s.made + 1, live := s.live + 1, L := s.L ++ [(s.made : Int)] }) :=
    ((hH.out.blk.same (w' := w.drewN nq) rfl).set 2 _).set 3 _
  have hF : FifoAt (((w.drewN nq).setCell ⟨a, 2, none⟩ (.int .i64 ((s.made : Int) + 1))).setCell ⟨a, 3, none⟩ (.int .i64 ((s.live : Int) + 1))) p 32 s.L := (hH.out.row.same (w' := w.drewN nq) rfl).only (S := (· = a)) ((setO _ a 2 _).trans (setO _ a 3 _)) (fun e => hne e.symm)
  have hO : Only (fun k => k = a ∨ k = p) w (((w.drewN nq).setCell ⟨a, 2, none⟩ (.int .i64 ((s.made : Int) + 1))).setCell ⟨a, 3, none⟩ (.int .i64 ((s.live : Int) + 1))) := ((Only.drewN _ _ _).trans (Only.setCell _ _ _ (.inl rfl))).trans (Only.setCell _ _ _ (.inl rfl))
  clear c0 c1 c2 c3 c4 hfz
  refine (push_at hF (k := (s.made : Int)) (by omega) (by omega) hfr (by omega)).mono ?_
  rintro e w2 ⟨rfl, hF2, o2⟩
  go_wp2_with (fail)
  go_ret2
  exact ⟨rfl, ⟨hB.only o2 hne, hF2, hkH.out⟩, hO.trans (o2.mono (fun _ _ h => .inr h))⟩
theorem make_at (h : SchedAt w a p s) : Calls Try.prog 8 #[.pointer (some ⟨a, 0, none⟩)] w fun e w' => e = .returned (.tuple #[.int .i64 s.makeV, .int .i64 s.makeC]) ∧ SchedAt w' a p s.make ∧ Only (fun k => k = a ∨ k = p) w w' := by
  unfold Sc.makeV Sc.makeC Sc.make
  by_cases hf : s.made < s.most
  · rw [if_pos hf, if_pos hf, if_pos hf]; exact make_some h hf
  · rw [if_neg hf, if_neg hf, if_neg hf]
    refine (make_full h hf).mono ?_
    rintro e w' ⟨rfl, n, rfl⟩
    exact ⟨rfl, ⟨h.blk.same rfl, h.row.same rfl, h.ok⟩, Only.drewN _ _ _⟩
set_option maxHeartbeats 1000000 in
theorem next_some {x : Int} {r : List Int} (h : SchedAt w a p s) (hL : s.L = x :: r) (hb : s.busy < 1000) : Calls Try.prog 9 #[.pointer (some ⟨a, 0, none⟩)] w fun e w' => e = .returned (.tuple #[.int .i64 x, .int .u8 1]) ∧ SchedAt w' a p { s with busy := s.busy + 1, L := r } ∧ Only (fun k => k = a ∨ k = p) w w' := by
  have hk := h.ok.next hb
  unfold Sc.next at hk
  rw [hL] at hk
  have hne := h.ne
  obtain ⟨c0, c1, c2, c3, c4⟩ := h.cells
  have hal := h.lt.1
  have hpl := h.lt.2
  have hfz := h.blk.frozen
  have hF : FifoAt w p 32 (x :: r) := hL ▸ h.row
  have hb1 : (s.busy : Int) ≤ 1000 := by omega
  have hH := hid h
  have hkH := hid hk
  clear h hk hL
  go_enter Try.func9, Try.ntmps9
  go_wp2_with (fail)
  refine (pop_at (hF.alloc _)).mono ?_
  rintro e w2 ⟨rfl, hF2, o2⟩
  have ho : Only (· = p) w w2 := (Only.alloc _ _ _).trans o2
  have hB2 := hH.out.blk.only ho hne
  have d0 := cell_same (a := ⟨a, 0, none⟩) (ho.block a hal hne)
  have d4 := cell_same (a := ⟨a, 4, none⟩) (ho.block a hal hne)
  rw [c0] at d0
  rw [c4] at d4
  have hz2 := hB2.frozen
  have hbx : w2.cell? ⟨w.heap.size, 0, none⟩ = some (.pointer (some ⟨a, 0, none⟩)) := by
    rw [cell_same (w := w.alloc (.cells #[.pointer (some ⟨a, 0, none⟩)] 24)) (o2.block w.heap.size (by simp) (by omega))]
    exact (Blk.new w 24 [.pointer (some ⟨a, 0, none⟩)]).cell 0
  clear c0 c1 c2 c3 c4 hfz hF o2
  go_wp2_with (fail)
  go_ret2
  refine ⟨rfl, ⟨hB2.set 4 _, hF2.only (setO _ a 4 _) (fun e => hne e.symm), hkH.out⟩, (ho.mono (fun _ _ h => .inr h)).trans (Only.setCell _ _ _ (.inl rfl))⟩
theorem none_at (h : SchedAt w a p s) (b : Nat) (hb : w.cell? ⟨b, 0, none⟩ = some (.pointer (some ⟨a, 0, none⟩))) : Calls Try.prog 29 #[.pointer (some ⟨b, 0, none⟩)] w fun e w' => e = .returned (.int .u8 (if 0 < s.busy then 2 else if s.live = 0 then 3 else 4)) ∧ w' = w := by
  obtain ⟨c0, c1, c2, c3, c4⟩ := h.cells
  clear h
  by_cases h1 : 0 < s.busy
  · rw [if_pos h1]
    have h1' : (0 : Int) < (s.busy : Int) := by omega
    go_enter Try.func29, Try.ntmps29
    go_wp2
    go_ret
    exact ⟨rfl, rfl⟩
  · rw [if_neg h1]
    have h1' : s.busy = 0 := by omega
    rw [h1'] at c4
    clear h1 h1'
    by_cases h2 : s.live = 0
    · rw [if_pos h2]
      rw [h2] at c3
      clear h2
      go_enter Try.func29, Try.ntmps29
      go_wp2
      go_ret
      exact ⟨rfl, rfl⟩
    · rw [if_neg h2]
      have h2' : ((s.live : Int) == 0) = false := beq_eq_false_iff_ne.2 (by omega)
      clear h2
      go_enter Try.func29, Try.ntmps29
      go_wp2
      go_ret
      exact ⟨rfl, rfl⟩
theorem next_none (h : SchedAt w a p s) (hL : s.L = []) : Calls Try.prog 9 #[.pointer (some ⟨a, 0, none⟩)] w fun e w' => e = .returned (.tuple #[.int .i64 0, .int .u8 (if 0 < s.busy then 2 else if s.live = 0 then 3 else 4)]) ∧ Below w.heap.size w w' := by
  obtain ⟨c0, c1, c2, c3, c4⟩ := h.cells
  have hF : FifoAt w p 32 [] := hL ▸ h.row
  have hN := none_at (h.below ((Below.refl w.heap.size w).alloc (Nat.le_refl _) (.cells #[.pointer (some ⟨a, 0, none⟩)] 24))) w.heap.size ((Blk.new w 24 [.pointer (some ⟨a, 0, none⟩)]).cell 0)
  generalize (if 0 < s.busy then (2 : Int) else if s.live = 0 then 3 else 4) = cd at *
  have hal := h.lt.1
  clear h hL
  go_enter Try.func9, Try.ntmps9
  go_wp2_with (fail)
  refine (pop_none (hF.alloc _)).mono ?_
  rintro e w2 ⟨rfl, rfl⟩
  go_wp2_with (fail)
  refine hN.mono ?_
  rintro e w3 ⟨rfl, rfl⟩
  go_wp2_with (fail)
  go_ret2
  exact ⟨rfl, (Below.refl _ w).alloc (Nat.le_refl _) _⟩
theorem next_at (h : SchedAt w a p s) (hb : s.busy < 1000) : Calls Try.prog 9 #[.pointer (some ⟨a, 0, none⟩)] w fun e w' => e = .returned (.tuple #[.int .i64 s.nextV, .int .u8 s.nextC]) ∧ SchedAt w' a p s.next ∧ Only (fun k => k = a ∨ k = p) w w' := by
  unfold Sc.nextV Sc.nextC Sc.next
  cases hL : s.L with
  | nil =>
    refine (next_none h hL).mono ?_
    rintro e w' ⟨rfl, hB⟩
    exact ⟨rfl, h.below hB, only_below hB⟩
  | cons x r => exact next_some h hL hb
end
end Go.Proofs.Ytmhnfcodppfaiaf.SchedCode
