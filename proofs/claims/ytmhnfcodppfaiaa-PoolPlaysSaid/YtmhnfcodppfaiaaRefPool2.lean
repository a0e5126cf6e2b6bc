
/- The document's pool: Take, Give, New, List. -/
import Derived.Test.YtmhnfcodppfaiaaRefPool
namespace Go.Proofs.Ytmhnfcodppfaiaa.RefPool
open Go Go.RowKit Go.Proofs.Ytmhnfcodppfaiaa.Obj Go.Proofs.Ytmhnfcodppfaiaa.Row Go.Proofs.YtmhnfcodppfaiaaW.PrintWords Go.Proofs.YtmhnfcodppfaiaaW.PrintMore
open Go.Proofs.Ytmhnfcodppfaiaa.PoolCode (Sg Sg.cells Sg.val Sg.zero)
set_option maxRecDepth 100000
set_option linter.unusedVariables false
theorem take_none {w : World} {B q : Nat} {l : List RS} (h : RAt w B q l []) (t c v u : Int) (s : Bool) :
    Calls Try.prog 16 #[.pointer (some ⟨q,0,none⟩), .agg #[.int .i64 t, .int .i64 c, .bool s, .int .i64 v, .int .u64 u]] w fun e w' => e = .returned (.tuple #[.int .i64 0, .int .i64 4]) ∧ Below w.heap.size w w' := by
  obtain ⟨v0, u0, h1, h2, h3, h4, h5, h6⟩ := h
  obtain ⟨A, cp, rfl⟩ := own_form h3
  have hq := h1.lt
  have c1 : w.cell? ⟨q, 1, none⟩ = some (.slice A 0 cp) := h1.cell 1
  clear h1 h2 h3 h4 h5 h6
  go_enter Try.func16, Try.ntmps16
  go_wp2_with (fail)
  go_ret2
  exact ⟨rfl, (Below.refl _ _).alloc (Nat.le_refl _) _⟩
set_option maxHeartbeats 2000000 in
theorem take_at {w : World} {B q : Nat} {l : List RS} {x : Nat} {r : List Int} (h : RAt w B q l ((x : Int) :: r)) (hl : l.length ≤ 1024) (hr : r.length ≤ 1024) (hx : x < l.length) (t c v u : Int) (s : Bool) :
    Calls Try.prog 16 #[.pointer (some ⟨q,0,none⟩), .agg #[.int .i64 t, .int .i64 c, .bool s, .int .i64 v, .int .u64 u]] w fun e w' => e = .returned (.tuple #[.int .i64 (x : Int), .int .i64 0]) ∧ RAt w' B q (l.set x ⟨true, t, c, s, v, u⟩) r ∧ Only (· = q) w w' := by
  have hR := hid h
  obtain ⟨v0, u0, h1, h2, h3, h4, h5, h6⟩ := h
  obtain ⟨A, cp, rfl⟩ := own_form h3
  have hq := h1.lt
  have hqn : q ≠ w.heap.size := by omega
  have hB : B ≤ w.heap.size := by omega
  obtain ⟨w1, hw1⟩ : ∃ w1, w.alloc (.cells #[.int .i64 t, .int .i64 c, .bool s, .int .i64 v, .int .u64 u] 32) = w1 := ⟨_, rfl⟩
  have o1 : Only (fun _ => False) w w1 := by rw [← hw1]; exact Only.alloc _ _ _
  have b1 : Below w.heap.size w w1 := by rw [← hw1]; exact (Below.refl _ _).alloc (Nat.le_refl _) _
  have bx1 : Blk w1 w.heap.size 32 [.int .i64 t, .int .i64 c, .bool s, .int .i64 v, .int .u64 u] := by rw [← hw1]; exact Blk.new w 32 _
  have bxl := bx1.lt
  have h31 := own_only h3 o1 (fun _ _ => id)
  have hrd := own_reads' h31
  rcases own_cases h31 with ⟨_, h0, _⟩ | ⟨g, rfl, _, hgl, hnc⟩
  · simp at h0
  have hb1 := h1.only o1 id
  have c1 : w1.cell? ⟨q, 1, none⟩ = some (.slice (some ⟨g, 0, none⟩) (r.length + 1) cp) := hb1.cell 1
  have cg : w1.cell? ⟨g, 0, none⟩ = some (.int .i64 x) := by
    obtain ⟨y, k1, k2⟩ := (own_nums h31).cell 0 (by simp)
    cases k1
    exact k2
  have hd := hrd.drop_ 1 (by simp) hnc
  simp only [List.length_cons, Nat.add_sub_cancel, List.drop_succ_cons, List.drop_zero, Option.map_some, addr_add0] at hd hnc
  have hz := hb1.frozen
  have hc0 : 1 ≤ cp := by omega
  have hn0 : ((r.length : Int) + 1 == 0) = false := beq_eq_false_iff_ne.2 (by omega)
  have hs1 : w.heap.size ≤ w1.heap.size := o1.size
  have hq1 : q < w1.heap.size := by omega
  have fin : ∀ w2 u2, Only (fun _ => False) w w2 → w2.ownsRow w.heap.size 3 1 u2 r.length (nums .i64 r) → Blk w2 w.heap.size 32 [.int .i64 t, .int .i64 c, .bool s, .int .i64 v, .int .u64 u] → (∀ i, w2.frozen? ⟨q, i, none⟩ = false) ∧ RAt (w2.setCell ⟨q, 1, none⟩ u2) B q l r ∧ Only (· = q) w (w2.setCell ⟨q, 1, none⟩ u2) ∧ Blk (w2.setCell ⟨q, 1, none⟩ u2) w.heap.size 32 [.int .i64 t, .int .i64 c, .bool s, .int .i64 v, .int .u64 u] := by
    intro w2 u2 o2 ho hbx
    obtain ⟨k1, k2⟩ := RAt.rest hR.out o2 ho hB
    exact ⟨(h1.only o2 id).frozen, k1, k2, hbx.set_other ⟨q, 1, none⟩ u2 (by show w.heap.size ≠ q; omega)⟩
  by_cases hc : cp = 1
  · subst hc
    obtain rfl : r = [] := List.length_eq_zero_iff.1 (by omega)
    obtain ⟨dz, k1, k2, kb⟩ := fin w1 (.slice none 0 0) o1 (own_nil _ _ _ _) bx1
    have e0 := kb.cell 0
    have e1 := kb.cell 1
    have e2 := kb.cell 2
    have e3 := kb.cell 3
    have e4 := kb.cell 4
    clear fin hR h1 h2 h3 h4 h5 o1 bx1 h31 hrd hb1 kb hd
    go_enter Try.func16, Try.ntmps16
    go_wp2_with (fail)
    refine (set_at k1 hl x hx true s t c v u).mono ?_
    rintro e w3 ⟨⟨y, rfl⟩, k3, o3⟩
    clear k1 dz e0 e1 e2 e3 e4
    go_wp2
    go_ret2
    exact ⟨rfl, k3, k2.trans o3⟩
  · simp only [if_neg hc] at hd
    have key : ∀ (u2 : Value) (w2 : World), w2.ownsRow w.heap.size 3 1 u2 ([] ++ r).length (nums .i64 ([] ++ r)) → w1.grownBy w2 (Value.slice none 0 0).ownBlock → (∃ A2 c2, u2 = .slice A2 r.length c2) ∧ w2.cell? ⟨q, 1, none⟩ = some (.slice (some ⟨g, 0, none⟩) (r.length + 1) cp) ∧ (∀ i, w2.frozen? ⟨q, i, none⟩ = false) ∧ RAt (w2.setCell ⟨q, 1, none⟩ u2) B q l r ∧ Only (· = q) w (w2.setCell ⟨q, 1, none⟩ u2) ∧ (w2.setCell ⟨q, 1, none⟩ u2).cell? ⟨w.heap.size, 0, none⟩ = some (.int .i64 t) ∧ (w2.setCell ⟨q, 1, none⟩ u2).cell? ⟨w.heap.size, 1, none⟩ = some (.int .i64 c) ∧ (w2.setCell ⟨q, 1, none⟩ u2).cell? ⟨w.heap.size, 2, none⟩ = some (.bool s) ∧ (w2.setCell ⟨q, 1, none⟩ u2).cell? ⟨w.heap.size, 3, none⟩ = some (.int .i64 v) ∧ (w2.setCell ⟨q, 1, none⟩ u2).cell? ⟨w.heap.size, 4, none⟩ = some (.int .u64 u) := by
      intro u2 w2 ho hgr
      have o2 : Only (fun _ => False) w1 w2 := (Only.of_grown hgr).mono (fun k _ e => by cases e)
      obtain ⟨k1, k2, k3, k4⟩ := fin w2 u2 (o1.trans o2) ho (bx1.only o2 id)
      exact ⟨own_form ho, (hb1.only o2 id).cell 1, k1, k2, k3, k4.cell 0, k4.cell 1, k4.cell 2, k4.cell 3, k4.cell 4⟩
    clear fin hR h1 h2 h3 h4 h5 o1 bx1 h31 hrd hb1
    go_enter Try.func16, Try.ntmps16
    go_wp2_with (first | ((with_reducible refine gate_builtin (b := .append) (xs := #[.const (Value.slice none 0 0), .tmp 24]) rfl ?_); at_builtin; go_loud (refine print_append_row (w0 := w) w.heap.size rfl (.const (Value.slice none 0 0)) (.tmp 24) 42 3 .i64 8 rfl Try.underlying42 info3' (by decide) (.slice none 0 0) [] r (some ⟨g, 1, none⟩) r.length (cp - 1) rfl rfl (own_nil _ _ _ _) hd b1 hs1 (by simp; omega) ?_); intro u2 w2 ho hb2 hgr hat; obtain ⟨⟨A2, c2, rfl⟩, d1, dz, k1, k2, e0, e1, e2, e3, e4⟩ := key u2 w2 ho hgr))
    refine (set_at k1 hl x hx true s t c v u).mono ?_
    rintro e w3 ⟨⟨y, rfl⟩, k3, o3⟩
    clear key k1 dz d1 e0 e1 e2 e3 e4 hd
    go_wp2
    go_ret2
    exact ⟨rfl, k3, k2.trans o3⟩
theorem give_not {w : World} {B q : Nat} {l : List RS} {ch : List Int} (h : RAt w B q l ch) (k : Int) (hk : k < 0 ∨ k ≥ l.length ∨ ∃ (i : Nat) (y : RS), k = (i : Int) ∧ l[i]? = some y ∧ y.is = false) : Calls Try.prog 17 #[.pointer (some ⟨q,0,none⟩), .int .i64 k] w fun e w' => e = .returned (.int .i64 3) ∧ Below w.heap.size w w' := by
  have H : Calls Try.prog 19 #[.pointer (some ⟨q,0,none⟩), .int .i64 k] w fun e w' => (∃ t c s v u, e = .returned (.tuple #[.agg #[.int .i64 t, .int .i64 c, .bool s, .int .i64 v, .int .u64 u], .bool false])) ∧ Below w.heap.size w w' := by
    rcases hk with hk | hk | ⟨i, y, rfl, hy, hb⟩
    · refine (of_out h k (.inl hk)).mono ?_
      rintro e w' ⟨rfl, hb⟩; exact ⟨⟨_, _, _, _, _, rfl⟩, hb⟩
    · refine (of_out h k (.inr hk)).mono ?_
      rintro e w' ⟨rfl, hb⟩; exact ⟨⟨_, _, _, _, _, rfl⟩, hb⟩
    · refine (of_at h i y hy).mono ?_
      rintro e w' ⟨rfl, hb'⟩; rw [hb]; exact ⟨⟨_, _, _, _, _, rfl⟩, hb'⟩
  clear h hk
  go_enter Try.func17, Try.ntmps17
  go_wp2_with (fail)
  refine H.mono ?_
  rintro e w1 ⟨⟨t, c, s, v, u, rfl⟩, hb⟩
  go_wp2
  go_ret
  exact ⟨rfl, hb.alloc hb.size _⟩
set_option maxHeartbeats 2000000 in
theorem give_at {w : World} {B q : Nat} {l : List RS} {ch : List Int} (h : RAt w B q l ch) (hl : l.length ≤ 1024) (hch : ch.length ≤ 1024) (i : Nat) (y : RS) (hy : l[i]? = some y) (hb : y.is = true) : Calls Try.prog 17 #[.pointer (some ⟨q,0,none⟩), .int .i64 (i : Int)] w fun e w' => e = .returned (.int .i64 0) ∧ RAt w' B q (l.set i ⟨false, Sg.zero⟩) ((i : Int) :: ch) ∧ Only (· = q) w w' := by
  have hi := (List.getElem?_eq_some_iff.1 hy).1
  have H := of_at h i y hy
  rw [hb] at H
  obtain ⟨yb, yt, yc, ys, yv, yu⟩ := y
  go_enter Try.func17, Try.ntmps17
  go_wp2_with (fail)
  refine H.mono ?_
  rintro e w1 ⟨rfl, hb1⟩
  have h1 := h.below hb1
  simp only [Sg.val]
  clear H
  obtain ⟨w2, hw2⟩ : ∃ w2, w1.alloc (.cells #[.int .i64 yt, .int .i64 yc, .bool ys, .int .i64 yv, .int .u64 yu] 32) = w2 := ⟨_, rfl⟩
  have hb2 : Below w.heap.size w w2 := by rw [← hw2]; exact hb1.alloc hb1.size _
  have h2 : RAt w2 B q l ch := h.below hb2
  clear h1
  go_wp2_with (fail)
  refine (set_at h2 hl i hi false false 0 0 0 0).mono ?_
  rintro e w3 ⟨⟨z, rfl⟩, h3, o3⟩
  have o30 : Only (· = q) w w3 := (Only.none_of_below hb2 |>.mono (fun _ _ => False.elim)).trans o3
  clear h2 hw2 o3 hb2 hb1 h
  have hR := hid h3
  obtain ⟨v0, u0, k1, k2, k3, k4, k5, k6⟩ := h3
  obtain ⟨A, cp, rfl⟩ := own_form k3
  have hq := k1.lt
  have hB : B ≤ w3.heap.size := by omega
  obtain ⟨w4, hw4⟩ : ∃ w4, w3.alloc (.cells #[.int .i64 (i : Int)] 3) = w4 := ⟨_, rfl⟩
  have o4 : Only (fun _ => False) w3 w4 := by rw [← hw4]; exact Only.alloc _ _ _
  have b4 : Below w3.heap.size w3 w4 := by rw [← hw4]; exact (Below.refl _ _).alloc (Nat.le_refl _) _
  have ho4 : w4.ownsRow w3.heap.size 3 1 (.slice (some ⟨w3.heap.size, 0, none⟩) 1 1) [(i : Int)].length (nums .i64 [(i : Int)]) := by
    rw [← hw4]
    exact ⟨rfl, .inr ⟨w3.heap.size, 1, #[.int .i64 (i : Int)], rfl, Nat.le_refl _, heap_alloc_new w3 _, Nat.le_refl _, by simp [maxLen], rfl, rfl⟩⟩
  have hs4 : w3.heap.size ≤ w4.heap.size := o4.size
  have hr4 := own_reads' (own_only k3 o4 (fun _ _ => id))
  have c1 : w4.cell? ⟨q, 1, none⟩ = some (.slice A ch.length cp) := (k1.only o4 id).cell 1
  have hq4 : q < w4.heap.size := by omega
  have key : ∀ (u2 : Value) (w5 : World), w5.ownsRow w3.heap.size 3 1 u2 ([(i : Int)] ++ ch).length (nums .i64 ([(i : Int)] ++ ch)) → Below w3.heap.size w3 w5 → (∃ A2 c2, u2 = .slice A2 ([(i : Int)] ++ ch).length c2) ∧ w5.cell? ⟨q, 1, none⟩ = some (.slice A ch.length cp) ∧ (∀ i, w5.frozen? ⟨q, i, none⟩ = false) ∧ RAt (w5.setCell ⟨q, 1, none⟩ u2) B q (l.set i ⟨false, 0, 0, false, 0, 0⟩) ((i : Int) :: ch) ∧ Only (· = q) w3 (w5.setCell ⟨q, 1, none⟩ u2) := by
    intro u2 w5 ho hb5
    have o5 := Only.none_of_below hb5
    obtain ⟨j1, j2⟩ := RAt.rest (ch' := (i : Int) :: ch) hR.out o5 ho hB
    exact ⟨own_form ho, (k1.only o5 id).cell 1, (k1.only o5 id).frozen, j1, j2⟩
  clear hR k1 k2 k3 k4 k5 o4
  go_wp2_with (first | ((with_reducible refine gate_builtin (b := .append) (xs := #[.tmp 21, .tmp 25]) rfl ?_); at_builtin; go_loud (refine print_append_row (w0 := w3) w3.heap.size rfl (.tmp 21) (.tmp 25) 42 3 .i64 8 rfl Try.underlying42 info3' (by decide) (.slice (some ⟨w3.heap.size, 0, none⟩) 1 1) [(i : Int)] ch A ch.length cp rfl rfl ho4 hr4 b4 hs4 (by simp; omega) ?_); intro u2 w5 ho hb5 hgr hat; obtain ⟨⟨A2, c2, rfl⟩, d1, dz, j1, j2⟩ := key u2 w5 ho hb5))
  go_ret
  exact ⟨rfl, j1, o30.trans j2⟩
end Go.Proofs.Ytmhnfcodppfaiaa.RefPool
