
/- The document's pool: a block of two rows of its own. -/
import Derived.Test.YtmhnfcodppfaiaaPoolNil
import Derived.Test.YtmhnfcodppfaiaaRow
namespace Go.Proofs.Ytmhnfcodppfaiaa.RefPool
open Go Go.RowKit Go.Proofs.Ytmhnfcodppfaiaa.Obj Go.Proofs.Ytmhnfcodppfaiaa.Row Go.Proofs.YtmhnfcodppfaiaaW.PrintWords Go.Proofs.YtmhnfcodppfaiaaW.PrintMore
open Go.Proofs.Ytmhnfcodppfaiaa.PoolCode (Sg Sg.cells Sg.val Sg.zero)
set_option maxRecDepth 100000
set_option linter.unusedVariables false
/-- What one has. -/
structure RS where
  (is : Bool) (x : Sg)
def RS.cells (y : RS) : List Value := [.bool y.is, .int .i64 y.x.t, .int .i64 y.x.c, .bool y.x.s, .int .i64 y.x.v, .int .u64 y.x.u]
def row : List RS → List Value
  | [] => []
  | y :: l => y.cells ++ row l
theorem row_len : ∀ l : List RS, (row l).length = l.length * 6
  | [] => rfl
  | y :: l => by rw [row, List.length_append, row_len l]; simp only [RS.cells, List.length_cons, List.length_nil]; omega
theorem row_append : ∀ l r : List RS, row (l ++ r) = row l ++ row r
  | [], _ => rfl
  | y :: l, r => by rw [List.cons_append, row, row_append l r, row, List.append_assoc]
theorem row_at (l : List RS) (pad : List Value) (i j : Nat) (y : RS) (h : l[i]? = some y) (hj : j < 6) : (row l ++ pad)[i * 6 + j]? = y.cells[j]? := by
  obtain ⟨hi, rfl⟩ := List.getElem?_eq_some_iff.1 h
  have e : l = l.take i ++ (l[i] :: l.drop (i + 1)) := by rw [← List.drop_eq_getElem_cons hi, List.take_append_drop]
  have e2 : row l = row (l.take i) ++ ((l[i]).cells ++ row (l.drop (i + 1))) := by
    conv => lhs; rw [e]
    rw [row_append, row]
  rw [e2, List.append_assoc, List.getElem?_append_right (by rw [row_len, List.length_take]; omega), row_len, List.length_take, Nat.min_eq_left (by omega), Nat.add_sub_cancel_left, List.append_assoc, List.getElem?_append_left (by simpa [RS.cells] using hj)]
theorem row_set (l : List RS) (pad : List Value) (i : Nat) (y : RS) (h : i < l.length) : row (l.set i y) ++ pad = (row l ++ pad).take (i * 6) ++ y.cells ++ (row l ++ pad).drop (i * 6 + 6) := by
  have e : l = l.take i ++ (l[i] :: l.drop (i + 1)) := by rw [← List.drop_eq_getElem_cons h, List.take_append_drop]
  have e2 : row l = row (l.take i) ++ ((l[i]).cells ++ row (l.drop (i + 1))) := by
    conv => lhs; rw [e]
    rw [row_append, row]
  have e3 : row (l.set i y) = row (l.take i) ++ (y.cells ++ row (l.drop (i + 1))) := by
    rw [List.set_eq_take_append_cons_drop, if_pos h, row_append, row]
  have n1 : (row (l.take i)).length = i * 6 := by rw [row_len, List.length_take, Nat.min_eq_left (by omega)]
  rw [e3, e2]
  simp only [List.append_assoc]
  rw [List.take_left' n1, List.drop_append, n1, List.drop_of_length_le (by omega : (row (l.take i)).length ≤ i * 6 + 6), Nat.add_sub_cancel_left]
  simp [RS.cells]
theorem cells_one (y : RS) : ∀ u ∈ y.cells, u.oneCell' = true := by
  intro u hu
  simp only [RS.cells, List.mem_cons, List.not_mem_nil, or_false] at hu
  rcases hu with rfl | rfl | rfl | rfl | rfl | rfl <;> rfl
theorem row_one : ∀ (l : List RS), ∀ u ∈ row l, u.oneCell' = true
  | [], u, h => by cases h
  | y :: l, u, h => by
    rw [row, List.mem_append] at h
    rcases h with h | h
    · exact cells_one y u h
    · exact row_one l u h
theorem info63 : (Try.prog.info? 63).map (fun i => (i.zero, i.size, i.bytes)) = some (some (.agg #[.bool false, .int .i64 0, .int .i64 0, .bool false, .int .i64 0, .int .u64 0]), 6, 48) := by kernel_rfl
theorem info3' : (Try.prog.info? 3).map (fun i => (i.zero, i.size, i.bytes)) = some (some (.int .i64 0), 1, 8) := by kernel_rfl
/-- A row of slots of its own. -/
def SRow (w : World) (B : Nat) (v : Value) (l : List RS) : Prop := w.ownsRow B 63 6 v l.length (row l)
theorem SRow.form {w : World} {B : Nat} {v : Value} {l : List RS} (h : SRow w B v l) : ∃ A c, v = .slice A l.length c := own_form h
theorem SRow.some {w : World} {B : Nat} {A : Option Addr} {n c : Nat} {l : List RS} (h : SRow w B (.slice A n c) l) (hl : 0 < l.length) : ∃ g, A = some ⟨g, 0, none⟩ ∧ B ≤ g ∧ g < w.heap.size ∧ (∀ (i j : Nat) (y : RS), l[i]? = some y → j < 6 → w.cell? ⟨g, i * 6 + j, none⟩ = y.cells[j]?) ∧ (∀ i, w.frozen? ⟨g, i, none⟩ = false) := by
  rcases h.2 with ⟨_, h0⟩ | ⟨g, cp, cur, hv, hg, hh, hcp, _, hsz, htk⟩
  · exact absurd h0 (by omega)
  cases hv
  have hcur : cur.toList = row l ++ cur.toList.drop (l.length * 6) := by rw [← htk, List.take_append_drop]
  refine ⟨g, rfl, hg, Obj.heap_lt hh, fun i j y hy hj => ?_, fun i => PoolCode.frozen_of hh⟩
  rw [PoolCode.cell_of hh, ← Array.getElem?_toList, hcur, row_at l _ i j y hy hj]
theorem SRow.set {w : World} {B g c n : Nat} {l : List RS} (h : SRow w B (.slice (Option.some ⟨g, 0, none⟩) n c) l) (i : Nat) (hi : i < l.length) (y : RS) : SRow (w.setCells g (i * 6) y.cells) B (.slice (Option.some ⟨g, 0, none⟩) n c) (l.set i y) := by
  rcases h.2 with ⟨_, h0⟩ | ⟨g', cp, cur, hv, hg, hh, hcp, hmx, hsz, htk⟩
  · exact absurd h0 (by omega)
  cases hv
  have hcur : cur.toList = row l ++ cur.toList.drop (l.length * 6) := by rw [← htk, List.take_append_drop]
  have hle : l.length * 6 ≤ c * 6 := Nat.mul_le_mul_right _ hcp
  obtain ⟨C', h3, h4, h5⟩ := setCells_row y.cells (i * 6) w cur hh (by simp only [RS.cells, List.length_cons, List.length_nil]; omega)
  refine ⟨by rw [row_len], .inr ⟨g, c, C', by rw [List.length_set], hg, h3, by rw [List.length_set]; exact hcp, hmx, by rw [h4]; exact hsz, ?_⟩⟩
  rw [h5, hcur, List.length_set]
  have e := (row_set l (cur.toList.drop (l.length * 6)) i y hi).symm
  refine (congrArg _ e).trans ?_
  exact List.take_left' (by rw [row_len, List.length_set])
theorem own_lower {w : World} {B B' e size n : Nat} {v : Value} {xs : List Value} (h : w.ownsRow B e size v n xs) (hb : B' ≤ B) : w.ownsRow B' e size v n xs := by
  refine ⟨h.1, ?_⟩
  rcases h.2 with h2 | ⟨g, cap, cur, hv, hg, r⟩
  · exact .inl h2
  · exact .inr ⟨g, cap, cur, hv, Nat.le_trans hb hg, r⟩
/-- The document's pool in memory. -/
structure RAt (w : World) (B q : Nat) (l : List RS) (ch : List Int) : Prop where
  row : ∃ v u, Blk w q 60 [v, u] ∧ SRow w B v l ∧ w.ownsRow B 3 1 u ch.length (nums .i64 ch) ∧ v.ownBlock ≠ some q ∧ u.ownBlock ≠ some q ∧ B ≤ q
theorem RAt.lt {w : World} {B q : Nat} {l : List RS} {ch : List Int} (h : RAt w B q l ch) : q < w.heap.size := by obtain ⟨v, u, h1, _⟩ := h; exact h1.lt
theorem RAt.only {w w' : World} {B q : Nat} {l : List RS} {ch : List Int} {S : Nat → Prop} (h : RAt w B q l ch) (o : Only S w w') (hs : ∀ k, B ≤ k → k < w.heap.size → ¬ S k) : RAt w' B q l ch := by
  obtain ⟨v, u, h1, h2, h3, h4, h5, h6⟩ := h
  exact ⟨v, u, h1.only o (hs q h6 h1.lt), own_only h2 o (fun k hk => hs k (own_block_ge h2 hk).1 (own_block_ge h2 hk).2), own_only h3 o (fun k hk => hs k (own_block_ge h3 hk).1 (own_block_ge h3 hk).2), h4, h5, h6⟩
theorem RAt.below {w w' : World} {B q : Nat} {l : List RS} {ch : List Int} (h : RAt w B q l ch) (hb : Below w.heap.size w w') : RAt w' B q l ch :=
  h.only (Only.none_of_below hb) (fun _ _ _ => id)
/-- Its slots are others. -/
theorem RAt.slots {w w1 : World} {B q : Nat} {l l' : List RS} {ch : List Int} {v : Value} (h : RAt w B q l ch) (o : Only (fun _ => False) w w1) (hs : SRow w1 w.heap.size v l') (hB : B ≤ w.heap.size) : RAt (w1.setCell ⟨q, 0, none⟩ v) B q l' ch ∧ Only (· = q) w (w1.setCell ⟨q, 0, none⟩ v) := by
  obtain ⟨v0, u, h1, h2, h3, h4, h5, h6⟩ := h
  have hq := h1.lt
  have o1 : Only (· = q) w w1 := o.mono (fun _ _ => False.elim)
  refine ⟨⟨v, u, (h1.only o id).set 0 v, ?_, ?_, ?_, h5, h6⟩, o1.trans (Only.setCell _ _ _ rfl)⟩
  · refine own_only (own_lower hs hB) (Only.setCell (S := (· = q)) w1 ⟨q, 0, none⟩ v rfl) (fun k hk e => ?_)
    have := (own_block_ge hs hk).1
    omega
  · refine own_only (own_only h3 o (fun _ _ => id)) (Only.setCell (S := (· = q)) w1 ⟨q, 0, none⟩ v rfl) (fun k hk e => ?_)
    rw [e] at hk
    exact h5 hk
  · intro e
    have := (own_block_ge hs e).1
    omega
/-- Those that are free are others. -/
theorem RAt.rest {w w1 : World} {B q : Nat} {l : List RS} {ch ch' : List Int} {u : Value} (h : RAt w B q l ch) (o : Only (fun _ => False) w w1) (hs : w1.ownsRow w.heap.size 3 1 u ch'.length (nums .i64 ch')) (hB : B ≤ w.heap.size) : RAt (w1.setCell ⟨q, 1, none⟩ u) B q l ch' ∧ Only (· = q) w (w1.setCell ⟨q, 1, none⟩ u) := by
  obtain ⟨v, u0, h1, h2, h3, h4, h5, h6⟩ := h
  have hq := h1.lt
  have o1 : Only (· = q) w w1 := o.mono (fun _ _ => False.elim)
  refine ⟨⟨v, u, (h1.only o id).set 1 u, ?_, ?_, h4, ?_, h6⟩, o1.trans (Only.setCell _ _ _ rfl)⟩
  · refine own_only (own_only h2 o (fun _ _ => id)) (Only.setCell (S := (· = q)) w1 ⟨q, 1, none⟩ u rfl) (fun k hk e => ?_)
    rw [e] at hk
    exact h4 hk
  · refine own_only (own_lower hs hB) (Only.setCell (S := (· = q)) w1 ⟨q, 1, none⟩ u rfl) (fun k hk e => ?_)
    have := (own_block_ge hs hk).1
    omega
  · intro e
    have := (own_block_ge hs e).1
    omega
theorem only_setCells (w : World) (g o : Nat) (vs : List Value) : Only (· = g) w (w.setCells g o vs) := by
  have hs := setCells_same g vs o w
  exact ⟨hs.1, hs.2.1, hs.2.2.1, Nat.le_of_eq hs.2.2.2.symm, fun k _ hk => setCells_far _ _ _ hk⟩
theorem six {y : RS} {w : World} {q i : Nat} (h : ∀ j, j < 6 → w.cell? ⟨q, i * 6 + j, none⟩ = y.cells[j]?) :
    w.cell? ⟨q, i * 6, none⟩ = some (.bool y.is) ∧ w.cell? ⟨q, i * 6 + 1, none⟩ = some (.int .i64 y.x.t) ∧ w.cell? ⟨q, i * 6 + 2, none⟩ = some (.int .i64 y.x.c) ∧ w.cell? ⟨q, i * 6 + 3, none⟩ = some (.bool y.x.s) ∧ w.cell? ⟨q, i * 6 + 4, none⟩ = some (.int .i64 y.x.v) ∧ w.cell? ⟨q, i * 6 + 5, none⟩ = some (.int .u64 y.x.u) :=
  ⟨h 0 (by decide), h 1 (by decide), h 2 (by decide), h 3 (by decide), h 4 (by decide), h 5 (by decide)⟩
theorem sixb {w : World} {q t : Nat} {a b c d e f : Value} (h : Blk w q t [a, b, c, d, e, f]) :
    w.cell? ⟨q, 0, none⟩ = some a ∧ w.cell? ⟨q, 1, none⟩ = some b ∧ w.cell? ⟨q, 2, none⟩ = some c ∧ w.cell? ⟨q, 3, none⟩ = some d ∧ w.cell? ⟨q, 4, none⟩ = some e ∧ w.cell? ⟨q, 5, none⟩ = some f :=
  ⟨h.cell 0, h.cell 1, h.cell 2, h.cell 3, h.cell 4, h.cell 5⟩
set_option maxHeartbeats 1000000 in
theorem set_at {w : World} {B q : Nat} {l : List RS} {ch : List Int} (h : RAt w B q l ch) (hl : l.length ≤ 1024) (i : Nat) (hi : i < l.length) (b s : Bool) (t c v u : Int) :
    Calls Try.prog 23 #[.pointer (some ⟨q,0,none⟩), .int .i64 (i : Int), .agg #[.bool b, .int .i64 t, .int .i64 c, .bool s, .int .i64 v, .int .u64 u]] w fun e w' => (∃ x, e = .returned x) ∧ RAt w' B q (l.set i ⟨b, t, c, s, v, u⟩) ch ∧ Only (· = q) w w' := by
  have hR := h
  obtain ⟨v0, u0, h1, h2, h3, h4, h5, h6⟩ := h
  obtain ⟨A, cp, rfl⟩ := h2.form
  obtain ⟨g, rfl, hg, hgl, hat, hfz⟩ := h2.some (by omega)
  have c0 : w.cell? ⟨q, 0, none⟩ = some (.slice (some ⟨g, 0, none⟩) l.length cp) := h1.cell 0
  have hq := h1.lt
  obtain ⟨i0, hi0, hz0, hz1, hz2⟩ := info_parts info63
  obtain ⟨y0, hy0⟩ : ∃ y, l[i]? = some y := ⟨_, List.getElem?_eq_getElem hi⟩
  have hB : B ≤ w.heap.size := by omega
  have hw1 : ∃ w1, w.alloc (.cells #[.bool b, .int .i64 t, .int .i64 c, .bool s, .int .i64 v, .int .u64 u] 63) = w1 := ⟨_, rfl⟩
  obtain ⟨w1, hw1⟩ := hw1
  have o1 : Only (fun _ => False) w w1 := by rw [← hw1]; exact Only.alloc _ _ _
  have hN : ∀ (j : Nat) (x : Value), (row l)[j]? = some x → w1.cell? ((⟨g, 0, none⟩ : Addr).add j) = some x := by
    intro j x hj
    have e2 : ((⟨g, 0, none⟩ : Addr).add j) = ⟨g, j, none⟩ := by simp [Addr.add]; intro h; exact h.symm
    rw [e2]
    have hjl := (List.getElem?_eq_some_iff.1 hj).1
    rw [row_len] at hjl
    have e3 : j = (j / 6) * 6 + j % 6 := by omega
    obtain ⟨y, hy⟩ : ∃ y, l[j / 6]? = some y := ⟨_, List.getElem?_eq_getElem (by omega)⟩
    have k1 := hat (j / 6) (j % 6) y hy (by omega)
    have k2 := row_at l [] (j / 6) (j % 6) y hy (by omega)
    rw [List.append_nil, ← e3, hj] at k2
    rw [← e3, ← k2] at k1
    rw [cell_same (a := ⟨g, j, none⟩) (o1.block g hgl id)]
    exact k1
  have hm1 : 0 + l.length ≤ maxLen := by simp only [maxLen]; omega
  have hm2 : (0 + l.length) * 48 ≤ 140737488355328 := by omega
  have hm3 : w.heap.size ≤ w1.heap.size := o1.size
  have c01 : w1.cell? ⟨q, 0, none⟩ = some (.slice (some ⟨g, 0, none⟩) l.length cp) := (h1.only o1 id).cell 0
  have bx1 : Blk w1 w.heap.size 63 [.bool b, .int .i64 t, .int .i64 c, .bool s, .int .i64 v, .int .u64 u] := by rw [← hw1]; exact Blk.new w 63 _
  have key : ∀ (v2 : Value) (w2 : World), w2.ownsRow w.heap.size 63 6 v2 l.length (row l) → w1.grownBy w2 (Value.slice none 0 0).ownBlock → ∃ g2 cp2, v2 = .slice (some ⟨g2, 0, none⟩) l.length cp2 ∧ Only (fun _ => False) w1 w2 ∧ w.heap.size ≤ g2 ∧ g2 ≠ q ∧ q ≠ g2 ∧ SRow w2 w.heap.size (.slice (some ⟨g2, 0, none⟩) l.length cp2) l ∧
      (w2.cell? ⟨g2, i * 6, none⟩ = some (.bool y0.is) ∧ w2.cell? ⟨g2, i * 6 + 1, none⟩ = some (.int .i64 y0.x.t) ∧ w2.cell? ⟨g2, i * 6 + 2, none⟩ = some (.int .i64 y0.x.c) ∧ w2.cell? ⟨g2, i * 6 + 3, none⟩ = some (.bool y0.x.s) ∧ w2.cell? ⟨g2, i * 6 + 4, none⟩ = some (.int .i64 y0.x.v) ∧ w2.cell? ⟨g2, i * 6 + 5, none⟩ = some (.int .u64 y0.x.u)) ∧
      (w2.cell? ⟨w.heap.size, 0, none⟩ = some (.bool b) ∧ w2.cell? ⟨w.heap.size, 1, none⟩ = some (.int .i64 t) ∧ w2.cell? ⟨w.heap.size, 2, none⟩ = some (.int .i64 c) ∧ w2.cell? ⟨w.heap.size, 3, none⟩ = some (.bool s) ∧ w2.cell? ⟨w.heap.size, 4, none⟩ = some (.int .i64 v) ∧ w2.cell? ⟨w.heap.size, 5, none⟩ = some (.int .u64 u)) ∧
      w2.cell? ⟨q, 0, none⟩ = some (.slice (some ⟨g, 0, none⟩) l.length cp) ∧ (∀ i, w2.frozen? ⟨q, i, none⟩ = false) ∧ (∀ i, w2.frozen? ⟨g2, i, none⟩ = false) := by
    intro v2 w2 ho hgr
    have o2 : Only (fun _ => False) w1 w2 := (Only.of_grown hgr).mono (fun k _ e => by cases e)
    obtain ⟨A2, cp2, rfl⟩ := SRow.form ho
    obtain ⟨g2, rfl, hg2, hgl2, hat3, hfz2⟩ := SRow.some ho (by omega)
    have hb2 := (h1.only o1 id).only o2 id
    exact ⟨g2, cp2, rfl, o2, hg2, by omega, by omega, ho, six (hat3 i · y0 hy0), sixb (bx1.only o2 id), hb2.cell 0, hb2.frozen, hfz2⟩
  clear bx1 hat
  go_enter Try.func23, Try.ntmps23
  go_wp2_with (first | ((with_reducible refine gate_builtin (b := .append) (xs := #[.const (Value.slice none 0 0), .tmp 10]) rfl ?_); at_builtin; go_loud (refine wpList_append_own_at w1 rfl (.const (Value.slice none 0 0)) (.tmp 10) 58 rfl w.heap.size 63 i0 (.agg #[.bool false, .int .i64 0, .int .i64 0, .bool false, .int .i64 0, .int .u64 0]) 6 48 Try.underlying58 hi0 hz0 hz1 hz2 rfl (by decide) (.slice none 0 0) 0 [] rfl (own_nil _ _ _ _) ⟨g, 0, none⟩ l.length cp (row l) rfl (row_len l) hN (row_one l) hm1 hm2 hm3 ?_); intro v2 w2 ho hgr hnil hat2; rw [Nat.zero_add] at ho; obtain ⟨g2, cp2, rfl, o2, hg2, hne, hne', hsr, ⟨d0, d1, d2, d3, d4, d5⟩, ⟨b0, b1, b2, b3, b4, b5⟩, c02, hz2, hfz2⟩ := key v2 w2 ho hgr))
  go_end0
  refine ⟨⟨_, rfl⟩, ?_⟩
  have hs := SRow.set hsr i hi ⟨b, t, c, s, v, u⟩
  simp only [RS.cells, World.setCells, Nat.add_assoc, Nat.reduceAdd] at hs
  have hO := only_setCells w2 g2 (i * 6) (RS.cells ⟨b, t, c, s, v, u⟩)
  simp only [RS.cells, World.setCells, Nat.add_assoc, Nat.reduceAdd] at hO
  refine RAt.slots hR ?_ hs hB
  refine (o1.trans o2).trans' (T := (· = g2)) ?_ (fun k hk e => by omega)
  exact hO
theorem of_out {w : World} {B q : Nat} {l : List RS} {ch : List Int} (h : RAt w B q l ch) (k : Int) (hk : k < 0 ∨ k ≥ l.length) : Calls Try.prog 19 #[.pointer (some ⟨q,0,none⟩), .int .i64 k] w fun e w' => e = .returned (.tuple #[.agg #[.int .i64 0, .int .i64 0, .bool false, .int .i64 0, .int .u64 0], .bool false]) ∧ Below w.heap.size w w' := by
  obtain ⟨v0, u0, h1, h2, h3, h4, h5, h6⟩ := h
  obtain ⟨A, cp, rfl⟩ := h2.form
  have c0 : w.cell? ⟨q, 0, none⟩ = some (.slice A l.length cp) := h1.cell 0
  have hq := h1.lt
  clear h1 h2 h3 h4 h5 h6
  go_enter Try.func19, Try.ntmps19
  rcases hk with hk | hk
  · go_wp2_with (go_quiet (fail))
    refine bodyPost_ret (v := .tuple #[.agg #[.int .i64 0, .int .i64 0, .bool false, .int .i64 0, .int .u64 0], .bool false]) (by rw [results_cell_tmp rfl]; go_simp) rfl ?_
    exact ⟨rfl, (Below.refl _ _).alloc (Nat.le_refl _) _⟩
  · by_cases h0 : k < 0
    · exact absurd hk (by omega)
    · go_wp2_with (go_quiet (fail))
      refine bodyPost_ret (v := .tuple #[.agg #[.int .i64 0, .int .i64 0, .bool false, .int .i64 0, .int .u64 0], .bool false]) (by rw [results_cell_tmp rfl]; go_simp) rfl ?_
      exact ⟨rfl, (Below.refl _ _).alloc (Nat.le_refl _) _⟩
set_option maxHeartbeats 4000000 in
theorem of_raw (p q l cp i : Nat) (x1 x2 x4 x5 : Int) (b x3 : Bool) (w : World) (hp : p < w.heap.size) (hq : q < w.heap.size) (hil : i < l) (h0 : w.cell? ⟨p, 0, none⟩ = some (.slice (some ⟨q,0,none⟩) l cp)) 
   (h30 : w.cell? ⟨q, i * 6, none⟩ = some (.bool b)) (h31 : w.cell? ⟨q, i * 6 + 1, none⟩ = some (.int .i64 x1)) (h32 : w.cell? ⟨q, i * 6 + 2, none⟩ = some (.int .i64 x2)) (h33 : w.cell? ⟨q, i * 6 + 3, none⟩ = some (.bool x3)) (h34 : w.cell? ⟨q, i * 6 + 4, none⟩ = some (.int .i64 x4)) (h35 : w.cell? ⟨q, i * 6 + 5, none⟩ = some (.int .u64 x5)) :
   Calls Try.prog 19 #[.pointer (some ⟨p,0,none⟩), .int .i64 (i : Int)] w fun e w' => e = .returned (.tuple #[.agg #[.int .i64 x1, .int .i64 x2, .bool x3, .int .i64 x4, .int .u64 x5], .bool b]) ∧ w' = (w.alloc (.cells #[.int .i64 x1, .int .i64 x2, .bool x3, .int .i64 x4, .int .u64 x5] 32)).drew := by
  have LD : (loadVar 32 ⟨w.heap.size, 0, none⟩).run Try.prog (w.alloc (.cells #[.int .i64 x1, .int .i64 x2, .bool x3, .int .i64 x4, .int .u64 x5] 32)).drew = .ok (.agg #[.int .i64 x1, .int .i64 x2, .bool x3, .int .i64 x4, .int .u64 x5]) (w.alloc (.cells #[.int .i64 x1, .int .i64 x2, .bool x3, .int .i64 x4, .int .u64 x5] 32)).drew := by go_simp
  go_enter Try.func19, Try.ntmps19
  go_wp2_with (go_quiet (fail))
  go_region_with (fail)
  all_goals (go_wp2)
  all_goals refine bodyPost_ret (v := .tuple #[.agg #[.int .i64 x1, .int .i64 x2, .bool x3, .int .i64 x4, .int .u64 x5], .bool b]) ?_ rfl ⟨rfl, rfl⟩
  all_goals (rw [results_cell_tmp rfl]; simp [Act.put, asAddr, Result.andThen, LD]; done)
theorem of_at {w : World} {B q : Nat} {l : List RS} {ch : List Int} (h : RAt w B q l ch) (i : Nat) (y : RS) (hy : l[i]? = some y) : Calls Try.prog 19 #[.pointer (some ⟨q,0,none⟩), .int .i64 (i : Int)] w fun e w' => e = .returned (.tuple #[y.x.val, .bool y.is]) ∧ Below w.heap.size w w' := by
  obtain ⟨v0, u0, h1, h2, h3, h4, h5, h6⟩ := h
  have hi := (List.getElem?_eq_some_iff.1 hy).1
  obtain ⟨A, cp, rfl⟩ := h2.form
  obtain ⟨g, rfl, hg, hgl, hat, hfz⟩ := h2.some (by omega)
  obtain ⟨d0, d1, d2, d3, d4, d5⟩ := six (hat i · y hy)
  refine (of_raw q g l.length cp i _ _ _ _ _ _ w h1.lt hgl hi (h1.cell 0) d0 d1 d2 d3 d4 d5).mono ?_
  rintro e w' ⟨rfl, rfl⟩
  exact ⟨rfl, ((Below.refl _ _).alloc (Nat.le_refl _) _).drew⟩
end Go.Proofs.Ytmhnfcodppfaiaa.RefPool
