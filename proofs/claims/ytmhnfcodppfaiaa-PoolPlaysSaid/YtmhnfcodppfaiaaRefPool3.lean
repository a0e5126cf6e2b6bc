
/- The document's pool: New, List. -/
import Derived.Test.YtmhnfcodppfaiaaRefPool2
namespace Go.Proofs.Ytmhnfcodppfaiaa.RefPool
open Go Go.RowKit Go.Proofs.Ytmhnfcodppfaiaa.Obj Go.Proofs.Ytmhnfcodppfaiaa.Row Go.Proofs.YtmhnfcodppfaiaaW.PrintWords Go.Proofs.YtmhnfcodppfaiaaW.PrintMore
open Go.Proofs.Ytmhnfcodppfaiaa.PoolCode (Sg Sg.cells Sg.val Sg.zero)
set_option maxRecDepth 100000
set_option linter.unusedVariables false
theorem own_typed {w : World} {base e size n : Nat} {v : Value} {xs : List Value} (h : w.ownsRow base e size v n xs) {k : Nat} (hk : v.ownBlock = some k) : ∃ cur, w.heap[k]? = some (.cells cur e (0, 0)) := by
  rcases h.2 with ⟨rfl, _⟩ | ⟨g, cap, cur, rfl, hg, hh, _⟩
  · cases hk
  · have : g = k := by simpa [Value.ownBlock] using hk
    subst this
    exact ⟨cur, hh⟩
def isR (l : List RS) (k : Nat) : Bool := match l[k]? with | some y => y.is | none => false
def tk (l : List RS) (k : Nat) : List Int := ((List.range k).filter (isR l)).map (fun n : Nat => (n : Int))
theorem tk_yes {l : List RS} {k : Nat} (h : isR l k = true) : tk l (k + 1) = tk l k ++ [(k : Int)] := by simp [tk, List.range_succ, List.filter_append, h]
theorem tk_no {l : List RS} {k : Nat} (h : isR l k = false) : tk l (k + 1) = tk l k := by simp [tk, List.range_succ, List.filter_append, h]
theorem tk_len (l : List RS) (k : Nat) : (tk l k).length ≤ k := by
  rw [tk, List.length_map]
  exact Nat.le_trans (List.length_filter_le _ _) (by rw [List.length_range]; exact Nat.le_refl _)
theorem nums_app (L : List Int) (x : Int) : nums .i64 (L ++ [x]) = nums .i64 L ++ [.int .i64 x] := by simp [nums]
set_option maxHeartbeats 2000000 in
theorem list_at {w : World} {B q : Nat} {l : List RS} {ch : List Int} (h : RAt w B q l ch) (hl : l.length ≤ 1024) : Calls Try.prog 20 #[.pointer (some ⟨q,0,none⟩)] w fun e w' => ∃ v, e = .returned v ∧ w'.ownsRow w.heap.size 3 1 v (tk l l.length).length (nums .i64 (tk l l.length)) ∧ Below w.heap.size w w' := by
  go_enter Try.func20, Try.ntmps20
  go_wp2
  go_loopg [3, 4] l.length (fun kq v3 v4 w' => ∃ i : Nat, kq + i = l.length ∧ v4 = .int .i64 (i : Int) ∧ w'.ownsRow w.heap.size 3 1 v3 (tk l i).length (nums .i64 (tk l i)) ∧ Below w.heap.size w w')
  case atStart => exact ⟨0, rfl, rfl, own_nil _ _ _ _, Below.refl _ _⟩
  case round =>
    obtain ⟨i, hi, rfl, ho, hb⟩ := hrel
    obtain ⟨A0, c0, rfl⟩ := own_form ho
    have hr := h.below hb
    obtain ⟨v0, u0, h1, h2, h3, h4, h5, h6⟩ := hr
    obtain ⟨A, cp, rfl⟩ := h2.form
    have cc := h1.cell 0
    have c0' : wr.cell? ⟨q, 0, none⟩ = some (.slice A l.length cp) := cc
    have hq := h1.lt
    clear h1 h3 h4 h5 cc
    cases gk with
    | zero =>
      have hin : ¬ ((i : Int) < (l.length : Int)) := by omega
      obtain rfl : i = l.length := by omega
      clear h2
      go_wp2
      go_ret
      exact ⟨_, rfl, ho, hb⟩
    | succ k1 =>
      have hin : ((i : Int) < (l.length : Int)) := by omega
      obtain ⟨y, hy⟩ : ∃ y, l[i]? = some y := ⟨_, List.getElem?_eq_getElem (by omega)⟩
      obtain ⟨g, rfl, hg, hgl, hat, hfz⟩ := h2.some (by omega)
      obtain ⟨d0, _⟩ := six (hat i · y hy)
      have hlen := tk_len l i
      have hnl : (nums .i64 (tk l i)).length = (tk l i).length := by simp [nums]
      have hs := hb.size
      clear hat h2
      by_cases hyb : y.is = true
      · rw [hyb] at d0
        have hyes := hid (tk_yes (l := l) (k := i) (by simp only [isR, hy]; exact hyb))
        clear hyb hy
        go_wp2_with (first | ((with_reducible refine gate_builtin (b := .append) (xs := #[.tmp 22, .tmp 24]) rfl ?_); at_builtin; go_loud (refine print_append (w0 := w) w.heap.size rfl (.tmp 22) (.tmp 24) 42 3 (.int .i64 0) 8 rfl Try.underlying42 info3' rfl (by decide) _ (nums .i64 (tk l i)) (.int .i64 (i : Int)) rfl rfl rfl (by rw [hnl]; exact ho) hb hs (by rw [hnl]; omega) ?_); intro v1 w1 ho1 hb1 hgr hat))
        go_roundg k1
        case measure => omega
        case rel =>
          refine ⟨i + 1, by omega, by first | rfl | (congr 1; omega), ?_, hb1⟩
          have e : (nums .i64 (tk l i) ++ [Value.int .i64 (i : Int)]).length = (tk l i ++ [(i : Int)]).length := by simp [nums]
          rw [e] at ho1
          rw [hyes.out, nums_app]
          exact ho1
      · have hyb' : y.is = false := by simpa using hyb
        rw [hyb'] at d0
        have hno := hid (tk_no (l := l) (k := i) (by simp only [isR, hy]; exact hyb'))
        clear hyb hyb' hy
        go_wp2
        go_roundg k1
        case measure => omega
        case rel =>
          refine ⟨i + 1, by omega, by first | rfl | (congr 1; omega), ?_, hb⟩
          rw [hno.out]
          exact ho
def upTo (i : Nat) : List Int := (List.range i).map (fun n : Nat => (n : Int))
theorem upTo_succ (i : Nat) : upTo (i + 1) = upTo i ++ [(i : Int)] := by simp [upTo, List.range_succ]
theorem upTo_len (i : Nat) : (upTo i).length = i := by simp [upTo]
def none_ (n : Nat) : List RS := List.replicate n ⟨false, Sg.zero⟩
theorem made_slots (m : Nat) (W : World) (hm : m ≤ 1024) : (Instr.makeSlice 58 (.int .i64 (m : Int)) (.int .i64 (m : Int))).run Try.prog W = .ok (.slice (some ⟨W.heap.size, 0, none⟩) m m) (W.alloc (.cells (madeCells #[.bool false, .int .i64 0, .int .i64 0, .bool false, .int .i64 0, .int .u64 0] (m * 6)) 63)) := by
  obtain ⟨i0, hi, hz⟩ := Option.map_eq_some_iff.1 info63
  simp only [Prod.mk.injEq] at hz
  obtain ⟨h1, h2, h3⟩ := hz
  have := run_make (P := Try.prog) W 58 63 i0 (.agg #[.bool false, .int .i64 0, .int .i64 0, .bool false, .int .i64 0, .int .u64 0]) Try.underlying58 hi h1 .i64 .i64 m m (by omega) (by omega) (by rw [h3]; omega) (by omega)
  simpa [h2, Value.cells] using this
theorem row_none (m : Nat) : (madeCells #[Value.bool false, .int .i64 0, .int .i64 0, .bool false, .int .i64 0, .int .u64 0] (m * 6)).toList = row (none_ m) := by
  refine List.ext_getElem? (fun j => ?_)
  have hlen : (none_ m).length = m := by simp [none_]
  by_cases hj : j < m * 6
  · have hy : (none_ m)[j / 6]? = some ⟨false, Sg.zero⟩ := by
      rw [none_, List.getElem?_replicate, if_pos (by omega)]
    have k2 := row_at (none_ m) [] (j / 6) (j % 6) _ hy (by omega)
    have e3 : (j / 6) * 6 + j % 6 = j := by omega
    rw [List.append_nil, e3] at k2
    rw [k2]
    have hj2 : j % 6 < 6 := by omega
    unfold madeCells
    simp only [Array.toList_map, Array.toList_range, List.getElem?_map, List.getElem?_range hj, Option.map_some]
    generalize hr : j % 6 = r at *
    match r, hj2 with
    | 0, _ => rfl
    | 1, _ => rfl
    | 2, _ => rfl
    | 3, _ => rfl
    | 4, _ => rfl
    | 5, _ => rfl
  · rw [List.getElem?_eq_none (by rw [Array.length_toList, size_madeCells]; omega), List.getElem?_eq_none (by rw [row_len, hlen]; omega)]
theorem RAt.push {wr w1 : World} {B q : Nat} {l : List RS} {ch : List Int} {x : Int} {v0 u0 v1 : Value} (h1 : Blk wr q 60 [v0, u0]) (h2 : SRow wr B v0 l) (h3 : wr.ownsRow B 3 1 u0 ch.length (nums .i64 ch)) (h4 : v0.ownBlock ≠ some q) (h5 : u0.ownBlock ≠ some q) (h6 : B ≤ q)
    (ho : w1.ownsRow B 3 1 v1 (ch ++ [x]).length (nums .i64 (ch ++ [x]))) (hgr : wr.grownBy w1 u0.ownBlock) (hat : v1.ownBlock = u0.ownBlock ∨ ∃ b, v1.ownBlock = some b ∧ wr.heap.size ≤ b) : RAt (w1.setCell ⟨q, 1, none⟩ v1) B q l (ch ++ [x]) := by
  have o : Only (fun k => u0.ownBlock = some k) wr w1 := Only.of_grown hgr
  have hq := h1.lt
  have h5' : v1.ownBlock ≠ some q := by
    intro e
    rcases hat with hat | ⟨b, hb, hl⟩
    · rw [hat] at e; exact h5 e
    · rw [hb] at e; cases e; omega
  refine ⟨v0, v1, (h1.only o h5).set 1 v1, ?_, ?_, h4, h5', h6⟩
  · refine own_only (own_only h2 o (fun k hk e => ?_)) (Only.setCell (S := (· = q)) w1 ⟨q, 1, none⟩ v1 rfl) (fun k hk e => by rw [e] at hk; exact h4 hk)
    obtain ⟨c1, t1⟩ := own_typed h2 hk
    obtain ⟨c2, t2⟩ := own_typed h3 e
    rw [t1] at t2
    cases t2
  · exact own_only ho (Only.setCell (S := (· = q)) w1 ⟨q, 1, none⟩ v1 rfl) (fun k hk e => by rw [e] at hk; exact h5' hk)
set_option maxHeartbeats 2000000 in
theorem new_at (n : Nat) (h1 : 1 ≤ n) (h2 : n ≤ 1024) (w : World) : Calls Try.prog 15 #[.int .i64 (n : Int)] w fun e w' => e = .returned (.pointer (some ⟨w.heap.size + 1,0,none⟩)) ∧ Below w.heap.size w w' ∧ RAt w' w.heap.size (w.heap.size + 1) (none_ n) (upTo n) := by
  go_enter Try.func15, Try.ntmps15
  have hmk := made_slots n w h2
  go_wp2
  obtain ⟨w2, hw2⟩ : ∃ w2, (w.alloc (.cells (madeCells #[.bool false, .int .i64 0, .int .i64 0, .bool false, .int .i64 0, .int .u64 0] (n * 6)) 63)).alloc (.cells #[.slice (some ⟨w.heap.size, 0, none⟩) n n, .slice none 0 0] 60) = w2 := ⟨_, rfl⟩
  have hb2 : Below w.heap.size w w2 := by rw [← hw2]; exact ((Below.refl _ _).alloc (Nat.le_refl _) _).alloc (by simp) _
  have hR2 : RAt w2 w.heap.size (w.heap.size + 1) (none_ n) (upTo 0) := by
    rw [← hw2]
    have e1 : w.heap.size + 1 = (w.alloc (.cells (madeCells #[.bool false, .int .i64 0, .int .i64 0, .bool false, .int .i64 0, .int .u64 0] (n * 6)) 63)).heap.size := by simp
    refine ⟨.slice (some ⟨w.heap.size, 0, none⟩) n n, .slice none 0 0, ?_, ?_, own_nil _ _ _ _, ?_, ?_, by omega⟩
    · rw [e1]; exact Blk.new _ 60 _
    · refine ⟨row_len _, .inr ⟨w.heap.size, n, _, by simp [none_], Nat.le_refl _, (heap_alloc_old _ _ _ (by simp)).trans (heap_alloc_new w _), by simp [none_], by simp [maxLen]; omega, by rw [size_madeCells], ?_⟩⟩
      rw [row_none, List.take_of_length_le (by rw [row_len]; exact Nat.le_refl _)]
    · simp [Value.ownBlock]
    · simp [Value.ownBlock]
  subst hw2
  clear hmk
  go_loopg [4] n (fun kq v4 w' => ∃ i : Nat, kq + i = n ∧ v4 = .int .i64 (i : Int) ∧ Below w.heap.size w w' ∧ RAt w' w.heap.size (w.heap.size + 1) (none_ n) (upTo i))
  case atStart => exact ⟨0, rfl, rfl, hb2, hR2⟩
  case round =>
    clear hb2 hR2
    obtain ⟨i, hi, rfl, hb, hR⟩ := hrel
    cases gk with
    | zero =>
      have hin : ¬ ((i : Int) < (n : Int)) := by omega
      obtain rfl : i = n := by omega
      go_wp2
      go_ret
      exact ⟨rfl, hb, hR⟩
    | succ k1 =>
      have hin : ((i : Int) < (n : Int)) := by omega
      obtain ⟨v0, u0, k1', k2, k3, k4, k5, k6⟩ := hR
      have hul := upTo_len i
      rw [hul] at k3
      obtain ⟨A, cp, rfl⟩ := own_form k3
      have c1 : wr.cell? ⟨w.heap.size + 1, 1, none⟩ = some (.slice A i cp) := k1'.cell 1
      have hq := k1'.lt
      have hz := k1'.frozen
      have hs := hb.size
      have hnl : (nums .i64 (upTo i)).length = (upTo i).length := by simp [nums]
      have key : ∀ (v1 : Value) (w1 : World), w1.ownsRow w.heap.size 3 1 v1 (nums .i64 (upTo i) ++ [Value.int .i64 (i : Int)]).length (nums .i64 (upTo i) ++ [Value.int .i64 (i : Int)]) → wr.grownBy w1 (Value.slice A i cp).ownBlock → (v1.ownBlock = (Value.slice A i cp).ownBlock ∨ ∃ b, v1.ownBlock = some b ∧ wr.heap.size ≤ b) → Below w.heap.size w w1 →
          (∃ A2 m2 c2, v1 = .slice A2 m2 c2) ∧ w1.cell? ⟨w.heap.size + 1, 1, none⟩ = some (.slice A i cp) ∧ (∀ i, w1.frozen? ⟨w.heap.size + 1, i, none⟩ = false) ∧ Below w.heap.size w (w1.setCell ⟨w.heap.size + 1, 1, none⟩ v1) ∧ RAt (w1.setCell ⟨w.heap.size + 1, 1, none⟩ v1) w.heap.size (w.heap.size + 1) (none_ n) (upTo (i + 1)) := by
        intro v1 w1 ho hgr hat hb1
        have hB := k1'.only (Only.of_grown hgr) k5
        rw [upTo_succ]
        refine ⟨own_form3 ho, hB.cell 1, hB.frozen, hb1.setCell (by simp) _, RAt.push k1' k2 (by rw [hul]; exact k3) k4 k5 k6 ?_ hgr hat⟩
        have e : (nums .i64 (upTo i) ++ [Value.int .i64 (i : Int)]).length = (upTo i ++ [(i : Int)]).length := by simp [nums]
        rw [e] at ho
        rw [nums_app]
        exact ho
      clear k1' k2 k4 k5 k6
      go_wp2_with (first | ((with_reducible refine gate_builtin (b := .append) (xs := #[.tmp 18, .tmp 20]) rfl ?_); at_builtin; go_loud (refine print_append (w0 := w) w.heap.size rfl (.tmp 18) (.tmp 20) 42 3 (.int .i64 0) 8 rfl Try.underlying42 info3' rfl (by decide) _ (nums .i64 (upTo i)) (.int .i64 (i : Int)) rfl rfl rfl (by rw [hnl, hul]; exact k3) hb hs (by rw [hnl, hul]; omega) ?_); intro v1 w1 ho1 hb1 hgr hat; obtain ⟨⟨A2, m2, c2, rfl⟩, d1, dz, hb3, hR3⟩ := key v1 w1 ho1 hgr hat hb1))
      go_roundg k1
      case measure => omega
      case rel =>
        refine ⟨i + 1, by omega, by first | rfl | (congr 1; omega), hb3, hR3⟩
end Go.Proofs.Ytmhnfcodppfaiaa.RefPool
