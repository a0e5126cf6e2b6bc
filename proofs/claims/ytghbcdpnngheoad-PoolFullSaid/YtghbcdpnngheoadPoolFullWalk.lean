/- The walk of PoolFull. -/
import Derived.Test.YtghbcdpnngheoadPoolCount
import Derived.Lib.Hide
namespace Go.Proofs.Ytghbcdpnngheoad.PoolCode
open Go Go.RowKit Go.Proofs.YtghbcdpnngheoadW.PrintWords Go.Proofs.YtghbcdpnngheoadW.PrintMore
set_option linter.unusedVariables false
set_option maxRecDepth 100000
/-- Seen's cells: those that are not free any more. -/
def Seen (W : World) (b m : Nat) (ch : List Nat) : Prop := ∃ C : Array Value, W.heap[b]? = some (.cells C 4 (0, 0)) ∧ C.size = m ∧ ∀ k, k < m → C[k]? = some (.bool (decide (k ∉ ch)))
/-- All slots are free. -/
def AllFree (W : World) (p q cp : Nat) (pad : List Value) (m : Nat) : Prop := ∃ l ch, l.length = m ∧ ch.length = m ∧ PoolS W p q cp pad l ch
/-- So many were taken. -/
def Taking (W : World) (p q cp : Nat) (pad : List Value) (m i b : Nat) : Prop := ∃ l ch, l.length = m ∧ ch.length + i = m ∧ PoolS W p q cp pad l ch ∧ Seen W b m ch
/-- So many were given back. -/
def Giving (W : World) (p q cp : Nat) (pad : List Value) (m i : Nat) : Prop := ∃ l ch, l.length = m ∧ ch.length = i ∧ PoolS W p q cp pad l ch ∧ ∀ k, i ≤ k → k < m → isAt l k = true
set_option maxHeartbeats 2000000 in
theorem full_walk (n : Nat) (hn : n < 256) (w : World) : Calls Try.prog 4 #[.int .u8 (n : Int)] w fun e w' => e = .returned (.bool true) ∧ Below w.heap.size w w' := by
  go_enter Try.func4, Try.ntmps4
  go_wp2_with (fail)
  rw [show (1 + (n : Int)) = ((n + 1 : Nat) : Int) by omega]
  refine (new_s (n + 1) (by omega) (by omega) w).mono ?_
  rintro e w1 ⟨rfl, hb1, q, cp, pad, hq, h0⟩
  rw [show ((n + 1 : Nat) : Int) = 1 + (n : Int) by omega]
  have A0 : AllFree w1 w.heap.size q cp pad (n + 1) := ⟨_, _, by rw [List.length_set, mk_len], List.length_range', h0⟩
  clear h0
  have hmk : ∀ W : World, (Instr.makeSlice 29 (.int .i64 (1 + (n : Int))) (.int .i64 (1 + (n : Int)))).run Try.prog W = .ok (.slice (some ⟨W.heap.size, 0, none⟩) (n + 1) (n + 1)) (W.alloc (.cells (madeCells #[.bool false] (n + 1)) 4)) := fun W => by
    rw [show (1 + (n : Int)) = ((n + 1 : Nat) : Int) by omega]; exact made_bools (n + 1) W (by omega)
  go_wp2_with (fail)
  go_loopg [6] 2 (fun kq v6 w' => ∃ r : Nat, kq + r = 2 ∧ v6 = .int .i64 (r : Int) ∧ Below w.heap.size w w' ∧ AllFree w' w.heap.size q cp pad (n + 1))
  case atStart => exact ⟨0, rfl, rfl, hb1, A0⟩
  case round =>
    clear A0 hb1
    obtain ⟨r, hr, rfl, hb, hA⟩ := hrel
    cases gk with
    | zero =>
      have hr2 : ¬ ((r : Int) < 2) := by omega
      obtain ⟨l, ch, hl, hch, hP⟩ := hA
      go_wp2_with (fail)
      refine (len_s hP).mono ?_
      rintro e w2 ⟨rfl, hw2⟩
      subst hw2
      rw [show ((l.length : Int) - (ch.length : Int)) = 0 by omega]
      go_wp2_with (fail)
      refine (alive_at _).mono ?_
      rintro e w2 ⟨rfl, hb2⟩
      have hb3 := hb.trans (hb2.mono hb.size)
      clear hl hch hP hb2
      go_wp2_with (fail)
      go_ret
      exact ⟨rfl, hb3⟩
    | succ k1 =>
      have hr2 : ((r : Int) < 2) := by omega
      have hsz := hb.size
      have T0 : Taking (wr.alloc (.cells (madeCells #[.bool false] (n + 1)) 4)) w.heap.size q cp pad (n + 1) 0 wr.heap.size := by
        obtain ⟨l, ch, hl, hch, f, m, h1, h2⟩ := hA
        refine ⟨l, ch, hl, by omega, ⟨f, m, h1.alloc, h2⟩, _, heap_alloc_new _ _, size_madeCells _ _, fun k hk => ?_⟩
        rw [made_at _ _ hk]
        have := isAt_free h2 k (by omega)
        have h3 : decide (k ∉ ch) = false := by
          have hc := count_taken h2
          rw [hl, hch] at hc
          rw [← this]
          cases hx : isAt l k with
          | false => rfl
          | true =>
            exfalso
            have : (tk l (n + 1)).length = 0 := by omega
            have hm : (k : Int) ∈ tk l (n + 1) := List.mem_map.2 ⟨k, List.mem_filter.2 ⟨List.mem_range.2 hk, hx⟩, rfl⟩
            rw [List.length_eq_zero_iff.1 this] at hm
            exact absurd hm (by simp)
        rw [h3]
      have hq1 : q < wr.heap.size := by obtain ⟨l, ch, hl, hch, f, m, h1, h2⟩ := hA; exact h1.lq
      have hba : Below w.heap.size w (wr.alloc (.cells (madeCells #[.bool false] (n + 1)) 4)) := hb.alloc hsz _
      clear hA hb
      go_wp2_with (fail)
      obtain ⟨b, hbe⟩ : ∃ b, b = wr.heap.size := ⟨_, rfl⟩
      rw [← hbe] at T0 hq1 hsz ⊢
      clear hbe
      go_loopg [8, 9, 10] (n + 1) (fun kq v8 v9 v10 w' => ∃ i : Nat, kq + i = n + 1 ∧ v8 = .int .i64 (i : Int) ∧ Below w.heap.size w w' ∧ Taking w' w.heap.size q cp pad (n + 1) i b)
      case atStart => exact ⟨0, by omega, rfl, hba, T0⟩
      case round =>
        clear T0 hba
        rename_i wo _ _ _ _ _ _
        obtain ⟨i, hi, rfl, hb, hT⟩ := hrel
        cases gk with
        | zero =>
          have hin : ¬ ((i : Int) < 1 + (n : Int)) := by omega
          obtain ⟨l, ch, hl, hch, hP, _⟩ := hT
          obtain rfl : ch = [] := List.length_eq_zero_iff.1 (by omega)
          have hwq : w.heap.size < wr.heap.size ∧ q < wr.heap.size := by obtain ⟨f, m, h1, h2⟩ := hP; exact ⟨h1.lp, h1.lq⟩
          go_wp2_with (fail)
          refine (full_s hP ⟨0, 0, false, 0, 0⟩).mono ?_
          rintro e w2 ⟨rfl, hP2, he⟩
          have hb2 : Below w.heap.size w w2 := he.below hb hb.size (Nat.le_refl _) (by omega)
          obtain ⟨f, m, h1, h2⟩ := hP2
          have hc := count_taken h2
          have hle : (tk l l.length).length = n + 1 := by simp at hc; omega
          have hlm : l.length ≤ 1024 := by omega
          have G0 : ∀ W : World, Below w2.heap.size w2 W → Below w.heap.size w W ∧ Giving W w.heap.size q cp pad (n + 1) 0 := fun W hB => by
            refine ⟨hb2.trans (hB.mono hb2.size), l, [], hl, rfl, ⟨f, m, h1.else (hB.block _ h1.lp) (hB.block _ h1.lq), h2⟩, fun k _ hk => ?_⟩
            rw [isAt_free h2 k (by omega)]; simp
          clear hl hch hP hb he hc
          go_wp2_with (fail)
          refine (list_at h1 hlm).mono ?_
          rintro e w3 ⟨v, rfl, hrow, hB3⟩
          obtain ⟨hb3, G3⟩ := G0 w3 hB3
          obtain ⟨A, c, rfl⟩ : ∃ A c, v = .slice A (n + 1) c := by
            rw [hle] at hrow
            rcases hrow.2 with ⟨_, h⟩ | ⟨g, cap, cur, rfl, _⟩
            · omega
            · exact ⟨_, _, rfl⟩
          clear hb2 h1 h2 hrow hB3 G0 hle hlm
          have e7 : (((n : Int) + 1) != (1 + (n : Int))) = false := bne_eq_false_iff_eq.2 (by omega)
          go_wp2_with (fail)
          go_loopg [13] (n + 1) (fun kq v13 w' => ∃ i : Nat, kq + i = n + 1 ∧ v13 = .int .i64 (i : Int) ∧ Below w.heap.size w w' ∧ Giving w' w.heap.size q cp pad (n + 1) i)
          case atStart => exact ⟨0, by omega, rfl, hb3, G3⟩
          case round =>
            clear hb3 G3 hi
            obtain ⟨i', hi, rfl, hb, l, ch, hl, hch, hP, hX⟩ := hrel
            cases gk with
            | zero =>
              have hin : ¬ ((i' : Int) < 1 + (n : Int)) := by omega
              have hA : AllFree wr w.heap.size q cp pad (n + 1) := ⟨l, ch, hl, by omega, hP⟩
              clear hl hch hP hX
              go_wp2_with (fail)
              go_roundg k1
              case measure => omega
              case rel => exact ⟨r + 1, by omega, by go_num, hb, hA⟩
            | succ k2 =>
              have hin : ((i' : Int) < 1 + (n : Int)) := by omega
              obtain ⟨f, m, h1, h2⟩ := hP
              have hi1 : i' < l.length := by omega
              have hy : l[i']? = some l[i'] := List.getElem?_eq_getElem hi1
              have hyb : (l[i']).is = true := by
                have := hX i' (Nat.le_refl _) (by omega)
                simpa only [isAt, hy] using this
              have hP : PoolS wr w.heap.size q cp pad l ch := ⟨f, m, h1, h2⟩
              have HN : ∀ W k, PoolS W w.heap.size q cp pad (l.set i' ⟨false, Sg.zero, k⟩) (i' :: ch) → Giving W w.heap.size q cp pad (n + 1) (i' + 1) := fun W k h => by
                refine ⟨_, _, by rw [List.length_set, hl], by rw [List.length_cons, hch], h, fun j hj1 hj2 => ?_⟩
                have := hX j (by omega) hj2
                simp only [isAt, List.getElem?_set_ne (show i' ≠ j by omega)] at this ⊢
                exact this
              have hlm : l.length ≤ 1024 := by omega
              clear hl hch h1 h2 hX
              go_wp2_with (fail)
              refine (give_s hP hlm hy hyb).mono ?_
              rintro e w4 ⟨rfl, ⟨k, h5⟩, he⟩
              have hG := HN w4 k h5
              have hb4 : Below w.heap.size w w4 := he.below hb hb.size (Nat.le_refl _) (by omega)
              clear hy hyb hP HN hlm h5 he hb
              go_wp2_with (fail)
              go_roundg k2
              case measure => omega
              case rel => exact ⟨i' + 1, by omega, by go_num, hb4, hG⟩
        | succ k2 =>
          have hin : ((i : Int) < 1 + (n : Int)) := by omega
          obtain ⟨l, ch, hl, hch, hP, C, hC, hCs, hCk⟩ := hT
          obtain ⟨j, ch, rfl⟩ : ∃ j r, ch = j :: r := by
            cases ch with
            | nil => simp at hch; omega
            | cons j r => exact ⟨j, r, rfl⟩
          have hbl := heap_lt hC
          have hpl : w.heap.size < wr.heap.size := by obtain ⟨f, m, h1, h2⟩ := hP; exact h1.lp
          obtain ⟨f0, m0, P1, P2⟩ := hP
          have hjn : j < n + 1 := by rw [← hl]; exact P2.chain.lt j (List.mem_cons_self ..)
          have hnd := List.nodup_cons.1 P2.nodup
          have hP : PoolS wr w.heap.size q cp pad l (j :: ch) := ⟨f0, m0, P1, P2⟩
          clear P1 P2
          go_wp2_with (fail)
          refine (take_s hP (by omega) ⟨(i : Int), 0, false, 0, 0⟩).mono ?_
          rintro e w2 ⟨rfl, hP2, he⟩
          have hC2 : w2.heap[b]? = some (.cells C 4 (0, 0)) := (he.block b hbl (by omega) (by omega)).trans hC
          have c0 : w2.cell? ⟨b, j, none⟩ = some (.bool false) := by rw [cell_of hC2, hCk j hjn]; simp
          have z0 : w2.frozen? ⟨b, j, none⟩ = false := frozen_of hC2
          have hjn' : (j : Int) < 1 + (n : Int) := by omega
          have hb2 : Below w.heap.size w w2 := he.below hb hb.size (Nat.le_refl _) (by omega)
          have HT : Taking (w2.setCell ⟨b, j, none⟩ (.bool true)) w.heap.size q cp pad (n + 1) (i + 1) b := by
            obtain ⟨f, m, h1, h2⟩ := hP2
            refine ⟨_, ch, by rw [List.length_set, hl], by simp at hch; omega, ⟨f, m, h1.else (Below.heap_setCell _ _ _ _ (by show _ ≠ b; omega)) (Below.heap_setCell _ _ _ _ (by show _ ≠ b; omega)), h2⟩, _, heap_set hC2, by simp [hCs], fun k hk => ?_⟩
            by_cases e : j = k
            · subst e
              rw [Array.getElem?_setIfInBounds_self_of_lt (by omega)]
              simp [hnd.1]
            · rw [Array.getElem?_setIfInBounds_ne e, hCk k hk]
              have : decide (k ∉ j :: ch) = decide (k ∉ ch) := by simp [List.mem_cons, Ne.symm e]
              rw [this]
          have hb3 : Below w.heap.size w (w2.setCell ⟨b, j, none⟩ (.bool true)) := hb2.setCell (by show w.heap.size ≤ b; omega) _
          clear hl hch hP hP2 hC hCs hCk hnd hb hb2 hC2 he
          go_wp2_with (go_quiet (fail))
          go_roundg k2
          case measure => omega
          case rel => exact ⟨i + 1, by omega, by go_num, hb3, HT⟩
theorem poolFull_walk (a : Int) (w : World) (h : (Lit.int .u8 a).wf = true) : Calls Try.prog 4 #[.int .u8 a] w fun e w' => e = .returned (.bool true) ∧ Below w.heap.size w w' := by
  have hb := Obj.u8_of h
  obtain ⟨n, rfl⟩ := Int.eq_ofNat_of_zero_le hb.1
  exact full_walk n (by omega) w
end Go.Proofs.Ytghbcdpnngheoad.PoolCode
