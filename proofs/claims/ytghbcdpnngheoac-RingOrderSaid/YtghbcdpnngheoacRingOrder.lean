/- The walk of RingOrder. -/
import Derived.Test.YtghbcdpnngheoacRingList
import Derived.Test.YtghbcdpnngheoacRingAlive
import Derived.Test.YtghbcdpnngheoacSame64
namespace Go.Proofs.Ytghbcdpnngheoac.RingOrder
open Go Go.RowKit Go.Proofs.Ytghbcdpnngheoac.Obj Go.Proofs.Ytghbcdpnngheoac.RingCode Go.Proofs.YtghbcdpnngheoacW.PrintWords Go.Proofs.YtghbcdpnngheoacW.PrintMore
set_option linter.unusedVariables false
set_option maxRecDepth 100000
/-- Two rows of one's own, of numbers: what was put, what was taken. -/
structure Pair (W : World) (B : Nat) (v7 v8 : Value) (P T : List Int) : Prop where
  put : W.ownsRow B 2 1 v7 P.length (P.map (Value.int .i64))
  took : W.ownsRow B 2 1 v8 T.length (T.map (Value.int .i64))
  apart : ∀ k, v7.ownBlock = some k → v8.ownBlock ≠ some k
section
variable {W W' : World} {B : Nat} {v7 v8 v v1 : Value} {P T : List Int} {x : Int}
theorem own_ge {base e size n : Nat} {xs : List Value} (h : W.ownsRow base e size v n xs) {k : Nat} (hk : v.ownBlock = some k) : base ≤ k ∧ k < W.heap.size := by
  rcases h.2 with ⟨rfl, _⟩ | ⟨g, cap, cur, rfl, hg, hh, _⟩
  · cases hk
  · have e : g = k := by simpa [Value.ownBlock] using hk
    subst e
    exact ⟨hg, heap_lt hh⟩
theorem Pair.only {S : Nat → Prop} (h : Pair W B v7 v8 P T) (o : Only S W W') (hs : ∀ k, B ≤ k → k < W.heap.size → ¬ S k) : Pair W' B v7 v8 P T :=
  ⟨own_only h.put o (fun k hk => hs k (own_ge h.put hk).1 (own_ge h.put hk).2), own_only h.took o (fun k hk => hs k (own_ge h.took hk).1 (own_ge h.took hk).2), h.apart⟩
theorem Pair.app7 (h : Pair W B v7 v8 P T) (ho : W'.ownsRow B 2 1 v1 (P.length + 1) (P.map (Value.int .i64) ++ [.int .i64 x])) (hg : W.grownBy W' v7.ownBlock) (hat : v1.ownBlock = v7.ownBlock ∨ ∃ b, v1.ownBlock = some b ∧ W.heap.size ≤ b) : Pair W' B v1 v8 (P ++ [x]) T := by
  refine ⟨by rw [List.length_append, List.map_append]; exact ho, own_only h.took (Only.of_grown hg) (fun k hk e => h.apart k e hk), fun k hk e => ?_⟩
  rcases hat with hat | ⟨b, hb, hl⟩
  · exact h.apart k (hat ▸ hk) e
  · rw [hb] at hk
    obtain rfl := Option.some.inj hk
    have := (own_ge h.took e).2
    omega
theorem Pair.app8 (h : Pair W B v7 v8 P T) (ho : W'.ownsRow B 2 1 v1 (T.length + 1) (T.map (Value.int .i64) ++ [.int .i64 x])) (hg : W.grownBy W' v8.ownBlock) (hat : v1.ownBlock = v8.ownBlock ∨ ∃ b, v1.ownBlock = some b ∧ W.heap.size ≤ b) : Pair W' B v7 v1 P (T ++ [x]) := by
  refine ⟨own_only h.put (Only.of_grown hg) (fun k hk e => h.apart k hk e), by rw [List.length_append, List.map_append]; exact ho, fun k hk e => ?_⟩
  rcases hat with hat | ⟨b, hb, hl⟩
  · exact h.apart k hk (hat ▸ e)
  · rw [hb] at e
    obtain rfl := Option.some.inj e
    have := (own_ge h.put hk).2
    omega
/-- A ring that stands below B is left alone where a row grows. -/
theorem ring_grown {p most : Nat} {L : List Int} {base e size n : Nat} {xs : List Value} (h : RingAt W p most L) (hr : W.ownsRow base e size v n xs) (hg : W.grownBy W' v.ownBlock) (hp : p < base) : RingAt W' p most L :=
  h.only (Only.of_grown hg) (fun e => by have := (own_ge hr e).1; omega)
end
set_option maxHeartbeats 16000000 in
theorem order_walk (n : Nat) (hn : n < 256) (a : Option Addr) (len cap : Nat) (w : World) (ha : Obj.Rows w [.int .i64, .int .i64] a len cap) :
    Calls Try.prog 3 #[.int .u8 (n : Int), .slice a len cap] w fun e w' => e = .returned (.bool true) ∧ Below w.heap.size w w' := by
  by_cases h300 : 300 < len
  · go_enter Try.func3, Try.ntmps3
    go_wp2_with (fail)
    refine (alive_at _).mono ?_
    rintro e w2 ⟨rfl, hb2⟩
    go_wp2_with (fail)
    go_ret
    exact ⟨rfl, hb2⟩
  · go_enter Try.func3, Try.ntmps3
    go_wp2_with (fail)
    rw [show ((n : Int) % 9) = ((n % 9 : Nat) : Int) by omega]
    refine (new_at (n % 9) w (by omega)).mono ?_
    rintro e w1 ⟨rfl, h0, hb1, hs1⟩
    rw [show ((n % 9 : Nat) : Int) = (n : Int) % 9 by omega]
    have hlen : len ≤ 300 := by omega
    have K0 : Pair w1 (w.heap.size + 1) (.slice none 0 0) (.slice none 0 0) [] [] := ⟨own_nil _ _ _ _, own_nil _ _ _ _, fun k h => by cases h⟩
    go_wp2_with (fail)
    go_loopg [7, 8, 9] len (fun kq v7 v8 v9 w' => ∃ (i : Nat) (P T L : List Int), kq + i = len ∧ v9 = .int .i64 (i : Int) ∧ Hid (P = T ++ L) ∧ P.length ≤ i ∧ Below w.heap.size w w' ∧ w.heap.size < w'.heap.size ∧ RingAt w' w.heap.size (n % 9) L ∧ Pair w' (w.heap.size + 1) v7 v8 P T)
    case atStart => exact ⟨0, [], [], [], rfl, rfl, hid rfl, Nat.le_refl _, hb1, hs1, h0, K0⟩
    case round =>
      clear K0 hb1 hs1 h0
      obtain ⟨i, P, T, L, hi, rfl, hPT, hTL, hb, hsz, hR, hK⟩ := hrel
      cases gk with
      | zero =>
        have hin : ¬ ((i : Int) < (len : Int)) := by omega
        clear hK hR
        go_wp2_with (fail)
        refine (alive_at _).mono ?_
        rintro e w2 ⟨rfl, hb2⟩
        have hb3 := hb.trans (hb2.mono hb.size)
        go_wp2_with (fail)
        go_ret
        exact ⟨rfl, hb3⟩
      | succ k1 =>
        have hin : ((i : Int) < (len : Int)) := by omega
        obtain ⟨xb, xo, rfl, hxb, hx⟩ := ha.at (by decide) i (by omega)
        obtain ⟨t0, c0, d0, rfl, wd0⟩ := hx 0 _ rfl
        obtain ⟨t1, c1, d1, rfl, wd1⟩ := hx 1 _ rfl
        simp only [List.length_cons, List.length_nil, Nat.reduceAdd, Nat.add_zero] at c0 c1
        rw [← hb.cell (p := ⟨_, _, none⟩) hxb] at c0 c1
        clear hx
        obtain ⟨A7, q7, rfl⟩ := own_form hK.put
        obtain ⟨A8, q8, rfl⟩ := own_form hK.took
        go_upto_block 2 with (fail)
        go_cut [7, 8] (fun v7 v8 wx => ∃ P T L : List Int, Hid (P = T ++ L) ∧ P.length ≤ i + 1 ∧ Below w.heap.size w wx ∧ w.heap.size < wx.heap.size ∧ RingAt wx w.heap.size (n % 9) L ∧ Pair wx (w.heap.size + 1) v7 v8 P T)
        case first =>
          have hTl : T.length ≤ i := by have := congrArg List.length hPT.out; rw [List.length_append] at this; omega
          by_cases hd0 : d0 = 0
          · subst hd0
            by_cases hfull : L.length < n % 9
            · go_wp2_with (fail)
              refine (put_at hR hfull d1).mono ?_
              rintro e w2 ⟨rfl, hR2, o2⟩
              have hb2 := o2.below hb hb.size (fun k _ h => by omega)
              have hs2 : w.heap.size < w2.heap.size := Nat.lt_of_lt_of_le hsz o2.size
              have hK2 := hK.only o2 (fun k h1 _ h2 => by omega)
              have hown := hK2.put
              have c2 : w2.cell? ⟨xb, xo + i * 2 + 1, none⟩ = some (.int .i64 d1) := by rw [← c1]; exact cell_same (o2.block xb (by omega) (by omega))
              clear c0 c1 hK hR hb o2
              go_wp2_with (first | ((with_reducible refine gate_builtin (b := .append) (xs := #[.tmp 52, .tmp 58]) rfl ?_); at_builtin; go_loud (refine print_append_cells (w0 := w2) (w.heap.size + 1) rfl (.tmp 52) (.tmp 58) 28 2 (.int .i64 0) 1 8 rfl Try.underlying28 info2 rfl (by decide) (by decide) (.slice A7 P.length q7) P.length (P.map (Value.int .i64)) [.int .i64 d1] rfl rfl rfl (by simp [Value.oneCell']) hown (Below.refl _ _) hs2 (by omega) ?_); intro v1 w3 ho hb3 hg hat))
              have hR3 := ring_grown hR2 hown hg (Nat.lt_succ_self _)
              have hK3 := hK2.app7 ho hg hat
              have hb4 := hb2.trans (hb3.mono (Nat.le_succ _))
              have hs4 : w.heap.size < w3.heap.size := Nat.lt_of_lt_of_le hs2 hg.size
              go_meet
              exact ⟨P ++ [d1], T, L ++ [d1], hid (by rw [hPT.out, List.append_assoc]), by rw [List.length_append]; exact Nat.succ_le_succ hTL, hb4, hs4, hR3, hK3⟩
            · go_wp2_with (fail)
              refine (put_full_at hR (by have := hR.fit; omega) d1).mono ?_
              rintro e w2 ⟨rfl, hR2, o2⟩
              have hb2 := o2.below hb hb.size (fun k _ h => h.elim)
              have hs2 : w.heap.size < w2.heap.size := Nat.lt_of_lt_of_le hsz o2.size
              have hK2 := hK.only o2 (fun k h1 _ h2 => h2)
              clear c0 c1 hK hR hb o2
              go_wp2_with (fail)
              go_meet
              exact ⟨P, T, L, hPT, Nat.le_succ_of_le hTL, hb2, hs2, hR2, hK2⟩
          · by_cases hd1 : d0 = 1
            · subst hd1
              cases L with
              | nil =>
                go_wp2_with (fail)
                refine (take_none_at hR).mono ?_
                rintro e w2 ⟨rfl, rfl⟩
                go_wp2_with (fail)
                go_meet
                exact ⟨P, T, [], hPT, Nat.le_succ_of_le hTL, hb, hsz, hR, hK⟩
              | cons x r =>
                go_wp2_with (fail)
                refine (take_at hR).mono ?_
                rintro e w2 ⟨rfl, hR2, o2⟩
                have hb2 := o2.below hb hb.size (fun k _ h => by omega)
                have hs2 : w.heap.size < w2.heap.size := Nat.lt_of_lt_of_le hsz o2.size
                have hK2 := hK.only o2 (fun k h1 _ h2 => by omega)
                have hown := hK2.took
                clear c0 c1 hK hR hb o2
                go_wp2_with (first | ((with_reducible refine gate_builtin (b := .append) (xs := #[.tmp 69, .tmp 71]) rfl ?_); at_builtin; go_loud (refine print_append_cells (w0 := w2) (w.heap.size + 1) rfl (.tmp 69) (.tmp 71) 28 2 (.int .i64 0) 1 8 rfl Try.underlying28 info2 rfl (by decide) (by decide) (.slice A8 T.length q8) T.length (T.map (Value.int .i64)) [.int .i64 x] rfl rfl rfl (by simp [Value.oneCell']) hown (Below.refl _ _) hs2 (by omega) ?_); intro v1 w3 ho hb3 hg hat))
                have hR3 := ring_grown hR2 hown hg (Nat.lt_succ_self _)
                have hK3 := hK2.app8 ho hg hat
                have hb4 := hb2.trans (hb3.mono (Nat.le_succ _))
                have hs4 : w.heap.size < w3.heap.size := Nat.lt_of_lt_of_le hs2 hg.size
                go_meet
                exact ⟨P, T ++ [x], r, hid (by rw [hPT.out, List.append_assoc]; rfl), Nat.le_succ_of_le hTL, hb4, hs4, hR3, hK3⟩
            · by_cases hd2 : d0 = 2
              · subst hd2
                by_cases hno : L = [] ∨ L.length < n % 9
                · have hnoH := hid hno
                  clear hno
                  go_wp2_with (fail)
                  refine (swap_none_at hR hnoH.out d1).mono ?_
                  rintro e w2 ⟨rfl, hR2, o2⟩
                  have hb2 := o2.below hb hb.size (fun k _ h => h.elim)
                  have hs2 : w.heap.size < w2.heap.size := Nat.lt_of_lt_of_le hsz o2.size
                  have hK2 := hK.only o2 (fun k h1 _ h2 => h2)
                  clear c0 c1 hK hR hb o2
                  go_wp2_with (fail)
                  go_meet
                  exact ⟨P, T, L, hPT, Nat.le_succ_of_le hTL, hb2, hs2, hR2, hK2⟩
                · have hfit := hR.fit
                  cases L with
                  | nil => exact absurd (Or.inl rfl) hno
                  | cons x r =>
                    have hfullH := hid (show (x :: r).length = n % 9 by
                      rcases Nat.lt_or_ge (x :: r).length (n % 9) with h | h
                      · exact absurd (Or.inr h) hno
                      · omega)
                    clear hno hfit
                    go_wp2_with (fail)
                    refine (swap_at hR hfullH.out d1).mono ?_
                    rintro e w2 ⟨rfl, hR2, o2⟩
                    have hb2 := o2.below hb hb.size (fun k _ h => by omega)
                    have hs2 : w.heap.size < w2.heap.size := Nat.lt_of_lt_of_le hsz o2.size
                    have hK2 := hK.only o2 (fun k h1 _ h2 => by omega)
                    have hown := hK2.took
                    have hxb2 : xb < w2.heap.size := by omega
                    have c2 : w2.cell? ⟨xb, xo + i * 2 + 1, none⟩ = some (.int .i64 d1) := by rw [← c1]; exact cell_same (o2.block xb (by omega) (by omega))
                    clear c0 c1 hK hR hb o2
                    go_wp2_with (first | ((with_reducible refine gate_builtin (b := .append) (xs := #[.tmp 87, .tmp 89]) rfl ?_); at_builtin; go_loud (refine print_append_cells (w0 := w2) (w.heap.size + 1) rfl (.tmp 87) (.tmp 89) 28 2 (.int .i64 0) 1 8 rfl Try.underlying28 info2 rfl (by decide) (by decide) (.slice A8 T.length q8) T.length (T.map (Value.int .i64)) [.int .i64 x] rfl rfl rfl (by simp [Value.oneCell']) hown (Below.refl _ _) hs2 (by omega) ?_); intro v1 w3 ho hb3 hg hat; have hR3 := ring_grown hR2 hown hg (Nat.lt_succ_self _); have hK3 := hK2.app8 ho hg hat; have hs3 : w.heap.size < w3.heap.size := Nat.lt_of_lt_of_le hs2 hg.size; have hown3 := hK3.put; have c3 : w3.cell? ⟨xb, xo + i * 2 + 1, none⟩ = some (.int .i64 d1) := (by rw [← c2]; exact cell_same (hb3.block xb (by show xb < _; omega)))) | ((with_reducible refine gate_builtin (b := .append) (xs := #[.tmp 91, .tmp 97]) rfl ?_); at_builtin; go_loud (refine print_append_cells (w0 := w3) (w.heap.size + 1) rfl (.tmp 91) (.tmp 97) 28 2 (.int .i64 0) 1 8 rfl Try.underlying28 info2 rfl (by decide) (by decide) (.slice A7 P.length q7) P.length (P.map (Value.int .i64)) [.int .i64 d1] rfl rfl rfl (by simp [Value.oneCell']) hown3 (Below.refl _ _) hs3 (by omega) ?_); intro v2 w4 ho4 hb4 hg4 hat4))
                    have hR5 := ring_grown hR3 hown3 hg4 (Nat.lt_succ_self _)
                    have hK5 := hK3.app7 ho4 hg4 hat4
                    have hb5 := (hb2.trans (hb3.mono (Nat.le_succ _))).trans (hb4.mono (Nat.le_succ _))
                    have hs5 : w.heap.size < w4.heap.size := Nat.lt_of_lt_of_le hs3 hg4.size
                    go_meet
                    exact ⟨P ++ [d1], T ++ [x], r ++ [d1], hid (by rw [hPT.out]; simp), by rw [List.length_append]; exact Nat.succ_le_succ hTL, hb5, hs5, hR5, hK5⟩
              · go_wp2_with (fail)
                go_meet
                exact ⟨P, T, L, hPT, Nat.le_succ_of_le hTL, hb, hsz, hR, hK⟩
        case rest =>
          clear hK hR hb hsz hTL hPT c0 c1
          obtain ⟨P, T, L, hPT, hTL, hb, hsz, hR, hK⟩ := hcut
          obtain ⟨A7, q7, rfl⟩ := own_form hK.put
          obtain ⟨A8, q8, rfl⟩ := own_form hK.took
          have hPl : P.length = T.length + L.length := by rw [hPT.out, List.length_append]
          have hfit := hR.fit
          have N7 : Nums wc .i64 A7 (T ++ L) := by rw [← hPT.out]; exact own_nums hK.put
          have NT : Nums wc .i64 A7 T := N7.take
          have N8 : Nums wc .i64 A8 T := own_nums hK.took
          have hlt2 : decide (P.length < T.length) = false := decide_eq_false (by omega)
          have hgt1 : decide ((n : Int) % 9 < (L.length : Int)) = false := decide_eq_false (by omega)
          have hT0 : (0 : Int) ≤ (T.length : Int) := by omega
          have hTP : (T.length : Int) ≤ (P.length : Int) := by omega
          have hTm := hid (show T.length ≤ 140737488355328 by omega)
          have hLm := hid (show L.length ≤ 140737488355328 by omega)
          have hwr : IntKind.i64.wrap ((P.length : Int) - (T.length : Int)) = (L.length : Int) := by rw [IntWalk.i64_in _ (by omega)]; omega
          rcases own_cases hK.put with ⟨hA, h0, hq⟩ | ⟨g, rfl, _, hgl, hq⟩
          · obtain rfl : P = [] := List.length_eq_zero_iff.1 h0
            obtain ⟨rfl, rfl⟩ : T = [] ∧ L = [] := by simpa using hPT.out.symm
            subst hA
            subst hq
            have hgt3 : decide ((n : Int) % 9 < 0) = false := decide_eq_false (by omega)
            have hw0 : IntKind.i64.wrap 0 = 0 := by decide
            clear hPl N7 hlen hn h300 hwr hgt1 hlt2 NT N8 h0
            go_wp2_with (fail)
            go_region_held3 (fun w' : World => True) (exact trivial) (first | (go_at_call 13; refine (len_at (L := []) (most := n % 9) ?_).mono ?_; exact hR.same rfl; rintro e w1 ⟨rfl, rfl⟩) | (go_at_call 14; refine (cap_at (L := []) (most := n % 9) ?_).mono ?_; exact hR.same rfl; rintro e w1 ⟨rfl, rfl⟩) | (go_at_call_of 15 (Value.slice A8 0 q8); refine (Same64.same_eq A8 _ q8 _ [] _ ?_ ?_ ?_).mono ?_; exact Nums.nil _ _ _; exact Nums.nil _ _ _; exact hTm.out; rintro e w1 ⟨rfl, m1, rfl⟩) | (go_at_call 16; refine (list_nums (L := []) (most := n % 9) ?_).mono ?_; exact hR.same rfl; rintro e w1 ⟨Av, cv, rfl, NV, hB⟩) | (go_at_call 15; refine (Same64.same_eq Av _ cv _ [] _ ?_ ?_ ?_).mono ?_; exact NV; exact Nums.nil _ _ _; exact hLm.out; rintro e w2 ⟨rfl, m2, rfl⟩))
            have hO := Only.none_of_below hB
            have hb2 : Below w.heap.size w w1 := hO.below ⟨hb.os, hb.tape, hb.output, hb.size, hb.block⟩ hb.size (fun k _ h => h.elim)
            have hR2 : RingAt w1 w.heap.size (n % 9) [] := (hR.same (w' := wc.drewN (1 + m1)) rfl).only hO id
            have hK2 : Pair w1 (w.heap.size + 1) (.slice none 0 0) (.slice A8 0 q8) [] [] := (show Pair (wc.drewN (1 + m1)) (w.heap.size + 1) (.slice none 0 0) (.slice A8 0 q8) [] [] from ⟨hK.put, hK.took, hK.apart⟩).only hO (fun _ _ _ => id)
            have hs2 : w.heap.size < w1.heap.size := Nat.lt_of_lt_of_le hsz hB.size
            clear hR hK hb hO hB NV hgt3 hw0
            go_wp2_with (fail)
            go_roundg k1
            case measure => omega
            case rel => exact ⟨i + 1, [], [], [], by omega, by go_num, hPT, hTL, ⟨hb2.os, hb2.tape, hb2.output, hb2.size, hb2.block⟩, hs2, hR2.same rfl, ⟨hK2.put, hK2.took, hK2.apart⟩⟩
          · have hPq : (P.length : Int) ≤ (q7 : Int) := by omega
            have hTq : (T.length : Int) ≤ (q7 : Int) := by omega
            have hTq2 : T.length ≤ q7 := by omega
            by_cases hqT : q7 = T.length
            · obtain rfl : L = [] := List.length_eq_zero_iff.1 (by omega)
              have hPT2 : P.length = T.length := by simpa using hPl
              have hP0 := hid (show P.length - T.length = 0 by omega)
              subst hqT
              have hgt3 : decide ((n : Int) % 9 < 0) = false := decide_eq_false (by omega)
              have hwr3 : IntKind.i64.wrap ((P.length : Int) - (T.length : Int)) = 0 := by rw [IntWalk.i64_in _ (by omega)]; omega
              clear hPl hq N7 hlen hn h300 hPT2 hwr hgt1
              go_wp2_with (fail)
              go_region_held3 (fun w' : World => True) (exact trivial) (first | (go_at_call 13; refine (len_at (L := []) (most := n % 9) ?_).mono ?_; exact hR.same rfl; rintro e w1 ⟨rfl, rfl⟩) | (go_at_call 14; refine (cap_at (L := []) (most := n % 9) ?_).mono ?_; exact hR.same rfl; rintro e w1 ⟨rfl, rfl⟩) | (go_at_call_of 15 (Value.slice A8 T.length q8); refine (Same64.same_eq A8 (some ⟨g, 0, none⟩) q8 _ T _ ?_ ?_ ?_).mono ?_; exact N8.drew; exact NT.drew; exact hTm.out; rintro e w1 ⟨rfl, m1, rfl⟩) | (go_at_call 16; refine (list_nums (L := []) (most := n % 9) ?_).mono ?_; exact hR.same rfl; rintro e w1 ⟨Av, cv, rfl, NV, hB⟩) | (go_at_call 15; rw [hP0.out]; refine (Same64.same_eq Av _ cv _ [] _ ?_ ?_ ?_).mono ?_; exact NV; exact Nums.nil _ _ _; exact hLm.out; rintro e w2 ⟨rfl, m2, rfl⟩))
              have hO := Only.none_of_below hB
              have hb2 : Below w.heap.size w w1 := hO.below ⟨hb.os, hb.tape, hb.output, hb.size, hb.block⟩ hb.size (fun k _ h => h.elim)
              have hR2 : RingAt w1 w.heap.size (n % 9) [] := (hR.same (w' := wc.drewN (1 + m1)) rfl).only hO id
              have hK2 : Pair w1 (w.heap.size + 1) (.slice (some ⟨g, 0, none⟩) P.length T.length) (.slice A8 T.length q8) P T := (show Pair (wc.drewN (1 + m1)) (w.heap.size + 1) (.slice (some ⟨g, 0, none⟩) P.length T.length) (.slice A8 T.length q8) P T from ⟨hK.put, hK.took, hK.apart⟩).only hO (fun _ _ _ => id)
              have hs2 : w.heap.size < w1.heap.size := Nat.lt_of_lt_of_le hsz hB.size
              clear hR hK hb hO hB NV N8 NT hwr3 hgt3 hlt2
              go_wp2_with (fail)
              go_roundg k1
              case measure => omega
              case rel => exact ⟨i + 1, P, T, [], by omega, by go_num, hPT, hTL, ⟨hb2.os, hb2.tape, hb2.output, hb2.size, hb2.block⟩, hs2, hR2.same rfl, ⟨hK2.put, hK2.took, hK2.apart⟩⟩
            · have NL : Nums wc .i64 (some ⟨g, T.length, none⟩) L := by
                have := N7.drop
                rwa [addr_add0] at this
              have hPlH := hid hPl
              have hPLH := hid (show P.length - T.length = L.length by omega)
              clear hPl hq N7 hlen hn h300
              go_wp2_with (fail)
              go_region_held3 (fun w' : World => True) (exact trivial) (first | (go_at_call 13; refine (len_at (L := L) (most := n % 9) ?_).mono ?_; exact hR.same rfl; rintro e w1 ⟨rfl, rfl⟩) | (go_at_call 14; refine (cap_at (L := L) (most := n % 9) ?_).mono ?_; exact hR.same rfl; rintro e w1 ⟨rfl, rfl⟩) | (go_at_call_of 15 (Value.slice A8 T.length q8); refine (Same64.same_eq A8 (some ⟨g, 0, none⟩) q8 q7 T _ ?_ ?_ ?_).mono ?_; exact N8.drew; exact NT.drew; exact hTm.out; rintro e w1 ⟨rfl, m1, rfl⟩) | (go_at_call 16; refine (list_nums (L := L) (most := n % 9) ?_).mono ?_; exact hR.same rfl; rintro e w1 ⟨Av, cv, rfl, NV, hB⟩) | (go_at_call 15; rw [hPLH.out]; refine (Same64.same_eq Av (some ⟨g, T.length, none⟩) cv (q7 - T.length) L _ ?_ ?_ ?_).mono ?_; exact NV; exact NL.same (fun x hx => by cases hx; exact hB.block _ hgl); exact hLm.out; rintro e w2 ⟨rfl, m2, rfl⟩))
              have hO := Only.none_of_below hB
              have hb2 : Below w.heap.size w w1 := hO.below ⟨hb.os, hb.tape, hb.output, hb.size, hb.block⟩ hb.size (fun k _ h => h.elim)
              have hR2 : RingAt w1 w.heap.size (n % 9) L := (hR.same (w' := wc.drewN (1 + m1)) rfl).only hO id
              have hK2 : Pair w1 (w.heap.size + 1) (.slice (some ⟨g, 0, none⟩) P.length q7) (.slice A8 T.length q8) P T := (show Pair (wc.drewN (1 + m1)) (w.heap.size + 1) (.slice (some ⟨g, 0, none⟩) P.length q7) (.slice A8 T.length q8) P T from ⟨hK.put, hK.took, hK.apart⟩).only hO (fun _ _ _ => id)
              have hs2 : w.heap.size < w1.heap.size := Nat.lt_of_lt_of_le hsz hB.size
              clear hR hK hb hO hB NV N8 NT NL
              go_wp2_with (fail)
              go_roundg k1
              case measure => omega
              case rel => exact ⟨i + 1, P, T, L, by omega, by go_num, hPT, hTL, ⟨hb2.os, hb2.tape, hb2.output, hb2.size, hb2.block⟩, hs2, hR2.same rfl, ⟨hK2.put, hK2.took, hK2.apart⟩⟩
theorem ringOrder_walk (n : Int) (a : Option Addr) (len cap : Nat) (w : World) (hn : (Lit.int .u8 n).wf = true) (ha : Obj.Rows w [.int .i64, .int .i64] a len cap) :
    Calls Try.prog 3 #[.int .u8 n, .slice a len cap] w fun e w' => e = .returned (.bool true) ∧ Below w.heap.size w w' := by
  have hb := u8_of hn
  obtain ⟨n, rfl⟩ := Int.eq_ofNat_of_zero_le hb.1
  exact order_walk n (by omega) a len cap w ha
end Go.Proofs.Ytghbcdpnngheoac.RingOrder
