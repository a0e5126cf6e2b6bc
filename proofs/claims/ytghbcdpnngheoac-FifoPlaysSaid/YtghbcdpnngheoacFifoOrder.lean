/- The walk of FifoOrder. -/
import Derived.Test.YtghbcdpnngheoacFifoTurns
import Derived.Test.YtghbcdpnngheoacRow
import Derived.Test.YtghbcdpnngheoacSame08
namespace Go.Proofs.Ytghbcdpnngheoac.FifoOrder
open Go Go.RowKit Go.Proofs.Ytghbcdpnngheoac.Obj Go.Proofs.Ytghbcdpnngheoac.FifoCode Go.Proofs.Ytghbcdpnngheoac.FifoTurns Go.Proofs.Ytghbcdpnngheoac.Row Go.Proofs.YtghbcdpnngheoacW.PrintWords Go.Proofs.YtghbcdpnngheoacW.PrintMore
set_option linter.unusedVariables false
set_option maxRecDepth 100000
theorem push_err {w : World} {p most : Nat} {L : List Int} (h : FifoAt w p most L) {k : Int} (hno : ¬ (0 ≤ k ∧ k < 32 ∧ k ∉ L ∧ L.length < most)) : Calls Try.prog 25 #[.pointer (some ⟨p, 0, none⟩), .int .i64 k] w fun e w' => (∃ c : Int, e = .returned (.int .i64 c) ∧ c ≠ 0 ∧ (c = 4 → L.length = most)) ∧ Below w.heap.size w w' := by
  by_cases ha : k < 0 ∨ k ≥ 32
  · refine (push_arg p k w ha).mono ?_
    rintro e w' ⟨rfl, rfl⟩
    exact ⟨⟨2, rfl, by decide, fun h => absurd h (by decide)⟩, Below.refl _ _⟩
  · by_cases hk : k ∈ L
    · refine (push_have h (by omega) (by omega) hk).mono ?_
      rintro e w' ⟨rfl, hB⟩
      exact ⟨⟨9, rfl, by decide, fun h => absurd h (by decide)⟩, hB⟩
    · have hl : ¬ (L.length < most) := fun hl => hno ⟨by omega, by omega, hk, hl⟩
      have := h.fit
      refine (push_full h (by omega) (by omega) hk (by omega)).mono ?_
      rintro e w' ⟨rfl, hB⟩
      exact ⟨⟨4, rfl, by decide, fun _ => by omega⟩, hB⟩
theorem tasks_erase {L : List Int} (h : Tasks L) (k : Int) : Tasks (L.erase k) := ⟨fun x hx => h.rng x (List.mem_of_mem_erase hx), h.nodup.erase k⟩
theorem filter_erase {L : List Int} (h : L.Nodup) (k : Int) : L.filter (fun x => x != k) = L.erase k := by
  rw [h.erase_eq_filter]; 
set_option maxHeartbeats 16000000 in
theorem order_walk (m : Int) (a : Option Addr) (len cap : Nat) (w : World) (hm : (Lit.int .u8 m).wf = true) (ha : Obj.Rows w [.int .i64, .int .i64] a len cap) :
    Calls Try.prog 6 #[.int .u8 m, .slice a len cap] w fun e w' => e = .returned (.bool true) ∧ Below w.heap.size w w' := by
  obtain ⟨hm0, hm1⟩ := u8_of hm
  by_cases h300 : 300 < len
  · go_enter Try.func6, Try.ntmps6
    go_wp2_with (fail)
    refine (alive_at _).mono ?_
    rintro e w2 ⟨rfl, hb2⟩
    go_wp2_with (fail)
    go_ret
    exact ⟨rfl, hb2⟩
  · go_enter Try.func6, Try.ntmps6
    go_wp2_with (fail)
    obtain ⟨n, hn⟩ : ∃ n : Nat, (1 + m % 32) = (n : Int) := ⟨(1 + m % 32).toNat, by omega⟩
    have hn1 : 1 ≤ n := by omega
    have hn2 : n ≤ 32 := by omega
    have hlen : len ≤ 300 := by omega
    simp only [hn]
    clear hn hm
    refine (new_at n w hn1 hn2).mono ?_
    rintro e w1 ⟨rfl, h0, hb1, hs1⟩
    go_wp2_with (fail)
    go_loopg [8, 9] len (fun kq v8 v9 w' => ∃ (i : Nat) (L : List Int), kq + i = len ∧ v9 = .int .i64 (i : Int) ∧ Below w.heap.size w w' ∧ w.heap.size < w'.heap.size ∧ FifoAt w' w.heap.size n L ∧ Tasks L ∧ IRow 3 .i64 w' (w.heap.size + 1) v8 L)
    case atStart => exact ⟨0, [], rfl, rfl, hb1, hs1, h0, Tasks.nil, IRow.nil _ _ _ _⟩
    case round =>
      clear hb1 hs1 h0
      obtain ⟨i, L, hi, rfl, hb, hsz, hF, hG, hI⟩ := hrel
      obtain ⟨A, c, rfl, hLc⟩ := hI.form
      have hL32 := hG.len
      have hfit := hF.fit
      cases gk with
      | zero =>
        have hin : ¬ ((i : Int) < (len : Int)) := by omega
        go_wp2_with (fail)
        refine (list_nums hF).mono ?_
        rintro e w2 ⟨A2, c2, rfl, hN, hBl⟩
        have hb2 := hb.trans (hBl.mono hb.size)
        have hN2 := (hI.below hBl).nums
        clear hF hI
        go_wp2_with (fail)
        refine (Same08.same_eq A2 A c2 c L _ hN hN2 (by omega)).mono ?_
        rintro e w3 ⟨rfl, n3, rfl⟩
        go_wp2_with (fail)
        refine (alive_at _).mono ?_
        rintro e w4 ⟨rfl, hb4⟩
        have hb5 := (below_drewN hb2 n3).trans (hb4.mono hb2.size)
        go_wp2_with (fail)
        go_ret
        exact ⟨rfl, hb5⟩
      | succ k1 =>
        have hin : ((i : Int) < (len : Int)) := by omega
        obtain ⟨xb, xo, rfl, hxb, hx⟩ := ha.at (by decide) i (by omega)
        obtain ⟨t0, c0, d0, rfl, wd0⟩ := hx 0 _ rfl
        obtain ⟨t1, c1, d1, rfl, wd1⟩ := hx 1 _ rfl
        simp only [List.length_cons, List.length_nil, Nat.reduceAdd, Nat.add_zero] at c0 c1
        rw [← hb.cell (p := ⟨_, _, none⟩) hxb] at c0 c1
        clear hx
        go_wp2_with (fail)
        obtain ⟨sb, hsb⟩ : ∃ sb, sb = wr.heap.size := ⟨_, rfl⟩
        have hbs : Below w.heap.size w (wr.alloc (.cells #[.int .i64 d0, .int .i64 d1] 60)) := hb.alloc hb.size _
        have hBs := Blk.new wr 60 [.int .i64 d0, .int .i64 d1]
        have hFs := hF.alloc (.cells #[.int .i64 d0, .int .i64 d1] 60)
        have hIs := hI.alloc (.cells #[.int .i64 d0, .int .i64 d1] 60)
        have hsz2 : w.heap.size < sb := by rw [hsb]; exact hsz
        refine (list_nums hFs).mono ?_
        rintro e w2 ⟨A2, c2, rfl, hN, hBl⟩
        have hb2 := hbs.trans (hBl.mono hbs.size)
        have hB2 := hBs.same (hBl.block _ hBs.lt)
        have hF2 := hFs.same (hBl.block _ hFs.lt)
        have hI2 := hIs.below hBl
        rw [← hsb] at hB2 ⊢
        clear hbs hBs hFs hIs hb hF hI hBl c0 c1 hsb hsz
        have s0 := hB2.cell 0
        have s1 := hB2.cell 1
        simp only [List.getElem?_cons_zero, List.getElem?_cons_succ] at s0 s1
        go_upto_block 2 with (fail)
        go_cut [8] (fun v8 wx => ∃ L : List Int, Below w.heap.size w wx ∧ w.heap.size < wx.heap.size ∧ FifoAt wx w.heap.size n L ∧ Tasks L ∧ IRow 3 .i64 wx (w.heap.size + 1) v8 L)
        case first =>
          by_cases hd0 : d0 = 0
          · subst hd0
            by_cases hok : 0 ≤ d1 ∧ d1 < 32 ∧ d1 ∉ L ∧ L.length < n
            · obtain ⟨k0, k1', k2, k3⟩ := hok
              have HP := push_at hF2 k0 k1' k2 k3
              have hG3 := hG.snoc k0 k1' k2
              clear k2 k3
              go_wp2_with (fail)
              refine HP.mono ?_
              rintro e w3 ⟨rfl, hF3, o3⟩
              have hI3 := hI2.far o3 (fun g h1 _ h2 => by omega)
              have hb3 := up hb2 (Nat.le_refl _) o3 (fun k h => Nat.le_of_eq h.symm)
              have s1' : w3.cell? ⟨sb, 1, none⟩ = some (.int .i64 d1) := by rw [← s1]; exact cell_same (o3.block sb hB2.lt (by omega))
              have hs3 : w.heap.size + 1 ≤ w3.heap.size := Nat.lt_of_lt_of_le (Nat.lt_trans hsz2 hB2.lt) o3.size
              clear HP hF2 hI2 hb2 s0 s1 hB2 o3 hN
              go_wp2_with (first | ((with_reducible refine gate_builtin (b := .append) (xs := #[.tmp 59, .tmp 62]) rfl ?_); at_builtin; go_loud (refine irow_append (W := w3) (w.heap.size + 1) rfl (.tmp 59) (.tmp 62) 51 3 .i64 8 rfl Try.underlying51 info2 (by decide) (.slice A L.length c) L d1 rfl rfl hI3 hs3 (by omega) ?_); intro v1 w4 hI4 hb4 hg4 hat4))
              go_meet
              exact ⟨L ++ [d1], hb3.trans (hb4.mono (Nat.le_succ _)), Nat.lt_of_lt_of_le hs3 hb4.size, hF3.same (hb4.block _ (Nat.lt_succ_self _)), hG3, hI4⟩
            · have HP := push_err hF2 hok
              clear hok
              go_wp2_with (fail)
              refine HP.mono ?_
              rintro e w3 ⟨⟨cd, rfl, hc0, hc4⟩, hB3⟩
              have hF3 := hF2.same (hB3.block _ hF2.lt)
              have hI3 := hI2.below hB3
              have hb3 := hb2.trans (hB3.mono hb2.size)
              have hN3 := hN.below hB3
              have hs3 : w.heap.size < w3.heap.size := hF3.lt
              have hc0' : (cd == 0) = false := by simpa using hc0
              have h4 : (cd == 4) = false ∨ ((cd == 4) = true ∧ ((L.length : Int) != (n : Int)) = false) := by
                by_cases e : cd = 4
                · exact .inr ⟨by simp [e], by simp [hc4 e]⟩
                · exact .inl (by simpa using e)
              clear HP hF2 hI2 hb2 s0 s1 hB2 hB3 hN hc0 hc4
              go_wp2_with (fail)
              refine (list_nums hF3).mono ?_
              rintro e w4 ⟨A4, c4, rfl, hN4, hB4⟩
              have hN5 := hN3.below hB4
              have hF4 := hF3.same (hB4.block _ hF3.lt)
              have hI4 := hI3.below hB4
              have hb4 := hb3.trans (hB4.mono hb3.size)
              clear hN3 hF3 hI3 hb3 hB4
              go_wp2_with (fail)
              refine (Same08.same_eq A4 A2 c4 c2 L _ hN4 hN5 (by omega)).mono ?_
              rintro e w5 ⟨rfl, n5, rfl⟩
              have hb5 := below_drewN hb4 n5
              have hF5 : FifoAt (w4.drewN n5) w.heap.size n L := hF4.same rfl
              have hI5 := hI4.drewN n5
              clear hN4 hN5 hF4 hI4 hb4
              rcases h4 with h4 | ⟨h4, h5⟩
              all_goals
                go_wp2_with (fail)
                go_meet
                exact ⟨L, hb5, hF5.lt, hF5, hG, hI5⟩
          · by_cases hd1 : d0 = 1
            · subst hd1
              clear hN
              cases L with
              | nil =>
                go_wp2_with (fail)
                refine (pop_none hF2).mono ?_
                rintro e w3 ⟨rfl, rfl⟩
                go_wp2_with (fail)
                go_meet
                exact ⟨[], hb2, hF2.lt, hF2, hG, hI2⟩
              | cons x r =>
                have hG3 := hG.tail
                go_wp2_with (fail)
                refine (pop_at hF2).mono ?_
                rintro e w3 ⟨rfl, hF3, o3⟩
                have hI3 := hI2.far o3 (fun g h1 _ h2 => by omega)
                have hb3 := up hb2 (Nat.le_refl _) o3 (fun k h => Nat.le_of_eq h.symm)
                obtain ⟨g, o, rfl, _, hgl, hc1, _, _, hcs⟩ := hI3.head (by simp)
                have hcx := hcs 0 (by simp)
                simp only [List.getD_cons_zero, Nat.add_zero] at hcx
                have hr0 : (0 : Int) < (r.length : Int) + 1 := by omega
                clear hcs s0 s1 hF2 hI2 hb2 o3
                by_cases hc : c = 1
                · subst hc
                  obtain ⟨rfl, hI4⟩ := hI3.tail0
                  clear hI3
                  go_wp2_with (fail)
                  go_meet
                  exact ⟨[], hb3, hF3.lt, hF3, hG3, hI4⟩
                · have hI4 := hI3.tail1 hc
                  clear hI3
                  go_wp2_with (fail)
                  go_meet
                  exact ⟨r, hb3, hF3.lt, hF3, hG3, hI4⟩
            · by_cases hd2 : d0 = 2
              · subst hd2
                clear hN
                have hP : ∃ cd : Int, Calls Try.prog 32 #[.pointer (some ⟨w.heap.size, 0, none⟩), .int .i64 d1] w2 (fun e w' => e = .returned (.int .i64 cd) ∧ FifoAt w' w.heap.size n (L.erase d1) ∧ Only (· = w.heap.size) w2 w') ∧
                    ∃ q : Bool, (cd == 0) = q ∧ (decide ((L.erase d1).length < L.length)) = q := by
                  by_cases hk : d1 ∈ L
                  · have := List.length_erase_of_mem hk
                    have := List.length_pos_of_mem hk
                    exact ⟨0, drop_at hF2 hk, true, rfl, decide_eq_true (by omega)⟩
                  · refine ⟨3, (drop_none hF2 hk).mono ?_, false, rfl, ?_⟩
                    · rintro e w' ⟨rfl, hB⟩
                      rw [List.erase_of_not_mem hk]
                      exact ⟨rfl, hF2.same (hB.block _ hF2.lt), (Only.none_of_below hB).mono (fun _ _ h => h.elim)⟩
                    · rw [List.erase_of_not_mem hk]; exact decide_eq_false (by omega)
                obtain ⟨cd, HP, q, hq1, hq2⟩ := hP
                have hG3 := tasks_erase hG d1
                have hEr := hid (filter_erase hG.nodup d1)
                have hEl : (L.erase d1).length ≤ L.length := List.length_erase_le
                go_wp2_with (fail)
                refine HP.mono ?_
                rintro e w3 ⟨rfl, hF3, o3⟩
                have hI3 := hI2.far o3 (fun g h1 _ h2 => by omega)
                have hb3 := up hb2 (Nat.le_refl _) o3 (fun k h => Nat.le_of_eq h.symm)
                have s1' : w3.cell? ⟨sb, 1, none⟩ = some (.int .i64 d1) := by rw [← s1]; exact cell_same (o3.block sb hB2.lt (by omega))
                have hs3 : w.heap.size + 1 ≤ w3.heap.size := Nat.lt_of_lt_of_le (Nat.lt_trans hsz2 hB2.lt) o3.size
                have hsb3 : sb < w3.heap.size := Nat.lt_of_lt_of_le hB2.lt o3.size
                generalize hEE : L.erase d1 = E at *
                clear HP hF2 hI2 hb2 s0 s1 hB2 o3 hEE
                go_wp2_with (fail)
                go_loopg [16, 17] L.length (fun kq v16 v17 w' => ∃ j : Nat, kq + j = L.length ∧ v17 = .int .i64 (j : Int) ∧ Below w3.heap.size w3 w' ∧ IRow 3 .i64 w' w3.heap.size v16 ((L.take j).filter (fun x => x != d1)))
                case atStart => exact ⟨0, rfl, rfl, Below.refl _ _, IRow.nil _ _ _ _⟩
                case round =>
                  obtain ⟨j, hj, rfl, hbl, hIl⟩ := hrel
                  obtain ⟨A6, c6, rfl, hc6⟩ := hIl.form
                  have hlen6 : ((L.take j).filter (fun x => x != d1)).length ≤ 32 := by
                    have := List.length_filter_le (fun x => x != d1) (L.take j)
                    have := List.length_take_le j L
                    omega
                  cases gk with
                  | zero =>
                    have hin2 : ¬ ((j : Int) < (L.length : Int)) := by omega
                    obtain rfl : j = L.length := by omega
                    rw [List.take_length, hEr.out] at hIl ⊢
                    have hb4 := hb3.trans (hbl.mono hb3.size)
                    have hF4 := hF3.same (hbl.block _ hF3.lt)
                    have hI4 := hIl.lower hs3
                    clear hIl hI3 hF3 hb3 s1'
                    go_wp2_with (fail)
                    go_meet
                    exact ⟨E, hb4, hF4.lt, hF4, hG3, hI4⟩
                  | succ k3 =>
                    have hin2 : ((j : Int) < (L.length : Int)) := by omega
                    obtain ⟨g, o, rfl, _, hgl, _, _, _, hcs⟩ := hI3.head (by omega)
                    have hcx := hcs j (by omega)
                    obtain ⟨x, hx⟩ : ∃ x, L[j]? = some x := ⟨_, List.getElem?_eq_getElem (by omega)⟩
                    rw [show L.getD j 0 = x by simp [List.getD, hx], ← hbl.cell (p := ⟨_, _, none⟩) hgl] at hcx
                    have s1r : wr.cell? ⟨sb, 1, none⟩ = some (.int .i64 d1) := by rw [← s1']; exact hbl.cell (p := ⟨_, _, none⟩) hsb3
                    have htk : (L.take (j + 1)).filter (fun x => x != d1) = (L.take j).filter (fun x => x != d1) ++ if x != d1 then [x] else [] := by
                      rw [List.take_add_one, hx, List.filter_append]
                      simp [List.filter_cons]
                    have htkH := hid htk
                    clear hcs hx htk
                    generalize (L.take j).filter (fun x => x != d1) = M at *
                    by_cases e : x = d1
                    · have e' : (x != d1) = false := by simp [e]
                      rw [e'] at htkH
                      simp only [Bool.false_eq_true, if_false, List.append_nil] at htkH
                      have eH := hid e
                      clear e
                      go_wp2_with (go_quiet (fail))
                      go_roundg k3
                      case measure => omega
                      case rel => exact ⟨j + 1, by omega, by go_num, below_drewN hbl _, by rw [htkH.out]; exact hIl.drewN _⟩
                    · have e' : (x != d1) = true := by simp [e]
                      rw [e'] at htkH
                      simp only [if_true] at htkH
                      have hIw := fun m => hIl.drewN m
                      have hIwH := hid hIw
                      have hbs := hbl.size
                      clear e hIw
                      go_wp2_with (first | go_quiet (fail) | ((with_reducible refine gate_builtin (b := .append) (xs := #[.tmp 126, .tmp 131]) rfl ?_); at_builtin; go_loud (refine irow_append (W := wr.drewN _) w3.heap.size rfl (.tmp 126) (.tmp 131) 51 3 .i64 8 rfl Try.underlying51 info2 (by decide) (.slice A6 M.length c6) M x rfl rfl (hIwH.out _) hbs (by omega) ?_); intro v1 w4 hI4 hb4 hg4 hat4))
                      have hb5 : Below w3.heap.size w3 w4 := (below_drewN hbl _).trans hb4
                      go_roundg k3
                      case measure => omega
                      case rel => exact ⟨j + 1, by omega, by go_num, hb5, by rw [htkH.out]; exact hI4⟩
              · clear hN
                go_wp2_with (fail)
                go_meet
                exact ⟨L, hb2, hF2.lt, hF2, hG, hI2⟩
        case rest =>
          clear hF2 hI2 hb2 hG hN s0 s1 hB2 hL32 hfit hsz2 hLc
          obtain ⟨L, hb, hsz, hF, hG, hI⟩ := hcut
          obtain ⟨A, c, rfl, hLc⟩ := hI.form
          have hL32 := hG.len
          have hfit := hF.fit
          have hfit' : ¬ ((n : Int) < (L.length : Int)) := by omega
          go_wp2_with (fail)
          refine (len_at hF).mono ?_
          rintro e w2 ⟨rfl, rfl⟩
          go_wp2_with (fail)
          go_roundg k1
          case measure => omega
          case rel => exact ⟨i + 1, L, by omega, by go_num, hb, hsz, hF, hG, hI⟩
end Go.Proofs.Ytghbcdpnngheoac.FifoOrder
