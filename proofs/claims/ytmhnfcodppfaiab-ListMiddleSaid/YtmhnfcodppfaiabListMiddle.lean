
/- The walk of ListMiddle. -/
import Derived.Test.YtmhnfcodppfaiabListWalk
import Derived.Test.YtmhnfcodppfaiabRow
namespace Go.Proofs.Ytmhnfcodppfaiab.ListCode
open Go Go.RowKit Go.Proofs.Ytmhnfcodppfaiab.Obj Go.Proofs.Ytmhnfcodppfaiab.ListPure Go.Proofs.Ytmhnfcodppfaiab.Row Go.Proofs.YtmhnfcodppfaiabW.PrintWords Go.Proofs.YtmhnfcodppfaiabW.PrintMore
set_option linter.unusedVariables false
set_option maxRecDepth 100000
theorem ints_at {w : World} {a : Option Addr} {len cap : Nat} {zs : List Int} (h : Obj.Ints .i64 w a len cap zs) (i : Nat) (hi : i < len) :
    ∃ b o, a = some ⟨b, o, none⟩ ∧ b < w.heap.size ∧ len ≤ cap ∧ w.cell? ⟨b, o + i, none⟩ = some (.int .i64 (zs.getD i 0)) ∧ (Lit.int .i64 (zs.getD i 0)).wf = true := by
  rcases h with ⟨_, h0, _⟩ | ⟨x, rfl, h1, h2, h3, h4, h5⟩
  · omega
  · obtain ⟨b, o, e, hb, hc⟩ := (Nums.mk (k := .i64) (w := w) (a := some x) (l := zs) (fun i hi => ⟨x, rfl, h4 i hi⟩)).at i (by omega)
    have hm : zs.getD i 0 ∈ zs := by simp [List.getD, List.getElem?_eq_getElem (show i < zs.length by omega)]
    exact ⟨b, o, e, hb, h1, hc, h5 _ hm⟩
theorem put_zero {L : List Int} {i : Int} (h : putC L i = 0) : putL L i = L ++ [i] := by unfold putL; rw [if_pos h]
theorem put_not {L : List Int} {i : Int} (h : ¬ putC L i = 0) : putL L i = L := by unfold putL; rw [if_neg h]
theorem erase_filter {L : List Int} (h : L.Nodup) (d : Int) : L.filter (fun x => !decide (x = d)) = L.erase d := by
  rw [h.erase_eq_filter]
  congr 1
theorem take_filter_yes {L : List Int} {k : Nat} {x d : Int} (hx : L[k]? = some x) (h : x ≠ d) : (L.take (k + 1)).filter (fun x => !decide (x = d)) = (L.take k).filter (fun x => !decide (x = d)) ++ [x] := by
  rw [List.take_add_one, hx, List.filter_append]
  simp [h]
theorem take_filter_no {L : List Int} {k : Nat} {d : Int} (hx : L[k]? = some d) : (L.take (k + 1)).filter (fun x => !decide (x = d)) = (L.take k).filter (fun x => !decide (x = d)) := by
  rw [List.take_add_one, hx, List.filter_append]
  simp
theorem info3 : (Try.prog.info? 3).map (fun i => (i.zero, i.size, i.bytes)) = some (some (.int .i64 0), 1, 8) := by kernel_rfl
set_option maxHeartbeats 16000000 in
theorem middle_walk (a : Option Addr) (len cap : Nat) (zs : List Int) (a2 : Option Addr) (len2 cap2 : Nat) (ys : List Int) (w : World)
    (ha : Obj.Ints .i64 w a len cap zs) (ha2 : Obj.Ints .i64 w a2 len2 cap2 ys) :
    Calls Try.prog 3 #[.slice a len cap, .slice a2 len2 cap2] w fun e w' => e = .returned (.bool true) ∧ Below w.heap.size w w' := by
  by_cases h100 : 200 < len ∨ 200 < len2
  · by_cases h1 : 200 < len
    · go_enter Try.func3, Try.ntmps3
      go_wp2_with (fail)
      refine (alive_at _).mono ?_
      rintro e w2 ⟨rfl, hb2⟩
      go_wp2_with (fail)
      go_ret
      exact ⟨rfl, hb2⟩
    · have h2 : 200 < len2 := by omega
      clear h100
      go_enter Try.func3, Try.ntmps3
      go_wp2_with (fail)
      refine (alive_at _).mono ?_
      rintro e w2 ⟨rfl, hb2⟩
      go_wp2_with (fail)
      go_ret
      exact ⟨rfl, hb2⟩
  · have hl1 : len ≤ 200 := by omega
    have hl2 : len2 ≤ 200 := by omega
    have hl1' : ¬ (200 < len) := by omega
    have hl2' : ¬ (200 < len2) := by omega
    clear h100
    go_enter Try.func3, Try.ntmps3
    go_wp2_with (fail)
    refine (lnew_at w).mono ?_
    rintro e w1 ⟨rfl, h0, hb0⟩
    go_wp2_with (fail)
    go_loopg [6, 7] len (fun kq v6 v7 w' => ∃ (i : Nat) (L : List Int), kq + i = len ∧ v7 = .int .i64 (i : Int) ∧ L.length ≤ i ∧ LsAt w' (w.heap.size + 1) w.heap.size L ∧ IRow 3 .i64 w' (w.heap.size + 2) v6 L ∧ Below w.heap.size w w')
    case atStart => exact ⟨0, [], rfl, rfl, by simp, h0, IRow.nil _ _ _ _, hb0⟩
    case round =>
      clear h0 hb0
      obtain ⟨i, L, hi, rfl, hLi, hS, hR, hb⟩ := hrel
      have hsz := hS.lt
      obtain ⟨A6, c6, rfl, hc6⟩ := hR.form
      cases gk with
      | zero =>
        have hin : ¬ ((i : Int) < (len : Int)) := by omega
        have hL200 : L.length ≤ 200 := by omega
        go_wp2_with (fail)
        clear hin hi hLi hc6
        go_loopg [6, 8] len2 (fun kq v6 v8 w' => ∃ (i : Nat) (L : List Int), kq + i = len2 ∧ v8 = .int .i64 (i : Int) ∧ L.length ≤ 200 ∧ LsAt w' (w.heap.size + 1) w.heap.size L ∧ IRow 3 .i64 w' (w.heap.size + 2) v6 L ∧ Below w.heap.size w w')
        case atStart => exact ⟨0, L, rfl, rfl, hL200, hS, hR, hb⟩
        case round =>
          clear hS hR hb hL200 hsz
          obtain ⟨i, L, hi, rfl, hLi, hS, hR, hb⟩ := hrel
          have hsz := hS.lt
          obtain ⟨A6, c6, rfl, hc6⟩ := hR.form
          cases gk with
          | zero =>
            have hin : ¬ ((i : Int) < (len2 : Int)) := by omega
            go_wp2_with (fail)
            clear hin hi hc6
            go_loopg [11] L.length (fun kq v11 w' => ∃ k : Nat, kq + k = L.length ∧ v11 = .int .i64 (k : Int) ∧ LsAt w' (w.heap.size + 1) w.heap.size (L.drop k) ∧ IRow 3 .i64 w' (w.heap.size + 2) (.slice A6 L.length c6) L ∧ Below w.heap.size w w')
            case atStart => exact ⟨0, rfl, rfl, hS, hR, hb⟩
            case round =>
              clear hS hR hb hsz
              obtain ⟨k, hk, rfl, hS, hR, hb⟩ := hrel
              have hsz := hS.lt
              cases gk with
              | zero =>
                have hin2 : ¬ ((k : Int) < (L.length : Int)) := by omega
                rw [List.drop_of_length_le (by omega)] at hS
                clear hR
                go_wp2_with (fail)
                refine (pop_none hS).mono ?_
                rintro e w2 ⟨rfl, rfl⟩
                go_wp2_with (fail)
                refine (alive_at _).mono ?_
                rintro e w3 ⟨rfl, hb3⟩
                have hb4 := hb.trans (hb3.mono hb.size)
                go_wp2_with (fail)
                go_ret
                exact ⟨rfl, hb4⟩
              | succ k1 =>
                have hin2 : ((k : Int) < (L.length : Int)) := by omega
                have hlt : k < L.length := by omega
                obtain ⟨x, hx⟩ : ∃ x, L[k]? = some x := ⟨_, List.getElem?_eq_getElem hlt⟩
                have hdr : L.drop k = x :: L.drop (k + 1) := by
                  obtain ⟨h1, h2⟩ := List.getElem?_eq_some_iff.1 hx
                  rw [← h2]; exact List.drop_eq_getElem_cons h1
                rw [hdr] at hS
                have hxd : L.getD k 0 = x := by simp [List.getD, hx]
                clear hx hdr
                go_wp2_with (fail)
                refine (pop_at hS).mono ?_
                rintro e w2 ⟨rfl, hS2, o2⟩
                have hb2 := up hb (Nat.le_refl _) o2 (fun k h => by omega)
                have hR2 := hR.far o2 (fun g h1 _ h2 => by omega)
                obtain ⟨g, o, rfl, hgB, hgl, hc0, _, hnc, hcells⟩ := hR2.head (by omega)
                have hcx := hcells k hlt
                rw [hxd] at hcx
                clear hS hR hb hcells
                go_wp2_with (fail)
                go_roundg k1
                case measure => omega
                case rel => exact ⟨k + 1, by omega, by go_num, hS2, hR2, hb2⟩
          | succ k1 =>
            have hin : ((i : Int) < (len2 : Int)) := by omega
            obtain ⟨xb, xo, rfl, hxb, hcap, hcx, hwf⟩ := ints_at ha2 i (by omega)
            rw [← hb.cell (p := ⟨_, _, none⟩) hxb] at hcx
            generalize ys.getD i 0 = d at *
            generalize wr = W0 at *
            have hcells : ∀ W, Below W0.heap.size W0 W → W.cell? ⟨xb, xo + i, none⟩ = some (.int .i64 d) := fun W hB => by rw [hB.cell (p := ⟨_, _, none⟩) (Nat.lt_of_lt_of_le hxb hb.size)]; exact hcx
            have hcH := hid hcells
            have hSH := hid hS
            have hRH := hid hR
            have hbH := hid hb
            clear hcells hS hb hcx
            go_wp2_with (fail)
            go_loopg [9, 10] L.length (fun kq v9 v10 w' => ∃ k : Nat, kq + k = L.length ∧ v10 = .int .i64 (k : Int) ∧ IRow 3 .i64 w' W0.heap.size v9 ((L.take k).filter (fun x => !decide (x = d))) ∧ Below W0.heap.size W0 w')
            case atStart => exact ⟨0, rfl, rfl, IRow.nil _ _ _ _, Below.refl _ _⟩
            case round =>
              clear hR
              obtain ⟨k, hk, rfl, hI, hb2⟩ := hrel
              have hcx := hcH.out _ hb2
              obtain ⟨A9, c9, rfl, hc9⟩ := hI.form
              cases gk with
              | zero =>
                have hin2 : ¬ ((k : Int) < (L.length : Int)) := by omega
                rw [List.take_of_length_le (by omega)] at hI hc9 ⊢
                have hnd := hSH.out.nodup
                rw [erase_filter hnd] at hI hc9 ⊢
                have hS2 := hSH.out.below hb2
                have hD := drop_at hS2 hwf
                have hnm : decide (d ∈ L.erase d) = false := by simpa using (fun h => (List.Nodup.mem_erase_iff hnd).1 h |>.1 rfl)
                have hL1 : (L.erase d).length ≤ 200 := Nat.le_trans (List.length_erase_le ..) hLi
                have hsz2 := hb2.size
                have hb3 := hbH.out.trans (hb2.mono hbH.out.size)
                unfold dropC at hD
                have hnmH := hid hnm
                by_cases hdm : d ∈ L
                · rw [if_pos hdm] at hD
                  have hlt : (((L.erase d).length : Nat) : Int) < ((L.length : Nat) : Int) := by
                    have := List.length_erase_of_mem hdm
                    have := List.length_pos_of_mem hdm
                    omega
                  generalize L.erase d = E at *
                  clear hdm hnm hnd hS2
                  go_wp2_with (fail)
                  refine hD.mono ?_
                  rintro e w2 ⟨rfl, hS3, o3⟩
                  have hb4 := up hb3 (Nat.le_refl _) o3 (fun k h => by omega)
                  have hI3 := hI.far o3 (fun g h1 _ h2 => by omega)
                  have hcx3 : w2.cell? ⟨xb, xo + i, none⟩ = some (.int .i64 d) := by rw [← hcx]; exact cell_same (o3.block xb (Nat.lt_of_lt_of_le hxb (Nat.le_trans hbH.out.size hsz2)) (by omega))
                  have hH := has_at hS3 hwf
                  rw [hnmH.out] at hH
                  clear hD hI hcx
                  go_wp2_with (fail)
                  refine hH.mono ?_
                  rintro e w3 ⟨rfl, hB3⟩
                  have hS4 := hS3.below hB3
                  have hI4 := hI3.below hB3
                  have hb5 := hb4.trans (hB3.mono hb4.size)
                  clear hH hS3 hI3 hb4 hB3
                  go_wp2_with (fail)
                  go_roundg k1
                  case measure => omega
                  case rel => exact ⟨i + 1, E, by omega, by go_num, hL1, hS4, hI4.lower (by omega), hb5⟩
                · rw [if_neg hdm] at hD
                  rw [List.erase_of_not_mem hdm] at hI hD hc9 hnmH hL1 ⊢
                  clear hdm hnm hnd hS2
                  go_wp2_with (fail)
                  refine hD.mono ?_
                  rintro e w2 ⟨rfl, hS3, o3⟩
                  have hb4 := up hb3 (Nat.le_refl _) o3 (fun k h => by omega)
                  have hI3 := hI.far o3 (fun g h1 _ h2 => by omega)
                  have hcx3 : w2.cell? ⟨xb, xo + i, none⟩ = some (.int .i64 d) := by rw [← hcx]; exact cell_same (o3.block xb (Nat.lt_of_lt_of_le hxb (Nat.le_trans hbH.out.size hsz2)) (by omega))
                  have hH := has_at hS3 hwf
                  rw [hnmH.out] at hH
                  clear hD hI hcx
                  go_wp2_with (fail)
                  refine hH.mono ?_
                  rintro e w3 ⟨rfl, hB3⟩
                  have hS4 := hS3.below hB3
                  have hI4 := hI3.below hB3
                  have hb5 := hb4.trans (hB3.mono hb4.size)
                  clear hH hS3 hI3 hb4 hB3
                  go_wp2_with (fail)
                  go_roundg k1
                  case measure => omega
                  case rel => exact ⟨i + 1, L, by omega, by go_num, hL1, hS4, hI4.lower (by omega), hb5⟩
              | succ k2 =>
                have hin2 : ((k : Int) < (L.length : Int)) := by omega
                have hlt : k < L.length := by omega
                obtain ⟨x, hx⟩ : ∃ x, L[k]? = some x := ⟨_, List.getElem?_eq_getElem hlt⟩
                have hxd : L.getD k 0 = x := by simp [List.getD, hx]
                obtain ⟨g, o, rfl, hgB, hgl, hc0, _, hnc, hcells⟩ := hRH.out.head (by omega)
                have hcy := hcells k hlt
                rw [hxd] at hcy
                have hcyH : ∀ W, Below W0.heap.size W0 W → W.cell? ⟨g, o + k, none⟩ = some (.int .i64 x) := fun W hB => by rw [hB.cell (p := ⟨_, _, none⟩) hgl]; exact hcy
                have hcyI := hid hcyH
                have hcy2 := hcyH _ hb2
                have hsz2 := hb2.size
                have hfl : ((L.take k).filter (fun x => !decide (x = d))).length ≤ k := Nat.le_trans (List.length_filter_le ..) (List.length_take_le ..)
                clear hcells hcy hcyH
                by_cases hxe : x = d
                · have ht := hid (take_filter_no (hxe ▸ hx))
                  have hne : (x != d) = false := by simp [hxe]
                  subst hxe
                  clear hx hxd
                  go_wp2_with (go_quiet (fail))
                  go_roundg k2
                  case measure => omega
                  case rel => exact ⟨k + 1, by omega, by go_num, by rw [ht.out]; exact hI.drewN _, ⟨hb2.os, hb2.tape, hb2.output, hb2.size, hb2.block⟩⟩
                · have ht := hid (take_filter_yes hx hxe)
                  have hne : (x == d) = false := by simp [hxe]
                  generalize (L.take k).filter (fun x => !decide (x = d)) = M at *
                  clear hx hxd
                  have hbd : ∀ n, Below W0.heap.size W0 (wr.drewN n) := fun n => ⟨hb2.os, hb2.tape, hb2.output, hb2.size, hb2.block⟩
                  have hbdH := hid hbd
                  clear hbd
                  go_wp2_with (fail)
                  go_quiet (fail)
                  go_wp2_with (first | ((with_reducible refine gate_builtin (b := .append) (xs := #[.tmp 69, .tmp 74]) rfl ?_); at_builtin; go_loud (refine irow_append W0.heap.size rfl (.tmp 69) (.tmp 74) 22 3 .i64 8 rfl Try.underlying22 info3 (by decide) (.slice A9 M.length c9) M x rfl rfl (hI.drewN _) hsz2 (by omega) ?_); intro v1 w3 hI3 hb3 hg3 hat3))
                  go_roundg k2
                  case measure => omega
                  case rel => exact ⟨k + 1, by omega, by go_num, by rw [ht.out]; exact hI3, (hbdH.out _).trans hb3⟩
      | succ k1 =>
        have hin : ((i : Int) < (len : Int)) := by omega
        obtain ⟨xb, xo, rfl, hxb, hcap, hcx, hwf⟩ := ints_at ha i (by omega)
        rw [← hb.cell (p := ⟨_, _, none⟩) hxb] at hcx
        generalize zs.getD i 0 = d at *
        have hbz := hid hb
        have hxbz : ∀ W, Below w.heap.size w W → W.cell? ⟨xb, xo + i, none⟩ = some (.int .i64 d) := fun W hB => by rw [hB.cell (p := ⟨_, _, none⟩) hxb, ← hbz.out.cell (p := ⟨_, _, none⟩) hxb]; exact hcx
        have hxH := hid hxbz
        clear hxbz
        have hP := put_at hS d
        by_cases hp : putC L d = 0
        · rw [hp, put_zero hp] at hP
          clear hS hb hp
          go_wp2_with (fail)
          refine hP.mono ?_
          rintro e w2 ⟨rfl, hS2, o2⟩
          have hb2 := up hbz.out (Nat.le_refl _) o2 (fun k h => by omega)
          have hcx2 := hxH.out _ hb2
          have hR2 := hR.far o2 (fun g h1 _ h2 => by omega)
          have hsz2 : w.heap.size + 2 ≤ w2.heap.size := by have := hS2.lt; omega
          clear hP hR o2 hcx
          go_wp2_with (first | ((with_reducible refine gate_builtin (b := .append) (xs := #[.tmp 41, .tmp 46]) rfl ?_); at_builtin; go_loud (refine irow_append (W := w2) (w.heap.size + 2) rfl (.tmp 41) (.tmp 46) 22 3 .i64 8 rfl Try.underlying22 info3 (by decide) (.slice A6 L.length c6) L d rfl rfl hR2 hsz2 (by omega) ?_); intro v1 w3 hI3 hb3 hg3 hat3))
          have hS3 := hS2.only (Only.of_below hb3) (by omega) (by omega)
          have hb4 := hb2.trans (hb3.mono (by omega))
          go_roundg k1
          case measure => omega
          case rel => exact ⟨i + 1, L ++ [d], by omega, by go_num, by simp; omega, hS3, hI3, hb4⟩
        · rw [put_not hp] at hP
          have hp' : (putC L d == 0) = false := beq_eq_false_iff_ne.2 hp
          generalize putC L d = pc at *
          clear hS hb hp
          go_wp2_with (fail)
          refine hP.mono ?_
          rintro e w2 ⟨rfl, hS2, o2⟩
          have hb2 := up hbz.out (Nat.le_refl _) o2 (fun k h => by omega)
          have hR2 := hR.far o2 (fun g h1 _ h2 => by omega)
          go_wp2_with (fail)
          go_roundg k1
          case measure => omega
          case rel => exact ⟨i + 1, L, by omega, by go_num, by omega, hS2, hR2, hb2⟩
end Go.Proofs.Ytmhnfcodppfaiab.ListCode
