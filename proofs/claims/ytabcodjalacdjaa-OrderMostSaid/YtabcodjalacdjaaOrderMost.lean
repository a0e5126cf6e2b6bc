
/- The walk of OrderMost. -/
import Derived.Test.YtabcodjalacdjaaOrderFair
namespace Go.Proofs.Ytabcodjalacdjaa.OrderMost
open Go Go.RowKit Go.Proofs.Ytabcodjalacdjaa.Obj Go.Proofs.Ytabcodjalacdjaa.Row Go.Proofs.Ytabcodjalacdjaa.OrderCode Go.Proofs.Ytabcodjalacdjaa.OrderFair Go.Proofs.YtabcodjalacdjaaW.PrintWords Go.Proofs.YtabcodjalacdjaaW.PrintMore
set_option linter.unusedVariables false
set_option maxRecDepth 100000
/-- The bits of a row's numbers. -/
def orb (l : List Int) : Nat := l.foldl (fun s x => s ||| 2 ^ x.toNat) 0
theorem orb_snoc (l : List Int) (x : Int) : orb (l ++ [x]) = orb l ||| 2 ^ x.toNat := by simp [orb, List.foldl_append]
theorem orb_bit (j : Nat) : ∀ (l : List Int) (s : Nat), (∀ x ∈ l, 0 ≤ x) → (l.foldl (fun s x => s ||| 2 ^ x.toNat) s).testBit j = (s.testBit j || decide ((j : Int) ∈ l))
  | [], s, _ => by simp
  | a :: r, s, h => by
    have h0 := h a (List.mem_cons_self ..)
    rw [List.foldl_cons, orb_bit j r _ (fun x hx => h x (List.mem_cons_of_mem _ hx)), Nat.testBit_or, Nat.testBit_two_pow, Bool.or_assoc]
    congr 1
    rw [← Bool.decide_or]
    congr 1
    simp only [List.mem_cons, eq_iff_iff]
    constructor
    · rintro (h | h)
      · exact .inl (by omega)
      · exact .inr h
    · rintro (h | h)
      · exact .inl (by omega)
      · exact .inr h
theorem orb_full {n : Nat} {L : List Int} (h : Full n L) : orb L = 2 ^ n - 1 := by
  apply Nat.eq_of_testBit_eq
  intro j
  rw [orb, orb_bit j L 0 (fun x hx => by obtain ⟨m, _, rfl⟩ := h.mem.1 hx; omega), Nat.zero_testBit, Bool.false_or, Nat.testBit_two_pow_sub_one]
  congr 1
  rw [eq_iff_iff, h.mem]
  exact ⟨fun ⟨m, h1, h2⟩ => by omega, fun h => ⟨j, h, rfl⟩⟩
theorem orb_lt {n : Nat} {L : List Int} (h : Full n L) (i : Nat) : orb (L.take i) < 2 ^ n := by
  have : ∀ j, (orb (L.take i)).testBit j = true → (2 ^ n - 1 : Nat).testBit j = true := fun j hj => by
    rw [← orb_full h]
    rw [orb, orb_bit j _ 0 (fun x hx => by obtain ⟨m, _, rfl⟩ := h.mem.1 (List.mem_of_mem_take hx); omega), Nat.zero_testBit, Bool.false_or, decide_eq_true_eq] at hj
    rw [orb, orb_bit j L 0 (fun x hx => by obtain ⟨m, _, rfl⟩ := h.mem.1 hx; omega), Nat.zero_testBit, Bool.false_or, decide_eq_true_eq]
    exact List.mem_of_mem_take hj
  apply Nat.lt_pow_two_of_testBit
  intro j hj
  cases hb : (orb (L.take i)).testBit j with
  | false => rfl
  | true =>
    have := this j hb
    rw [Nat.testBit_two_pow_sub_one, decide_eq_true_eq] at this
    omega
/-- The row, turned by so many. -/
def turn (L : List Int) (i : Nat) : List Int := L.drop i ++ L.take i
theorem turn_full {n i : Nat} {L : List Int} (h : Full n L) : Full n (turn L i) := by
  refine List.Perm.trans ?_ h
  unfold turn
  exact List.perm_append_comm.trans (List.Perm.of_eq (List.take_append_drop i L))
theorem turn_head {L : List Int} {i : Nat} {x : Int} (hx : L[i]? = some x) : turn L i = x :: (L.drop (i + 1) ++ L.take i) := by
  obtain ⟨h, e⟩ := List.getElem?_eq_some_iff.1 hx
  unfold turn
  rw [List.drop_eq_getElem_cons h, e]; rfl
theorem turn_next {L : List Int} {i : Nat} {x : Int} (hx : L[i]? = some x) : tookL (turn L i) x = turn L (i + 1) := by
  rw [turn_head hx, rot, List.append_assoc]
  unfold turn
  rw [List.take_add_one, hx]; rfl
theorem all_ready {n : Nat} {L : List Int} (h : Full n L) : L.filter (rdy (2 ^ n - 1)) = L := by
  rw [List.filter_eq_self]
  intro x hx
  obtain ⟨j, hj, rfl⟩ := h.mem.1 hx
  simp [rdy, Nat.testBit_two_pow_sub_one, hj]
theorem age_head {n : Nat} {x : Int} {l : List Int} (h : Full n (x :: l)) : ageV (x :: l) x = (n : Int) - 1 := by
  unfold ageV
  rw [if_pos (List.mem_cons_self ..), List.idxOf_cons_self, h.len]
  omega
theorem age_last {n : Nat} {x : Int} {l : List Int} (h : Full n (x :: l)) : ageV (tookL (x :: l) x) x = 0 := by
  have hm : x ∈ x :: l := List.mem_cons_self ..
  unfold ageV
  rw [if_pos ((tookL_perm hm).mem_iff.2 hm), idx_took_self h.nodup hm, tookL_len hm, h.len]
  have := h.len
  simp at this
  omega
theorem nodup_inj {L : List Int} (h : L.Nodup) {i j : Nat} (hi : i < L.length) (hj : j < L.length) (e : L[i] = L[j]) : i = j := by
  rw [List.Nodup, List.pairwise_iff_getElem] at h
  rcases Nat.lt_trichotomy i j with hl | hl | hl
  · exact absurd e (h i j hi hj hl)
  · exact hl
  · exact absurd e.symm (h j i hj hi hl)
theorem or_step {n : Nat} (hn : n ≤ 6) {L : List Int} (h : Full n L) {j k : Nat} (hx : L[j]? = some (k : Int)) (hk : k < n) : bits BinOp.or IntKind.u64 (orb (L.take j) : Int) (IntKind.u64.wrap (2 ^ k)) = (orb (L.take (j + 1)) : Int) := by
  have h1 := orb_lt h j
  have h6 : (2 : Nat) ^ n ≤ 2 ^ 6 := Nat.pow_le_pow_right (by decide) hn
  have h5 : (2 : Nat) ^ k ≤ 2 ^ 6 := Nat.pow_le_pow_right (by decide) (by omega)
  have e : IntKind.u64.wrap (2 ^ k) = ((2 ^ k : Nat) : Int) := by
    have : k = 0 ∨ k = 1 ∨ k = 2 ∨ k = 3 ∨ k = 4 ∨ k = 5 := by omega
    rcases this with rfl | rfl | rfl | rfl | rfl | rfl <;> decide
  rw [e, (bits_nat .u64 64 (by decide) u64_id _ _ (by omega) (by omega)).2, List.take_add_one, hx]
  simp only [Option.toList_some, orb_snoc]
  rfl
structure Stand (w : World) (o n : Nat) (M : List Int) (A : Option Addr) (L : List Int) : Prop where
  ord : OrdAt w o M
  row : Nums w .i64 A L
theorem Stand.below {w w' : World} {o n : Nat} {M : List Int} {A : Option Addr} {L : List Int} (h : Stand w o n M A L) (hb : Below w.heap.size w w') : Stand w' o n M A L := ⟨h.ord.below hb, h.row.below hb⟩
set_option maxHeartbeats 16000000 in
theorem most_walk (m : Int) (a : Option Addr) (len cap : Nat) (zs : List Int) (w : World) (hm : (Lit.int .u8 m).wf = true) (ha : Obj.Ints .u8 w a len cap zs) :
    Calls Try.prog 4 #[.int .u8 m, .slice a len cap] w fun e w' => e = .returned (.bool true) ∧ Below w.heap.size w w' := by
  obtain ⟨hm0, hm1⟩ := u8_of hm
  by_cases h300 : 300 < len
  · go_enter Try.func4, Try.ntmps4
    go_wp2_with (fail)
    refine (alive_at _).mono ?_
    rintro e w2 ⟨rfl, hb2⟩
    go_wp2_with (fail)
    go_ret
    exact ⟨rfl, hb2⟩
  · obtain ⟨n, hn⟩ : ∃ n : Nat, (1 + m % 6) = (n : Int) := ⟨(1 + m % 6).toNat, by omega⟩
    have hn1 : 1 ≤ n := by omega
    have hn2 : n ≤ 6 := by omega
    have hlen : len ≤ 300 := by omega
    go_enter Try.func4, Try.ntmps4
    go_wp2_with (fail)
    clear hn hm
    refine (new_at n hn1 hn2 w).mono ?_
    rintro e w1 ⟨rfl, hb1, h1⟩
    go_wp2_with (fail)
    go_loopg [8] len (fun kq v8 w' => ∃ (i : Nat) (L : List Int), kq + i = len ∧ v8 = .int .i64 (i : Int) ∧ Below w.heap.size w w' ∧ OrdAt w' w.heap.size L ∧ Full n L)
    case atStart => exact ⟨0, _, rfl, rfl, hb1, h1, Full.start n⟩
    case round =>
      clear hb1 h1
      obtain ⟨i, L, hi, rfl, hb, hO, hF⟩ := hrel
      cases gk with
      | succ k1 =>
        have hin : ((i : Int) < (len : Int)) := by omega
        obtain ⟨b0, o0, z, rfl, hb0, hc0, hz⟩ := ints_at ha i (by omega)
        rw [← hb.cell (p := ⟨_, _, none⟩) hb0] at hc0
        obtain ⟨hz0, hz1⟩ := u8_of hz
        have hnz : ((n : Int) == 0) = false := by rw [beq_eq_false_iff_ne]; omega
        have hmn := Int.emod_nonneg z (show (n : Int) ≠ 0 by omega)
        have hml := Int.emod_lt_of_pos z (show (0 : Int) < n by omega)
        have hkm : z % (n : Int) ∈ L := hF.mem.2 ⟨(z % (n : Int)).toNat, by omega, by omega⟩
        go_wp2_with (fail)
        refine (took_yes hO hkm).mono ?_
        rintro e w2 ⟨rfl, h2, o2⟩
        have hb2 := o2.below hb hb.size (fun k _ h => Nat.le_of_eq h.symm)
        have hF2 := hF.took hkm
        clear hO hF hb o2 hmn hml hkm
        go_wp2_with (fail)
        go_roundg k1
        case measure => omega
        case rel => exact ⟨i + 1, _, by omega, by go_num, hb2, h2, hF2⟩
      | zero =>
        have hin : ¬ ((i : Int) < (len : Int)) := by omega
        go_wp2_with (fail)
        refine (list_at hO).mono ?_
        rintro e w2 ⟨v, rfl, hrow, hBl⟩
        have hO2 := hO.below hBl
        have hb2 := hb.trans (hBl.mono hb.size)
        have hLn := hF.len
        rw [hLn] at hrow
        obtain ⟨A, c, rfl⟩ := own_form hrow
        have hN2 := own_nums hrow
        obtain ⟨g, rfl, hg1, hg2, hgc⟩ : ∃ g, A = some ⟨g, 0, none⟩ ∧ wr.heap.size ≤ g ∧ g < w2.heap.size ∧ n ≤ c := by
          rcases own_cases hrow with ⟨_, h0, _⟩ | h
          · omega
          · exact h
        have hgo : w.heap.size < g := Nat.lt_of_lt_of_le hO.lt hg1
        obtain ⟨y, hy⟩ : ∃ y, L[n - 1]? = some y := ⟨_, List.getElem?_eq_getElem (by omega)⟩
        have hcy : w2.cell? ⟨g, n - 1, none⟩ = some (.int .i64 y) := by
          obtain ⟨x, hx, hc⟩ := hN2.cell (n - 1) (by omega)
          cases hx
          rw [Obj.addr_add0] at hc
          rw [hc, List.getD_eq_getElem?_getD, hy]; rfl
        have hq1 : IntKind.i64.wrap ((n : Int) - 1) = ((n - 1 : Nat) : Int) := by rw [IntWalk.i64_in _ (by omega)]; omega
        have hq2 : n - 1 < n := by omega
        have hS0 : Stand w2 w.heap.size n (turn L 0) (some ⟨g, 0, none⟩) L := ⟨by unfold turn; simpa using hO2, hN2⟩
        clear hO hb hrow hBl hO2 hN2
        go_wp2_with (fail)
        clear hcy hq1 hq2
        go_loopg [11, 12] n (fun kq v11 v12 w' => ∃ j : Nat, kq + j = n ∧ v12 = .int .i64 (j : Int) ∧ v11 = .int .u64 (orb (L.take j) : Int) ∧ Below w.heap.size w w' ∧ Stand w' w.heap.size n (turn L j) (some ⟨g, 0, none⟩) L)
        case atStart => exact ⟨0, by omega, rfl, rfl, hb2, hS0⟩
        case round =>
          clear hb2 hS0
          obtain ⟨j, hj, rfl, rfl, hb, hS⟩ := hrel
          cases gk with
          | succ k2 =>
            have hin2 : ((j : Int) < (n : Int)) := by omega
            have hjn : j < n := by omega
            obtain ⟨x, hx⟩ : ∃ x, L[j]? = some x := ⟨_, List.getElem?_eq_getElem (by omega)⟩
            obtain ⟨k, hk, rfl⟩ := hF.mem.1 (List.mem_of_getElem? hx)
            have hfull := turn_full (i := j) hF
            have hp := pick_at (s := 2 ^ n - 1) hS.ord (by have := Nat.pow_le_pow_right (show 0 < 2 by decide) hn2; omega) (small_full hn2 hfull)
            have hpv : pickV (turn L j) (2 ^ n - 1) = (k : Int) := by rw [pickV, all_ready hfull, turn_head hx]; rfl
            have hpb : pickB (turn L j) (2 ^ n - 1) = true := by rw [pickB, all_ready hfull, turn_head hx]; rfl
            rw [hpv, hpb, ← wrap_pow hn2] at hp
            clear hpv hpb
            go_wp2_with (fail)
            refine hp.mono ?_
            rintro e w3 ⟨rfl, hB3⟩
            have hS3 := hS.below hB3
            have hb3 := hb.trans (hB3.mono hb.size)
            clear hS hb hB3 hp
            have hcx : w3.cell? ⟨g, j, none⟩ = some (.int .i64 (k : Int)) := by
              obtain ⟨x, hx', hc⟩ := hS3.row.cell j (by omega)
              cases hx'
              rw [Obj.addr_add0] at hc
              rw [hc, List.getD_eq_getElem?_getD, hx]; rfl
            have hw1 : IntKind.i64.wrap ((n : Int) - 1) = (n : Int) - 1 := IntWalk.i64_in _ (by omega)
            obtain ⟨q, hq1, hq2⟩ : ∃ q : Bool, ((k : Int) == y) = q ∧ ((j : Int) == (n : Int) - 1) = q := by
              by_cases e : j = n - 1
              · subst e
                rw [hy] at hx
                obtain rfl := Option.some.inj hx
                exact ⟨true, by simp, by rw [beq_iff_eq]; omega⟩
              · refine ⟨false, ?_, by rw [beq_eq_false_iff_ne]; omega⟩
                rw [beq_eq_false_iff_ne]
                rintro rfl
                obtain ⟨h1, e1⟩ := List.getElem?_eq_some_iff.1 hx
                obtain ⟨h2, e2⟩ := List.getElem?_eq_some_iff.1 hy
                exact e (nodup_inj hF.nodup h1 h2 (e1.trans e2.symm))
            have hkm : (k : Int) ∈ turn L j := hfull.mem.2 ⟨k, hk, rfl⟩
            have hA1 := age_at hS3.ord (k : Int)
            rw [show ageV (turn L j) (k : Int) = (n : Int) - 1 by rw [turn_head hx] at hfull ⊢; exact age_head hfull] at hA1
            have hA0 : ageV (turn L (j + 1)) (k : Int) = 0 := by rw [← turn_next hx]; rw [turn_head hx] at hfull ⊢; exact age_last hfull
            have hfull2 := turn_full (i := j + 1) hF
            clear hfull
            go_wp2_with (fail)
            refine hA1.mono ?_
            rintro e w4 ⟨rfl, m1, rfl⟩
            have hO4 := hS3.ord.drewN m1
            have hN4 := hS3.row.drewN m1
            have hb4 : Below w.heap.size w (w3.drewN m1) := ⟨hb3.os, hb3.tape, hb3.output, hb3.size, hb3.block⟩
            clear hA1 hcx
            go_wp2_with (fail)
            refine (took_yes hO4 hkm).mono ?_
            rintro e w5 ⟨rfl, hO5, o5⟩
            rw [turn_next hx] at hO5
            have hN5 : Nums w5 .i64 (some ⟨g, 0, none⟩) L := hN4.same (fun x hx' => by obtain ⟨x2, e2, hl2, _⟩ := hN4.lt (by intro h; rw [h] at hx; simp at hx); cases hx'; cases e2; exact o5.block _ hl2 (by show g ≠ w.heap.size; omega))
            have hb5 := o5.below hb4 hb4.size (fun k _ h => Nat.le_of_eq h.symm)
            have hA2 := age_at hO5 (k : Int)
            rw [hA0] at hA2
            clear hO4 hN4 hb4 o5 hS3 hb3 hkm hA0
            go_wp2_with (fail)
            refine hA2.mono ?_
            rintro e w6 ⟨rfl, m2, rfl⟩
            clear hA2
            have hor := or_step hn2 hF hx hk
            have hb6 : Below w.heap.size w (w5.drewN m2) := ⟨hb5.os, hb5.tape, hb5.output, hb5.size, hb5.block⟩
            have hS6 : Stand (w5.drewN m2) w.heap.size n (turn L (j + 1)) (some ⟨g, 0, none⟩) L := ⟨hO5.drewN m2, hN5.drewN m2⟩
            clear hb5 hO5 hN5
            go_wp2_with (fail)
            go_roundg k2
            case measure => omega
            case rel => exact ⟨j + 1, by omega, by go_num, rfl, hb6, hS6⟩
          | zero =>
            have hin2 : ¬ ((j : Int) < (n : Int)) := by omega
            obtain rfl : j = n := by omega
            have hw1 : IntKind.u64.wrap (IntKind.u64.wrap (2 ^ j) - 1) = (orb (L.take j) : Int) := by
              rw [wrap_pow hn2, List.take_of_length_le (by omega), orb_full hF]
            have ht : turn L j = L := by
              unfold turn; rw [List.drop_of_length_le (by omega), List.take_of_length_le (by omega)]; rfl
            rw [ht] at hS
            have hoq := hid hw1
            go_wp2_with (fail)
            refine (list_at hS.ord).mono ?_
            rintro e w3 ⟨v, rfl, hrow, hBl⟩
            have hLn := hF.len
            rw [hLn] at hrow
            obtain ⟨A3, c3, rfl⟩ := own_form hrow
            have hN3 := own_nums hrow
            have hN3' := hS.row.below hBl
            have hb3 := hb.trans (hBl.mono hb.size)
            have hSm := Same08.same_eq A3 (some ⟨g, 0, none⟩) c3 c L _ hN3 hN3' (by omega)
            rw [hLn] at hSm
            clear hrow hBl hS hb
            go_wp2_with (fail)
            refine hSm.mono ?_
            rintro e w4 ⟨rfl, m4, rfl⟩
            have hb4 : Below w.heap.size w (w3.drewN m4) := ⟨hb3.os, hb3.tape, hb3.output, hb3.size, hb3.block⟩
            clear hSm
            go_wp2_with (fail)
            refine (alive_at _).mono ?_
            rintro e w5 ⟨rfl, hb5⟩
            have hb6 := hb4.trans (hb5.mono hb4.size)
            go_wp2_with (fail)
            go_ret
            exact ⟨rfl, hb6⟩
end Go.Proofs.Ytabcodjalacdjaa.OrderMost
