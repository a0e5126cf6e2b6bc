/- The walk of FifoTurns. -/
import Derived.Test.YtghbcdpnngheoacFifoAlive
namespace Go.Proofs.Ytghbcdpnngheoac.FifoTurns
open Go Go.RowKit Go.Proofs.Ytghbcdpnngheoac.Obj Go.Proofs.Ytghbcdpnngheoac.FifoCode
set_option linter.unusedVariables false
set_option maxRecDepth 100000
/-- A row as it ought to be: tasks, each once. -/
structure Tasks (L : List Int) : Prop where
  rng : ∀ x ∈ L, 0 ≤ x ∧ x < 32
  nodup : L.Nodup
theorem Tasks.nil : Tasks [] := ⟨fun x h => absurd h (List.not_mem_nil), List.nodup_nil⟩
theorem few32 : ∀ (m : Nat) (c : List Int), c.Nodup → (∀ x ∈ c, 0 ≤ x ∧ x < (m : Int)) → c.length ≤ m
  | 0, c, _, h => by
    cases c with
    | nil => exact Nat.le_refl _
    | cons a _ => exact absurd (h a (List.mem_cons_self ..)) (by omega)
  | m + 1, c, hn, h => by
    by_cases hm : (m : Int) ∈ c
    · have h1 := few32 m (c.erase m) (hn.erase _) (fun x hx => by
        have := (hn.mem_erase_iff).1 hx
        have := h x this.2
        omega)
      rw [List.length_erase_of_mem hm] at h1
      omega
    · exact Nat.le_succ_of_le (few32 m c hn (fun x hx => by
        have h2 := h x hx
        have : x ≠ (m : Int) := fun e => hm (e ▸ hx)
        omega))
theorem Tasks.len {L : List Int} (h : Tasks L) : L.length ≤ 32 := few32 32 L h.nodup h.rng
theorem Tasks.snoc {L : List Int} {k : Int} (h : Tasks L) (h0 : 0 ≤ k) (h1 : k < 32) (hk : k ∉ L) : Tasks (L ++ [k]) :=
  ⟨fun x hx => by
    rcases List.mem_append.1 hx with h2 | h2
    · exact h.rng x h2
    · rw [List.mem_singleton.1 h2]; exact ⟨h0, h1⟩,
   List.nodup_append.2 ⟨h.nodup, List.nodup_cons.2 ⟨List.not_mem_nil, List.nodup_nil⟩, fun a ha b hb e => by rw [List.mem_singleton.1 hb] at e; exact hk (e ▸ ha)⟩⟩
theorem Tasks.tail {x : Int} {r : List Int} (h : Tasks (x :: r)) : Tasks r := ⟨fun y hy => h.rng y (List.mem_cons_of_mem _ hy), (List.nodup_cons.1 h.nodup).2⟩
/-- What Push does, whatever it answers. -/
def pushed (most : Nat) (L : List Int) (k : Int) : List Int := if k ∉ L ∧ L.length < most then L ++ [k] else L
theorem Tasks.pushed {most : Nat} {L : List Int} {k : Int} (h : Tasks L) (h0 : 0 ≤ k) (h1 : k < 32) : Tasks (pushed most L k) := by
  unfold FifoTurns.pushed; split
  · exact h.snoc h0 h1 (by simp_all)
  · exact h
theorem pushed_mem {L : List Int} {k x : Int} (h : Tasks L) (hx : x ∈ L) {most : Nat} : x ∈ pushed most L k := by
  unfold pushed; split
  · exact List.mem_append_left _ hx
  · exact hx
theorem pushed_not {L : List Int} {k x : Int} {most : Nat} (hx : x ∉ L) (hne : k ≠ x) : x ∉ pushed most L k := by
  unfold pushed; split
  · intro h
    rcases List.mem_append.1 h with h | h
    · exact hx h
    · exact hne (List.mem_singleton.1 h).symm
  · exact hx
theorem pushed_at {L : List Int} {k x : Int} {most : Nat} (hx : x ∈ L) : at_ (pushed most L k) x = at_ L x := by
  unfold pushed; split
  · rw [at_yes hx, at_yes (List.mem_append_left _ hx), List.idxOf_append, if_pos hx]
  · rfl
theorem pushed_ne {L : List Int} {k : Int} {most : Nat} (h : L ≠ [] ∨ 0 < most) : pushed most L k ≠ [] := by
  unfold pushed; split
  · simp
  · rename_i h1
    intro e
    subst e
    rcases h with h | h
    · exact h rfl
    · exact h1 ⟨List.not_mem_nil, h⟩
theorem push_any {w : World} {p most : Nat} {L : List Int} (h : FifoAt w p most L) {k : Int} (h0 : 0 ≤ k) (h1 : k < 32) : Calls Try.prog 25 #[.pointer (some ⟨p, 0, none⟩), .int .i64 k] w fun e w' => (∃ n, e = .returned (.int .i64 n)) ∧ FifoAt w' p most (pushed most L k) ∧ Only (· = p) w w' := by
  have hd : ∀ {w' : World}, Below w.heap.size w w' → Only (· = p) w w' := fun hB => (Only.none_of_below hB).mono (fun _ _ h => h.elim)
  unfold pushed
  by_cases hk : k ∈ L
  · refine (push_have h h0 h1 hk).mono ?_
    rintro e w' ⟨rfl, hB⟩
    rw [if_neg (fun h => h.1 hk)]
    exact ⟨⟨_, rfl⟩, h.same (hB.block _ h.lt), hd hB⟩
  · by_cases hl : L.length < most
    · refine (push_at h h0 h1 hk hl).mono ?_
      rintro e w' ⟨rfl, hF, o⟩
      rw [if_pos ⟨hk, hl⟩]
      exact ⟨⟨_, rfl⟩, hF, o⟩
    · refine (push_full h h0 h1 hk (by have := h.fit; omega)).mono ?_
      rintro e w' ⟨rfl, hB⟩
      rw [if_neg (fun h => hl h.2)]
      exact ⟨⟨_, rfl⟩, h.same (hB.block _ h.lt), hd hB⟩
/-- An argument's number, with its bounds. -/
theorem ints_at {w : World} {a : Option Addr} {len cap : Nat} {zs : List Int} (h : Obj.Ints .u8 w a len cap zs) (i : Nat) (hi : i < len) :
    ∃ b o, a = some ⟨b, o, none⟩ ∧ b < w.heap.size ∧ len ≤ cap ∧ w.cell? ⟨b, o + i, none⟩ = some (.int .u8 (zs.getD i 0)) ∧ 0 ≤ zs.getD i 0 ∧ zs.getD i 0 ≤ 255 := by
  rcases h with ⟨_, h0, _⟩ | ⟨x, rfl, h1, h2, h3, h4, h5⟩
  · omega
  · obtain ⟨b, o, e, hb, hc⟩ := (Nums.mk (k := .u8) (w := w) (a := some x) (l := zs) (fun i hi => ⟨x, rfl, h4 i hi⟩)).at i (by omega)
    have hm : zs.getD i 0 ∈ zs := by simp [List.getD, List.getElem?_eq_getElem (show i < zs.length by omega)]
    have := u8_of (h5 _ hm)
    exact ⟨b, o, e, hb, h1, hc, this.1, this.2⟩
set_option maxHeartbeats 16000000 in
theorem turns_walk (a : Option Addr) (len cap : Nat) (zs : List Int) (wh : Int) (a2 : Option Addr) (len2 cap2 : Nat) (ys : List Int) (w : World)
    (ha : Obj.Ints .u8 w a len cap zs) (hwh : (Lit.int .u8 wh).wf = true) (ha2 : Obj.Ints .u8 w a2 len2 cap2 ys) :
    Calls Try.prog 5 #[.slice a len cap, .int .u8 wh, .slice a2 len2 cap2] w fun e w' => e = .returned (.bool true) ∧ Below w.heap.size w w' := by
  obtain ⟨hwh0, hwh1⟩ := u8_of hwh
  by_cases h100 : 100 < len ∨ 100 < len2
  · by_cases h1 : 100 < len
    · go_enter Try.func5, Try.ntmps5
      go_wp2_with (fail)
      refine (alive_at _).mono ?_
      rintro e w2 ⟨rfl, hb2⟩
      go_wp2_with (fail)
      go_ret
      exact ⟨rfl, hb2⟩
    · have h2 : 100 < len2 := by omega
      clear h100
      go_enter Try.func5, Try.ntmps5
      go_wp2_with (fail)
      refine (alive_at _).mono ?_
      rintro e w2 ⟨rfl, hb2⟩
      go_wp2_with (fail)
      go_ret
      exact ⟨rfl, hb2⟩
  · have hl1 : len ≤ 100 := by omega
    have hl2 : len2 ≤ 100 := by omega
    have hl1' : ¬ (100 < len) := by omega
    have hl2' : ¬ (100 < len2) := by omega
    clear h100
    go_enter Try.func5, Try.ntmps5
    go_wp2_with (fail)
    refine (new_at 32 w (by decide) (by decide)).mono ?_
    rintro e w1 ⟨rfl, h0, hb1, hs1⟩
    go_wp2_with (fail)
    go_loopg [9] len (fun kq v9 w' => ∃ (i : Nat) (L : List Int), kq + i = len ∧ v9 = .int .i64 (i : Int) ∧ Below w.heap.size w w' ∧ w.heap.size < w'.heap.size ∧ FifoAt w' w.heap.size 32 L ∧ Tasks L ∧ (0 < i → L ≠ []) ∧ (i = 0 → L = []))
    case atStart => exact ⟨0, [], rfl, rfl, hb1, hs1, h0, Tasks.nil, fun h => absurd h (by omega), fun _ => rfl⟩
    case round =>
      clear hb1 hs1 h0
      obtain ⟨i, L, hi, rfl, hb, hsz, hF, hG, hne, hem⟩ := hrel
      cases gk with
      | zero =>
        have hin : ¬ ((i : Int) < (len : Int)) := by omega
        by_cases h00 : len = 0
        · obtain rfl : L = [] := hem (by omega)
          subst h00
          clear hne hem hG
          go_wp2_with (fail)
          refine (len_at hF).mono ?_
          rintro e w2 ⟨rfl, rfl⟩
          go_wp2_with (fail)
          refine (alive_at _).mono ?_
          rintro e w2 ⟨rfl, hb2⟩
          have hb3 := hb.trans (hb2.mono hb.size)
          go_wp2_with (fail)
          go_ret
          exact ⟨rfl, hb3⟩
        · have hL0 : L ≠ [] := hne (by omega)
          have hLp : 0 < L.length := List.length_pos_iff.2 hL0
          have hn0 : ((L.length : Int) == 0) = false := beq_eq_false_iff_ne.2 (by omega)
          have hL32 := hG.len
          clear hne hem hL0 h00
          go_wp2_with (fail)
          refine (len_at hF).mono ?_
          rintro e w2 ⟨rfl, rfl⟩
          go_wp2_with (fail)
          refine (list_nums hF).mono ?_
          rintro e w2 ⟨A, c, rfl, hN, hBl⟩
          have hF2 := hF.same (hBl.block _ hF.lt)
          have hb2 := hb.trans (hBl.mono hb.size)
          have hs2 : w.heap.size < w2.heap.size := Nat.lt_of_lt_of_le hsz hBl.size
          have hj0 : 0 ≤ wh % (L.length : Int) := Int.emod_nonneg _ (by omega)
          have hj1 : wh % (L.length : Int) < (L.length : Int) := Int.emod_lt_of_pos _ (by omega)
          obtain ⟨g, o, rfl, hg, hc⟩ := hN.at (wh % (L.length : Int)).toNat (by omega)
          obtain ⟨k, hk⟩ : ∃ k, L[(wh % (L.length : Int)).toNat]? = some k := ⟨_, List.getElem?_eq_getElem (by omega)⟩
          have hkm : k ∈ L := List.mem_of_getElem? hk
          rw [show L.getD (wh % (L.length : Int)).toNat 0 = k by simp [List.getD, hk]] at hc
          have hat := at_yes hkm
          have haL := at_lt L k
          obtain ⟨ah, hah⟩ : ∃ ah : Nat, at_ L k = ah := ⟨_, hat⟩
          have HA := at_at hF2 k
          rw [hah] at HA haL
          have hkr := hG.rng k hkm
          have hLn : 0 < (L.length : Int) := by omega
          have hahL : (ah : Int) < (L.length : Int) := haL
          have hw1 : IntKind.i64.wrap wh = wh := IntWalk.i64_in _ (by omega)
          have hFG : FifoAt w2 w.heap.size 32 L ∧ Tasks L ∧ k ∈ L ∧ at_ L k = ah := ⟨hF2, hG, hkm, hah⟩
          have hFG := hid hFG
          clear hF hb hN hBl hk hkm hat hah hF2 hG haL
          generalize hQ : L.length = n at *
          clear hQ
          go_wp2_with (fail)
          refine HA.mono ?_
          rintro e w3 ⟨rfl, hBa⟩
          obtain ⟨hF2, hG, hkm, hah⟩ := hFG.out
          have hF3 := hF2.same (hBa.block _ hF2.lt)
          have hb3 := hb2.trans (hBa.mono hb2.size)
          have hs3 : w.heap.size < w3.heap.size := Nat.lt_of_lt_of_le hs2 hBa.size
          clear HA hb2 hs2 hBa hc hF2 hFG hw1
          go_wp2_with (fail)
          go_loopg [14] (ah + 1) (fun kq v14 w' => ∃ (i : Nat) (M : List Int), kq + i = ah + 1 ∧ v14 = .int .i64 (i : Int) ∧ Below w.heap.size w w' ∧ w.heap.size < w'.heap.size ∧ FifoAt w' w.heap.size 32 M ∧ Tasks M ∧ (i ≤ ah → k ∈ M ∧ at_ M k = (ah : Int) - i) ∧ (ah < i → k ∉ M))
          case atStart => exact ⟨0, L, rfl, rfl, hb3, hs3, hF3, hG, fun _ => ⟨hkm, by rw [hah]; simp⟩, fun h => absurd h (by omega)⟩
          case round =>
            clear hb3 hs3 hF3 hG hkm hah
            obtain ⟨i, M, hi, rfl, hb, hsz, hF, hG, hin', hout⟩ := hrel
            cases gk with
            | zero =>
              have hia : ¬ ((i : Int) ≤ (ah : Int)) := by omega
              have hkM := hout (by omega)
              have H := has_no hF hkM
              clear hin' hout hkM
              go_wp2_with (fail)
              refine H.mono ?_
              rintro e w4 ⟨rfl, hB4⟩
              have hb4 := hb.trans (hB4.mono hb.size)
              go_wp2_with (fail)
              refine (alive_at _).mono ?_
              rintro e w2 ⟨rfl, hb2⟩
              have hb5 := hb4.trans (hb2.mono hb4.size)
              go_wp2_with (fail)
              go_ret
              exact ⟨rfl, hb5⟩
            | succ k2 =>
              have hia : ((i : Int) ≤ (ah : Int)) := by omega
              obtain ⟨hkM, hatM⟩ := hin' (by omega)
              clear hin' hout
              have HA := at_at hF k
              rw [hatM] at HA
              go_wp2_with (fail)
              refine HA.mono ?_
              rintro e w4 ⟨rfl, hB4⟩
              have hF4 := hF.same (hB4.block _ hF.lt)
              have hb4 := hb.trans (hB4.mono hb.size)
              have hs4 : w.heap.size < w4.heap.size := Nat.lt_of_lt_of_le hsz hB4.size
              clear HA hF hb hsz hB4
              obtain ⟨x, r, rfl⟩ : ∃ x r, M = x :: r := by
                cases M with
                | nil => exact absurd hkM List.not_mem_nil
                | cons x r => exact ⟨x, r, rfl⟩
              obtain ⟨q, hxq, hiq, hr1, hr2⟩ : ∃ q : Bool, (x == k) = q ∧ ((i : Int) == (ah : Int)) = q ∧ (i < ah → k ∈ r ∧ at_ r k = (ah : Int) - (i + 1 : Nat)) ∧ (i = ah → k ∉ r) := by
                have hnd := List.nodup_cons.1 hG.nodup
                by_cases e : x = k
                · subst e
                  have : at_ (x :: r) x = 0 := by rw [at_yes (List.mem_cons_self ..)]; simp
                  have : i = ah := by omega
                  subst this
                  exact ⟨true, by simp, by simp, fun h => absurd h (by omega), fun _ => hnd.1⟩
                · have hkr : k ∈ r := by
                    rcases List.mem_cons.1 hkM with h | h
                    · exact absurd h.symm e
                    · exact h
                  have h1 : at_ (x :: r) k = at_ r k + 1 := by
                    rw [at_yes hkM, at_yes hkr, List.idxOf_cons, show (x == k) = false by simp [e]]; simp
                  have h2 := at_nn.2 hkr
                  exact ⟨false, by simp [e], by simp; omega, fun h => ⟨hkr, by omega⟩, fun h => by omega⟩
              have hG5 := hG.tail
              have hr32 := hG.len
              clear hkM hatM hG
              go_wp2_with (fail)
              refine (pop_at hF4).mono ?_
              rintro e w5 ⟨rfl, hF5, o5⟩
              have hb5 := up hb4 (Nat.le_refl _) o5 (fun k h => Nat.le_of_eq h.symm)
              have hs5 : w.heap.size < w5.heap.size := Nat.lt_of_lt_of_le hs4 o5.size
              clear hF4 hb4 hs4 o5
              by_cases h2 : i < len2
              · have h2' : ((i : Int) < (len2 : Int)) := by omega
                obtain ⟨xb, xo, rfl, hxb, hlc, hc, hz0, hz1⟩ := ints_at ha2 i h2
                rw [← hb5.cell (p := ⟨_, _, none⟩) hxb] at hc
                generalize ys.getD i 0 = z at *
                by_cases hzk : z % 32 = k
                · have hzk' : (z % 32 == k) = true := by simp [hzk]
                  have hzH := hid hzk
                  clear hzk
                  cases q
                  all_goals
                    go_wp2_with (fail)
                    go_roundg k2
                    case measure => omega
                    case rel => exact ⟨i + 1, r, by omega, by go_num, hb5, hs5, hF5, hG5, fun h => hr1 (by omega), fun h => hr2 (by omega)⟩
                · have hzk' : (z % 32 == k) = false := by simp [hzk]
                  have hm1 : i < ah → k ∈ pushed 32 r (z % 32) ∧ at_ (pushed 32 r (z % 32)) k = (ah : Int) - (i + 1 : Nat) := fun h => ⟨pushed_mem hG5 (hr1 h).1, by rw [pushed_at (hr1 h).1]; exact (hr1 h).2⟩
                  have hm2 : i = ah → k ∉ pushed 32 r (z % 32) := fun h => pushed_not (hr2 h) hzk
                  have hG6 := hG5.pushed (most := 32) (k := z % 32) (by omega) (by omega)
                  have HP := push_any hF5 (k := z % 32) (by omega) (by omega)
                  generalize pushed 32 r (z % 32) = r2 at *
                  have hzH := hid hzk
                  clear hzk hF5 hr1 hr2
                  cases q
                  all_goals
                    go_wp2_with (fail)
                    refine HP.mono ?_
                    rintro e w6 ⟨⟨n6, rfl⟩, hF6, o6⟩
                    have hb6 := up hb5 (Nat.le_refl _) o6 (fun k h => Nat.le_of_eq h.symm)
                    have hs6 : w.heap.size < w6.heap.size := Nat.lt_of_lt_of_le hs5 o6.size
                    clear HP o6 hc
                    go_wp2_with (fail)
                    go_roundg k2
                    case measure => omega
                    case rel => exact ⟨i + 1, r2, by omega, by go_num, hb6, hs6, hF6, hG6, fun h => hm1 (by omega), fun h => hm2 (by omega)⟩
              · have h2' : ¬ ((i : Int) < (len2 : Int)) := by omega
                cases q
                all_goals
                  go_wp2_with (fail)
                  go_roundg k2
                  case measure => omega
                  case rel => exact ⟨i + 1, r, by omega, by go_num, hb5, hs5, hF5, hG5, fun h => hr1 (by omega), fun h => hr2 (by omega)⟩
      | succ k1 =>
        have hin : ((i : Int) < (len : Int)) := by omega
        obtain ⟨xb, xo, rfl, hxb, hlc, hc, hz0, hz1⟩ := ints_at ha i (by omega)
        rw [← hb.cell (p := ⟨_, _, none⟩) hxb] at hc
        generalize zs.getD i 0 = z at *
        go_wp2_with (fail)
        refine (push_any hF (k := z % 32) (by omega) (by omega)).mono ?_
        rintro e w2 ⟨⟨n, rfl⟩, hF2, o2⟩
        have hb2 := up hb (Nat.le_refl _) o2 (fun k h => Nat.le_of_eq h.symm)
        have hs2 : w.heap.size < w2.heap.size := Nat.lt_of_lt_of_le hsz o2.size
        have hG2 := hG.pushed (most := 32) (k := z % 32) (by omega) (by omega)
        have hn2 := pushed_ne (L := L) (k := z % 32) (most := 32) (.inr (by decide))
        generalize pushed 32 L (z % 32) = L2 at *
        clear hF hb hG o2 hc hne hem
        go_wp2_with (fail)
        go_roundg k1
        case measure => omega
        case rel => exact ⟨i + 1, L2, by omega, by go_num, hb2, hs2, hF2, hG2, fun _ => hn2, fun h => absurd h (by omega)⟩
end Go.Proofs.Ytghbcdpnngheoac.FifoTurns
