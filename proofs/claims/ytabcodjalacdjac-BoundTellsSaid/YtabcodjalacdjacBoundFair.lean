
/- The walk of BoundFair. -/
import Derived.Test.YtabcodjalacdjacBoundAlive
namespace Go.Proofs.Ytabcodjalacdjac.BoundCode
open Go Go.RowKit Go.Proofs.Ytabcodjalacdjac.Obj Go.Proofs.Ytabcodjalacdjac.Row Go.Proofs.Ytabcodjalacdjac.BoundPure Go.Proofs.Ytabcodjalacdjac.BoundGap Go.Proofs.YtabcodjalacdjacW.PrintWords Go.Proofs.YtabcodjalacdjacW.PrintMore
set_option linter.unusedVariables false
set_option maxRecDepth 100000
section
variable {r : Nat → Nat} {m n : Nat}
theorem fairV_iff (hn : 1 ≤ n) (hn2 : n ≤ 255) (v : Int) : fairV r m (n : Int) v = true ↔ (n : Int) ≤ v ∧ ((m : Int) < v ∨ leastV r m n ≤ v) := by
  unfold fairV
  rw [Bool.and_eq_true, Bool.or_eq_true, decide_eq_true_eq, decide_eq_true_eq, decide_eq_true_eq, Int.toNat_natCast]
  constructor
  · rintro ⟨⟨_, _, h⟩, h2⟩; exact ⟨h, h2⟩
  · rintro ⟨h, h2⟩; exact ⟨⟨by omega, by omega, h⟩, h2⟩
theorem windowV_eq (hn : 1 ≤ n) (hn2 : n ≤ 255) : windowV r m (n : Int) = max (n : Int) (min (leastV r m n) ((m : Int) + 1)) := by
  unfold windowV
  rw [if_pos ⟨by omega, by omega⟩, Int.toNat_natCast]
theorem fair_more (hn : 1 ≤ n) (hn2 : n ≤ 255) {v w : Int} (h : fairV r m (n : Int) v = true) (hw : v ≤ w) : fairV r m (n : Int) w = true := by
  rw [fairV_iff hn hn2] at *
  omega
theorem window_ok (hr : ∀ i, r i < n) (hn : 1 ≤ n) (hn2 : n ≤ 255) : (n : Int) ≤ windowV r m (n : Int) ∧ windowV r m (n : Int) ≤ max (n : Int) ((m : Int) + 1) ∧ fairV r m (n : Int) (windowV r m (n : Int)) = true ∧
    (windowV r m (n : Int) = (n : Int) ∨ (windowV r m (n : Int) ≠ (n : Int) ∧ fairV r m (n : Int) (windowV r m (n : Int) - 1) = false)) := by
  have ht := least_top (n := m) hr hn
  rw [windowV_eq hn hn2]
  refine ⟨by omega, by omega, ?_, ?_⟩
  · rw [fairV_iff hn hn2]; omega
  · by_cases e : max (n : Int) (min (leastV r m n) ((m : Int) + 1)) = (n : Int)
    · exact .inl e
    · refine .inr ⟨e, ?_⟩
      rw [Bool.eq_false_iff]
      intro h
      rw [fairV_iff hn hn2] at h
      omega
end
theorem rs_part (s : ByteArray) (a b n i : Nat) (hab : a ≤ b) (hb : b ≤ s.size) (hi : i < b - a) : rs (s.extract a b) n i = rs s n (a + i) := by
  unfold rs
  have h1 : (s.extract a b).data = s.data.extract a b := by simp
  have h2 : a + i < s.data.size := by have : s.data.size = s.size := rfl; omega
  rw [h1, Array.getElem?_extract]
  rw [if_pos (by have : s.data.size = s.size := rfl; omega)]
theorem part_size (s : ByteArray) (a b : Nat) (hab : a ≤ b) (hb : b ≤ s.size) : (s.extract a b).size = b - a := by
  simp [ByteArray.size_extract]; omega
theorem fair_part (s : ByteArray) {a b n : Nat} (hab : a ≤ b) (hb : b ≤ s.size) (hn : 1 ≤ n) (hn2 : n ≤ 255) {v : Int} (h : fairV (rs s n) s.size (n : Int) v = true) : fairV (rs (s.extract a b) n) (s.extract a b).size (n : Int) v = true := by
  rw [fairV_iff hn hn2] at *
  rw [part_size s a b hab hb]
  refine ⟨h.1, ?_⟩
  rcases h.2 with h2 | h2
  · exact .inl (by omega)
  · right
    rw [least_fair (rs_lt _ hn) hn] at *
    exact ⟨FairP.congr (fun i hi => (rs_part s a b n i hab hb hi).symm) (h2.1.part hab hb), h2.2⟩
theorem turn_ok (n : Nat) (hn : 1 ≤ n) (hn2 : n ≤ 99) : fairV (rs (strOfNums (turnL n 100)) n) (strOfNums (turnL n 100)).size (n : Int) (n : Int) = true ∧ windowV (rs (strOfNums (turnL n 100)) n) (strOfNums (turnL n 100)).size (n : Int) = (n : Int) := by
  have hl : leastV (rs (strOfNums (turnL n 100)) n) (strOfNums (turnL n 100)).size n ≤ (n : Int) := by
    rw [least_fair (rs_lt _ hn) hn]
    exact ⟨round_fair n 100 hn (by omega), by omega⟩
  refine ⟨?_, ?_⟩
  · rw [fairV_iff hn (by omega)]; exact ⟨Int.le_refl _, .inr hl⟩
  · rw [windowV_eq hn (by omega)]; omega
set_option maxHeartbeats 8000000 in
theorem fair_walk (s : ByteArray) (p v more fr tt : Int) (w : World) (hs : s.size ≤ maxLen) (hp : (Lit.int .u8 p).wf = true) (hv : (Lit.int .u8 v).wf = true) (hmore : (Lit.int .u8 more).wf = true) (hfrom : (Lit.int .u8 fr).wf = true) (hto : (Lit.int .u8 tt).wf = true) :
    Calls Try.prog 5 #[.string s, .int .u8 p, .int .u8 v, .int .u8 more, .int .u8 fr, .int .u8 tt] w fun e w' => e = .returned (.bool true) ∧ Below w.heap.size w w' := by
  obtain ⟨hp0, hp1⟩ := u8_of hp
  obtain ⟨hv0, hv1⟩ := u8_of hv
  obtain ⟨hm0, hm1⟩ := u8_of hmore
  obtain ⟨hf0, hf1⟩ := u8_of hfrom
  obtain ⟨ht0, ht1⟩ := u8_of hto
  clear hp hv hmore hfrom hto
  by_cases h150 : 150 < s.size
  · go_enter Try.func5, Try.ntmps5
    go_wp2_with (fail)
    refine (alive_at _).mono ?_
    rintro e w2 ⟨rfl, hb2⟩
    go_wp2_with (fail)
    go_ret
    exact ⟨rfl, hb2⟩
  · obtain ⟨n, hn⟩ : ∃ n : Nat, (1 + p % 8) = (n : Int) := ⟨(1 + p % 8).toNat, by omega⟩
    have hn1 : 1 ≤ n := by omega
    have hn2 : n ≤ 8 := by omega
    obtain ⟨z, hz⟩ : ∃ z : Int, z = (n : Int) + v % 30 := ⟨_, rfl⟩
    have hz1 : (n : Int) ≤ z ∧ z ≤ 40 := by omega
    have hz2 : IntKind.i64.wrap ((n : Int) + v % 30) = z := by rw [hz]; exact IntWalk.i64_in _ (by omega)
    have hz3 : IntKind.i64.wrap (z + more) = z + more := IntWalk.i64_in _ (by omega)
    clear hz
    obtain ⟨tf, tw⟩ := turn_ok n hn1 (by omega)
    have hR := round_at (n : Int) 100 (.inl (by decide)) w
    rw [roundV, if_pos ⟨by omega, by omega, by decide, by decide⟩, Int.toNat_natCast] at hR
    have h100 := round_size n 100
    have hT1 := fun w => fair_at (strOfNums (turnL n 100)) (n : Int) (n : Int) (by rw [h100]; decide) w
    have hT2 := fun w => window_at (strOfNums (turnL n 100)) (n : Int) (by rw [h100]; decide) w
    simp only [Int.toNat_natCast, tf, tw] at hT1 hT2
    rw [show (100 : Int).toNat = 100 from rfl] at hR
    generalize strOfNums (turnL n 100) = T at *
    clear tf tw
    have hzmH := hid hz3
    go_enter Try.func5, Try.ntmps5
    go_wp2_with (fail)
    refine hR.mono ?_
    rintro e w1 ⟨rfl, hb1⟩
    clear hR
    go_wp2_with (fail)
    refine (hT1 w1).mono ?_
    rintro e w2 ⟨rfl, hb2⟩
    have k2 := hb1.trans (hb2.mono hb1.size)
    clear hT1 hb1 hb2
    go_wp2_with (fail)
    refine (hT2 w2).mono ?_
    rintro e w3 ⟨rfl, hb3⟩
    have k3 := k2.trans (hb3.mono k2.size)
    clear hT2 k2 hb3
    go_upto_region 8 with (fail)
    go_cut [16] (fun v16 wx => ∃ a : Nat, v16 = .int .i64 (a : Int) ∧ a ≤ s.size ∧ wx = w3)
    case first =>
      obtain ⟨f, rfl⟩ : ∃ f : Nat, fr = (f : Int) := ⟨fr.toNat, by omega⟩
      go_wp2_with (fail)
      all_goals go_meet
      · exact ⟨s.size, by first | rfl | (congr 1; omega), by omega, rfl⟩
      · exact ⟨f, by first | rfl | (congr 1; omega), by omega, rfl⟩
    case rest =>
      obtain ⟨a, rfl, ha, rfl⟩ := hcut
      go_upto_region 9 with (fail)
      go_cut [17] (fun v17 wx => ∃ b : Nat, v17 = .int .i64 (b : Int) ∧ a ≤ b ∧ b ≤ s.size ∧ wx = wc)
      case first =>
        obtain ⟨f, rfl⟩ : ∃ f : Nat, tt = (f : Int) := ⟨tt.toNat, by omega⟩
        go_wp2_with (fail)
        all_goals go_meet
        · exact ⟨a, rfl, Nat.le_refl _, ha, rfl⟩
        · exact ⟨s.size, rfl, ha, Nat.le_refl _, rfl⟩
        · refine ⟨f, rfl, ?_, by omega, rfl⟩
          rename_i hh
          rw [if_neg (by omega)] at hh
          omega
      case rest =>
        obtain ⟨b, rfl, hab, hb, rfl⟩ := hcut
        have hF := fun u w => fair_at s (n : Int) u (by omega) w
        have hP := fun w => fair_at (s.extract a b) (n : Int) z (by rw [part_size s a b hab hb]; omega) w
        simp only [Int.toNat_natCast] at hF hP
        have hab' : (a : Int) ≤ (b : Int) := by omega
        have hb' : (b : Int) ≤ (s.size : Int) := by omega
        go_upto_region 10 with (fail)
        go_cut [86] (fun v86 wx => v86 = .bool false ∧ Below w.heap.size w wx)
        case first =>
          cases hf1 : fairV (rs s n) s.size (n : Int) z with
          | false =>
            go_wp2_with (fail)
            refine (hF z wc).mono ?_
            rintro e w4 ⟨rfl, hb4⟩
            rw [hf1]
            have k4 := k3.trans (hb4.mono k3.size)
            go_wp2_with (fail)
            go_meet
            exact ⟨rfl, k4⟩
          | true =>
            have hf2 := fair_more hn1 (by omega) hf1 (show z ≤ z + more by omega)
            have hf3 := fair_part s hab hb hn1 (by omega) hf1
            go_wp2_with (fail)
            refine (hF z wc).mono ?_
            rintro e w4 ⟨rfl, hb4⟩
            rw [hf1]
            have hz3 := hzmH.out
            have k4 := k3.trans (hb4.mono k3.size)
            go_wp2_with (fail)
            refine (hF (z + more) w4).mono ?_
            rintro e w5 ⟨rfl, hb5⟩
            rw [hf2]
            have k5 := k4.trans (hb5.mono k4.size)
            clear k4 hb5 hb4
            go_wp2_with (fail)
            refine (hP w5).mono ?_
            rintro e w6 ⟨rfl, hb6⟩
            rw [hf3]
            have k6 := k5.trans (hb6.mono k5.size)
            go_wp2_with (fail)
            go_meet
            exact ⟨rfl, k6⟩
        case rest =>
          clear k3 hP
          obtain ⟨rfl, k4⟩ := hcut
          obtain ⟨o1, o2, o3, o4⟩ := window_ok (r := rs s n) (m := s.size) (rs_lt s hn1) hn1 (by omega)
          have hW := fun w => window_at s (n : Int) (by omega) w
          simp only [Int.toNat_natCast] at hW
          generalize windowV (rs s n) s.size (n : Int) = l at *
          have hq1 : IntKind.i64.wrap ((s.size : Int) + 1) = (s.size : Int) + 1 := IntWalk.i64_in _ (by omega)
          have hq2 : IntKind.i64.wrap (l - 1) = l - 1 := IntWalk.i64_in _ (by omega)
          have ho1 : ¬ (l < (n : Int)) := by omega
          have ho2 : ¬ ((s.size : Int) + 1 < l ∧ (n : Int) < l) := by omega
          go_wp2_with (fail)
          refine (hW _).mono ?_
          rintro e w7 ⟨rfl, hb7⟩
          have k7 := k4.trans (hb7.mono k4.size)
          clear k4 hb7 hW
          go_upto_region 13 with (fail)
          go_cut [108] (fun v108 wx => v108 = .bool false ∧ Below w.heap.size w wx)
          case first =>
            by_cases hmx : (n : Int) < (s.size : Int) + 1
            · have hle : l ≤ (s.size : Int) + 1 := by omega
              go_wp2_with (fail)
              refine (hF l w7).mono ?_
              rintro e w8 ⟨rfl, hb8⟩
              rw [o3]
              have k8 := k7.trans (hb8.mono k7.size)
              go_wp2_with (fail)
              go_meet
              exact ⟨by rw [decide_eq_false (by omega), decide_eq_false (by omega)]; rfl, k8⟩
            · have hle : l ≤ (n : Int) := by omega
              go_wp2_with (fail)
              refine (hF l w7).mono ?_
              rintro e w8 ⟨rfl, hb8⟩
              rw [o3]
              have k8 := k7.trans (hb8.mono k7.size)
              go_wp2_with (fail)
              go_meet
              exact ⟨by rw [decide_eq_false (by omega), decide_eq_false (by omega)]; rfl, k8⟩
          case rest =>
            clear k7
            obtain ⟨rfl, k8⟩ := hcut
            rcases o4 with rfl | ⟨o4, o5⟩
            · clear hF
              go_wp2_with (fail)
              refine (alive_at _).mono ?_
              rintro e w9 ⟨rfl, hb9⟩
              have k9 := k8.trans (hb9.mono k8.size)
              go_wp2_with (fail)
              go_ret
              exact ⟨rfl, k9⟩
            · have o6 : (l == (n : Int)) = false := by rw [beq_eq_false_iff_ne]; exact o4
              go_wp2_with (fail)
              refine (hF (l - 1) _).mono ?_
              rintro e w9 ⟨rfl, hb9⟩
              rw [o5]
              have k9 := k8.trans (hb9.mono k8.size)
              clear k8 hb9 hF
              go_wp2_with (fail)
              refine (alive_at _).mono ?_
              rintro e w10 ⟨rfl, hb10⟩
              have k10 := k9.trans (hb10.mono k9.size)
              go_wp2_with (fail)
              go_ret
              exact ⟨rfl, k10⟩
end Go.Proofs.Ytabcodjalacdjac.BoundCode
