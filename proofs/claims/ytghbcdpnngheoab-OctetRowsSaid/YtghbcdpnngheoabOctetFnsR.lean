/- What the functions of package octet, and of the document's answer, compute, told over plain lists. -/
import Derived.Test.YtghbcdpnngheoabPOctetRx3
import Derived.Test.YtghbcdpnngheoabOctetPlain
import Derived.Lib.Bytes
namespace Go.Proofs.Ytghbcdpnngheoab.OctetFnsR
set_option linter.unusedVariables false
open Go.RowKit Go.Proofs.Ytghbcdpnngheoab.POctetR Go.Proofs.YtghbcdpnngheoabW.PrintWords Go.Proofs.YtghbcdpnngheoabW.PrintLast Go.Proofs.YtghbcdpnngheoabW.PrintMore Go.Proofs.Ytghbcdpnngheoab.OctetPlain

def bl (s : ByteArray) : List Nat := s.data.toList.map UInt8.toNat
def ofL (l : List Nat) : ByteArray := ⟨(l.map UInt8.ofNat).toArray⟩

theorem bl_lt (s : ByteArray) : ∀ b ∈ bl s, b < 256 := by
  intro b hb
  obtain ⟨c, _, rfl⟩ := List.mem_map.1 hb
  exact c.toNat_lt
theorem bl_length (s : ByteArray) : (bl s).length = s.size := by rw [bl, List.length_map]; exact data_length s
theorem ofL_bl (s : ByteArray) : ofL (bl s) = s := by
  cases s with | mk d =>
  simp only [ofL, bl, List.map_map]
  congr 1
  have : (UInt8.ofNat ∘ UInt8.toNat) = id := by funext x; simp
  rw [this]; simp
theorem bl_ofL {l : List Nat} (h : ∀ b ∈ l, b < 256) : bl (ofL l) = l := by
  simp only [ofL, bl, List.map_map]
  conv => rhs; rw [← List.map_id l]
  apply List.map_congr_left
  intro b hb
  simp [Nat.mod_eq_of_lt (h b hb)]
theorem bl_append (a b : ByteArray) : bl (a ++ b) = bl a ++ bl b := by simp [bl]
theorem ofL_append (m n : List Nat) : ofL m ++ ofL n = ofL (m ++ n) := by
  apply ByteArray.ext
  rw [ByteArray.data_append]; simp [ofL]
theorem bl_inj {a b : ByteArray} (h : bl a = bl b) : a = b := by rw [← ofL_bl a, ← ofL_bl b, h]
theorem bl_extract (s : ByteArray) (i j : Nat) : bl (s.extract i j) = ((bl s).drop i).take (j - i) := by
  rw [bl, bl, ByteArray.data_extract, Array.toList_extract, List.extract_eq_take_drop, List.map_take, List.map_drop]
theorem extract_end (s : ByteArray) (i : Nat) : s.extract i s.size = ofL ((bl s).drop i) := by
  apply bl_inj
  rw [bl_extract, bl_ofL (fun b hb => bl_lt s b (List.mem_of_mem_drop hb)), List.take_of_length_le (by rw [List.length_drop, bl_length]; omega)]
theorem bt_bl (s : ByteArray) (i : Nat) : bt s (i : Int) = (((bl s).getD i 0 : Nat) : Int) := by
  unfold bt bl
  rw [Int.toNat_natCast]
  split
  · rename_i h
    have h' : i < s.data.toList.length := by rw [data_length]; exact h
    rw [List.getD_eq_getElem?_getD, List.getElem?_map, List.getElem?_eq_getElem h']
    simp; rfl
  · rename_i h
    have h' : s.data.toList.length ≤ i := by rw [data_length]; omega
    rw [List.getD_eq_getElem?_getD, List.getElem?_map, List.getElem?_eq_none h']
    simp
theorem strOfNums_ofL (l : List Nat) : strOfNums (l.map (fun n : Nat => (n : Int))) = ofL l := by
  simp only [strOfNums, ofL, List.map_map]; rfl
theorem toList_eq {a b : ByteArray} : a.toList = b.toList ↔ a = b := by
  refine ⟨fun h => ?_, fun h => by rw [h]⟩
  rw [ByteArray.toList_eq, ByteArray.toList_eq] at h
  cases a; cases b; simp only at h; rw [Array.toList_inj] at h; rw [h]

theorem u64_wrap (n : Int) : IntKind.u64.wrap n = n % 18446744073709551616 := by simp [IntKind.wrap, IntKind.bits, IntKind.signed]
theorem or128 (a : Nat) : bits .or .u8 ((a : Int) % 256) 128 = ((a % 128 + 128 : Nat) : Int) := by
  have e : ((a : Int) % 256) = ((a % 256 : Nat) : Int) := by omega
  have h := (bits_nat .u8 8 (by decide) wraps_u8 (a % 256) 128 (by omega) (by decide)).2
  rw [e]
  have h2 : bits .or .u8 ((a % 256 : Nat) : Int) 128 = ((a % 256 ||| 128 : Nat) : Int) := h
  rw [h2]
  have : ∀ b, b < 256 → b ||| 128 = b % 128 + 128 := by decide +kernel
  rw [this _ (by omega)]
  omega
theorem and127 (b : Nat) (h : b < 256) : bits .and .u8 (b : Int) 127 = ((b % 128 : Nat) : Int) := by
  have := bits_mask .u8 8 (by decide) wraps_u8 7 (by decide) (b : Int) (by omega) (by omega)
  rw [show ((2 : Int) ^ 7 - 1) = 127 by decide, show ((2 : Int) ^ 7) = 128 by decide] at this
  rw [this]; omega
theorem or_join (i a b : Nat) (ha : a < 2 ^ i) (hb : b * 2 ^ i < 2 ^ 64) (hi : i ≤ 64) : bits .or .u64 (a : Int) ((b * 2 ^ i : Nat) : Int) = ((a + b * 2 ^ i : Nat) : Int) := by
  have h64 : ∀ n : Int, 0 ≤ n → n < 2 ^ 64 → IntKind.u64.wrap n = n := by intro n h0 h1; rw [u64_wrap]; omega
  have ha' : a < 2 ^ 64 := Nat.lt_of_lt_of_le ha (Nat.pow_le_pow_right (by decide) hi)
  rw [(bits_nat .u64 64 (by decide) h64 a (b * 2 ^ i) ha' hb).2, Nat.or_comm, Nat.mul_comm b, ← Nat.two_pow_add_eq_or_of_lt ha, Nat.add_comm]
theorem w64 {n : Int} (h0 : -9223372036854775808 ≤ n) (h1 : n < 9223372036854775808) : wrap64 n = n := by unfold wrap64; omega

theorem num_l0 : ∀ (v k : Nat) (l : List Nat), (vb v).length ≤ k → l.length + (vb v).length < 140737488355328 → octet_Num.l0 k (v : Int) (l.map (fun n : Nat => (n : Int))) = some (ofL (l ++ vb v)) := by
  intro v
  induction v using Nat.strongRecOn with
  | _ v ih =>
    intro k l hk hl
    by_cases h : v < 128
    · rw [vb_lt h] at hk hl ⊢
      obtain ⟨k, rfl⟩ : ∃ m, k = m + 1 := ⟨k - 1, by simp at hk; omega⟩
      simp only [octet_Num.l0]
      rw [if_neg (by omega), if_pos (by simp at hl ⊢; omega), ← strOfNums_ofL]
      have : ((v : Int) % 256) = (v : Int) := by omega
      rw [this, List.map_append]; rfl
    · rw [vb_ge h] at hk hl ⊢
      simp only [List.length_cons] at hk hl
      obtain ⟨k, rfl⟩ : ∃ m, k = m + 1 := ⟨k - 1, by omega⟩
      simp only [octet_Num.l0]
      rw [if_pos (by omega), if_pos (by rw [List.length_map]; omega), or128, show (v : Int) / 128 = ((v / 128 : Nat) : Int) by omega]
      have e : (l.map (fun n : Nat => (n : Int))) ++ [((v % 128 + 128 : Nat) : Int)] = (l ++ [v % 128 + 128]).map (fun n : Nat => (n : Int)) := by simp
      rw [e, ih (v / 128) (by omega) k _ (by omega) (by simp; omega)]
      simp
theorem num_f (v k : Nat) (hv : v < 2 ^ 64) (hk : 10 ≤ k) : octet_Num.f k (v : Int) = some (ofL (vb v)) := by
  have := vb_len 9 v (by simpa using hv)
  exact num_l0 v k [] (by omega) (by simp; omega)
theorem rnum_l0 : ∀ (v k : Nat) (l : List Nat), v < 2 ^ 64 → (vb v).length ≤ k → l.length + (vb v).length < 140737488355328 → tollbarref01_Num.l0 k (v : Int) (ofL l) = some (ofL (l ++ vb v)) := by
  intro v
  induction v using Nat.strongRecOn with
  | _ v ih =>
    intro k l hv hk hl
    have hz : ∀ m : List Nat, (ofL m).size = m.length := by intro m; rw [← data_length]; simp [ofL]
    have ha : ∀ m n : List Nat, ofL m ++ ofL n = ofL (m ++ n) := ofL_append
    by_cases h : v < 128
    · rw [vb_lt h] at hk hl ⊢
      obtain ⟨k, rfl⟩ : ∃ m, k = m + 1 := ⟨k - 1, by simp at hk; omega⟩
      simp only [tollbarref01_Num.l0, Option.bind_some]
      have e : strOfNums ([(v : Int) % 256] : List Int) = ofL [v] := by
        rw [← strOfNums_ofL, show ((v : Int) % 256) = (v : Int) by omega]; rfl
      rw [if_neg (by omega), e, if_pos (by rw [hz, hz]; simp at hl ⊢; omega), ha]
    · rw [vb_ge h] at hk hl ⊢
      simp only [List.length_cons] at hk hl
      obtain ⟨k, rfl⟩ : ∃ m, k = m + 1 := ⟨k - 1, by omega⟩
      simp only [tollbarref01_Num.l0, Option.bind_some]
      have e : strOfNums ([((Int.tmod (v : Int) 128 % 256) + 128) % 256] : List Int) = ofL [v % 128 + 128] := by
        rw [← strOfNums_ofL, Int.tmod_eq_emod_of_nonneg (by omega), show (((v : Int) % 128 % 256) + 128) % 256 = ((v % 128 + 128 : Nat) : Int) by omega]; rfl
      have e2 : IntKind.u64.wrap (Int.tdiv (v : Int) 128) = ((v / 128 : Nat) : Int) := by
        rw [u64_wrap, Int.tdiv_eq_ediv_of_nonneg (by omega)]; omega
      rw [if_pos (by omega), e, if_pos (by rw [hz, hz]; simp at hl ⊢; omega), ha, e2, ih (v / 128) (by omega) k _ (by omega) (by omega) (by simp; omega)]
      simp
theorem rnum_f (v k : Nat) (hv : v < 2 ^ 64) (hk : 10 ≤ k) : tollbarref01_Num.f k (v : Int) = some (ofL (vb v)) := by
  have := vb_len 9 v (by simpa using hv)
  exact rnum_l0 v k [] hv (by omega) (by simp; omega)
/-! ### Get -/
theorem mn_min (a b : Nat) : mn (a : Int) (b : Int) = ((min a b : Nat) : Int) := by unfold mn; split <;> omega
theorem drop_cons {α : Type} {l : List α} {i : Nat} {b : α} {r : List α} (h : l.drop i = b :: r) : i < l.length ∧ l[i]? = some b ∧ l.drop (i + 1) = r := by
  have hi : i < l.length := by
    rcases Nat.lt_or_ge i l.length with h1 | h1
    · exact h1
    · rw [List.drop_of_length_le h1] at h; cases h
  rw [List.drop_eq_getElem_cons hi] at h
  simp only [List.cons.injEq] at h
  exact ⟨hi, by rw [List.getElem?_eq_getElem hi, h.1], h.2⟩

/-- What 'Get' hands back, of what getL tells. -/
def out (x : Nat × List Nat × Int) : Int × ByteArray × Int := ((x.1 : Int), ofL x.2.1, x.2.2)

theorem shl_7 (i b : Nat) (hi : i ≤ 9) (hb : b * 128 ^ i < 2 ^ 64) : shl .u64 (b : Int) (wrap64 (7 * (i : Int))) = ((b * 128 ^ i : Nat) : Int) := by
  unfold shl
  rw [w64 (by omega) (by omega), show (7 * (i : Int)).toNat = 7 * i by omega, Nat.min_eq_left (show 7 * i ≤ IntKind.u64.bits from by show 7 * i ≤ 64; omega), u64_wrap]
  have e : ((2 : Int) ^ (7 * i)) = ((128 ^ i : Nat) : Int) := by
    rw [show (128 : Nat) = 2 ^ 7 by decide, ← Nat.pow_mul]; simp
  rw [e, ← Int.natCast_mul]
  omega

theorem put_digit (i acc b : Nat) (hi : i ≤ 9) (hacc : acc < 128 ^ i) (hb : b < 256) (h9 : i = 9 → b % 128 ≤ 1) :
    bits .or .u64 (acc : Int) (shl .u64 (IntKind.u64.wrap (bits .and .u8 (b : Int) 127)) (wrap64 (7 * (i : Int)))) = ((acc + (b % 128) * 128 ^ i : Nat) : Int) := by
  have hp : 128 ^ i = 2 ^ (7 * i) := by rw [show (128 : Nat) = 2 ^ 7 by decide, ← Nat.pow_mul]
  have hlt : (b % 128) * 128 ^ i < 2 ^ 64 := by
    by_cases h : i = 9
    · subst h
      have := h9 rfl
      have : (b % 128) * 128 ^ 9 ≤ 1 * 128 ^ 9 := Nat.mul_le_mul_right _ this
      have : 128 ^ 9 < 2 ^ 64 := by decide
      omega
    · have h1 : 128 ^ i ≤ 128 ^ 8 := Nat.pow_le_pow_right (by decide) (by omega)
      have h2 : (b % 128) * 128 ^ i ≤ 127 * 128 ^ 8 := Nat.mul_le_mul (by omega) h1
      have : 127 * 128 ^ 8 < 2 ^ 64 := by decide
      omega
  have e : IntKind.u64.wrap (((b % 128 : Nat) : Int)) = ((b % 128 : Nat) : Int) := by rw [u64_wrap]; omega
  rw [and127 b hb, e, shl_7 i (b % 128) hi hlt, hp]
  rw [hp] at hacc hlt
  exact or_join (7 * i) acc (b % 128) hacc hlt (by omega)

theorem get_l0 (s : ByteArray) (hs : s.size < 9223372036854775000) : ∀ (r : List Nat) (i acc k : Nat), (bl s).drop i = r → i ≤ 9 → i ≤ s.size → acc < 128 ^ i → 2 * r.length + 2 ≤ k →
    octet_Get.l0 k s (acc : Int) (-1) (mn (s.size : Int) 10) (i : Int) = some (out (getL i acc r)) := by
  intro r
  induction r with
  | nil =>
    intro i acc k hr hi his _ hk
    obtain ⟨k, rfl⟩ : ∃ m, k = m + 1 := ⟨k - 1, by omega⟩
    have hl : s.size ≤ i := by
      have := congrArg List.length hr
      rw [List.length_drop, bl_length] at this; simp at this; omega
    simp only [octet_Get.l0]
    rw [show (10 : Int) = ((10 : Nat) : Int) by rfl, mn_min, if_neg (by omega), if_pos (by omega)]
    rfl
  | cons b r ih =>
    intro i acc k hr hi his hacc hk
    simp only [List.length_cons] at hk
    obtain ⟨k, rfl⟩ : ∃ m, k = m + 1 := ⟨k - 1, by omega⟩
    obtain ⟨hil, hib, hr'⟩ := drop_cons hr
    rw [bl_length] at hil
    have hbt : bt s (i : Int) = (b : Int) := by rw [bt_bl, List.getD_eq_getElem?_getD, hib]; rfl
    have hb : b < 256 := bl_lt s b (List.mem_of_getElem? hib)
    have hmn : mn (s.size : Int) 10 = ((min s.size 10 : Nat) : Int) := mn_min s.size 10
    have h10 : Aside0 ((i : Int) < mn (s.size : Int) 10) := ⟨by rw [hmn]; omega⟩
    clear hmn
    have hx : Aside0 (s.extract ((wrap64 ((i : Int) + 1)) : Int).toNat s.size = ofL r) := ⟨by
      rw [w64 (by omega) (by omega), show ((i : Int) + 1).toNat = i + 1 by omega, extract_end, hr']⟩
    have hw : Aside0 (wrap64 ((i : Int) + 1) = ((i + 1 : Nat) : Int)) := ⟨by rw [w64 (by omega) (by omega)]; omega⟩
    have g7 : Aside0 (0 ≤ wrap64 (7 * (i : Int))) := ⟨by rw [w64 (by omega) (by omega)]; omega⟩
    have g8 : Aside0 (0 ≤ wrap64 ((i : Int) + 1)) := ⟨by rw [hw.out]; omega⟩
    have g9 : Aside0 (wrap64 ((i : Int) + 1) ≤ (s.size : Int)) := ⟨by rw [hw.out]; omega⟩
    simp only [octet_Get.l0]
    rw [if_pos h10.out, if_pos (by omega), if_pos (by omega), if_pos g7.out, hbt]
    obtain ⟨k, rfl⟩ : ∃ m, k = m + 1 := ⟨k - 1, by omega⟩
    by_cases h9 : i = 9
    · rw [if_pos (by omega)]
      by_cases hb1 : b ≤ 1
      · rw [put_digit i acc b hi hacc hb (fun _ => by omega)]
        simp only [octet_Get.j1]
        rw [if_neg (by simp; omega), if_neg (by omega), if_pos (by omega)]
        by_cases hb0 : b = 0
        · rw [if_pos (by omega)]
          simp only [getL, if_pos h9, if_neg (show ¬ b = 1 by omega)]; rfl
        · have hb1' : b = 1 := by omega
          subst hb1'
          rw [if_neg (by omega), if_neg (by omega), if_pos g8.out, if_pos g9.out, hx.out]
          simp only [getL, if_pos h9, if_true, out]
          subst h9
          rw [show (1 % 128) * 128 ^ 9 = 128 ^ 9 by decide]
      · simp only [octet_Get.j1]
        rw [if_pos (by simp; omega)]
        simp only [getL, if_pos h9, if_neg (show ¬ b = 1 by omega)]; rfl
    · rw [if_neg (by omega), put_digit i acc b hi hacc hb (fun h => absurd h h9)]
      simp only [octet_Get.j1]
      rw [if_neg (by simp)]
      simp only [getL, if_neg h9]
      by_cases h128 : 128 ≤ b
      · rw [if_pos (by omega), if_pos h128, hw.out]
        refine ih (i + 1) _ k hr' (by omega) (by omega) ?_ (by omega)
        rw [Nat.pow_succ]
        have : (b % 128) * 128 ^ i ≤ 127 * 128 ^ i := Nat.mul_le_mul_right _ (by omega)
        omega
      · rw [if_neg (by omega), if_neg h128]
        have hbm : b % 128 = b := by omega
        rw [hbm]
        by_cases hi0 : 0 < i
        · rw [if_pos (by omega)]
          by_cases hb0 : b = 0
          · rw [if_pos (by omega), if_pos ⟨hi0, hb0⟩]; rfl
          · rw [if_neg (by omega), if_neg (by omega), if_pos g8.out, if_pos g9.out, hx.out, if_neg (by omega)]; simp only [out]
        · rw [if_neg (by omega), if_neg (by omega), if_pos g8.out, if_pos g9.out, hx.out, if_neg (by omega)]; simp only [out]
theorem get_f (s : ByteArray) (k : Nat) (hs : s.size < 9223372036854775000) (hk : 2 * s.size + 2 ≤ k) : octet_Get.f k s = some (out (getL 0 0 (bl s))) :=
  get_l0 s hs (bl s) 0 0 k rfl (by omega) (by omega) (by decide) (by rw [bl_length]; omega)

/-! ### the document's Get -/
theorem rget_l1 (s : ByteArray) (hs : s.size < 9223372036854775000) (n : Nat) (hn : n < s.size) (hn9 : n ≤ 9) (v : Nat) (hv : v = val ((bl s).take (n + 1)) % 2 ^ 64) :
    ∀ (j : Nat) (k : Nat), j ≤ n + 1 → j + 11 ≤ k → tollbarref01_Get.l1 k s (n : Int) ((val (((bl s).take (n + 1)).drop j) % 2 ^ 64 : Nat) : Int) ((j : Int) - 1) =
      (if (vb v) = (bl s).take (n + 1) then some ((v : Int), ofL ((bl s).drop (n + 1)), 0) else some (0, (⟨#[]⟩ : ByteArray), 7)) := by
  intro j
  induction j with
  | zero =>
    intro k _ hk
    obtain ⟨k, rfl⟩ : ∃ m, k = m + 1 := ⟨k - 1, by omega⟩
    simp only [tollbarref01_Get.l1, List.drop_zero]
    have hv64 : v < 2 ^ 64 := hv ▸ Nat.mod_lt _ (Nat.two_pow_pos 64)
    have h0 : ¬ (((0 : Nat) : Int) - 1 ≥ 0) := by omega
    rw [if_neg h0]
    rw [← hv]
    rw [rnum_f v k hv64 (by omega)]
    rw [Option.bind_some]
    have hw : Aside0 (wrap64 ((n : Int) + 1) = ((n + 1 : Nat) : Int)) := ⟨by rw [w64 (by omega) (by omega)]; omega⟩
    have g8 : Aside0 (0 ≤ wrap64 ((n : Int) + 1)) := ⟨by rw [hw.out]; omega⟩
    have g9 : Aside0 (wrap64 ((n : Int) + 1) ≤ (s.size : Int)) := ⟨by rw [hw.out]; omega⟩
    rw [if_pos g8.out, if_pos g9.out, hw.out, Int.toNat_natCast, extract_end]
    have e : ((ofL (vb v)).toList = (s.extract 0 (n + 1)).toList) ↔ (vb v = (bl s).take (n + 1)) := by
      rw [toList_eq]
      constructor
      · intro h
        have := congrArg bl h
        rw [bl_ofL (vb_byte v), bl_extract] at this
        simpa using this
      · intro h
        apply bl_inj
        rw [bl_ofL (vb_byte v), bl_extract, h]; simp
    by_cases h : vb v = (bl s).take (n + 1)
    · rw [if_pos (e.2 h), if_pos h]
    · rw [if_neg (fun h' => h (e.1 h')), if_neg h]
  | succ j ih =>
    intro k hj hk
    obtain ⟨k, rfl⟩ : ∃ m, k = m + 1 := ⟨k - 1, by omega⟩
    simp only [tollbarref01_Get.l1]
    have ej : ((j + 1 : Nat) : Int) - 1 = (j : Int) := by omega
    rw [ej, if_pos (by omega), if_pos (by omega), if_pos (by omega), w64 (by omega) (by omega)]
    have hjl : j < ((bl s).take (n + 1)).length := by rw [List.length_take, bl_length]; omega
    have hd := List.drop_eq_getElem_cons hjl
    have hg : ((bl s).take (n + 1))[j] = (bl s).getD j 0 := by
      rw [List.getElem_take, List.getD_eq_getElem?_getD, List.getElem?_eq_getElem (by rw [bl_length]; omega)]; rfl
    have hb : (bl s).getD j 0 < 256 := by
      rw [← hg]; exact bl_lt s _ (List.mem_of_mem_take (List.getElem_mem hjl))
    have e : Aside0 (IntKind.u64.wrap ((IntKind.u64.wrap (((val (((bl s).take (n + 1)).drop (j + 1)) % 2 ^ 64 : Nat) : Int) * 128)) + (Int.tmod (IntKind.u64.wrap (bt s (j : Int))) 128)) = ((val (((bl s).take (n + 1)).drop j) % 2 ^ 64 : Nat) : Int)) := ⟨by
      rw [hd, hg]
      simp only [val]
      rw [bt_bl, u64_wrap (((bl s).getD j 0 : Nat) : Int), Int.tmod_eq_emod_of_nonneg (by omega), u64_wrap, u64_wrap]
      omega⟩
    rw [e.out]
    exact ih k (by omega) (by omega)
theorem rget_stop (s : ByteArray) (hs : s.size < 9223372036854775000) (i k : Nat) (hi : i ≤ 9) (his : i ≤ s.size) (hp : ∀ x ∈ (bl s).take i, 128 ≤ x)
    (hstop : i < s.size → i = 9 ∨ (bl s).getD i 0 < 128) (hk : 30 ≤ k) : tollbarref01_Get.j1 k s (i : Int) = some (out (getL 0 0 (bl s))) := by
  obtain ⟨k, rfl⟩ : ∃ m, k = m + 1 := ⟨k - 1, by omega⟩
  simp only [tollbarref01_Get.j1]
  have hpl : ((bl s).take i).length = i := by rw [List.length_take, bl_length]; omega
  have hrun := getL_run ((bl s).take i) 0 0 ((bl s).drop i) hp (by rw [hpl]; omega)
  rw [List.take_append_drop, hpl] at hrun
  simp only [Nat.zero_add, Nat.pow_zero, Nat.one_mul] at hrun
  by_cases hz : i = s.size
  · rw [if_pos (by omega), hrun, List.drop_of_length_le (by rw [bl_length]; omega)]; rfl
  · rw [if_neg (by omega)]
    have hlt : i < s.size := by omega
    have hil : i < (bl s).length := by rw [bl_length]; exact hlt
    have hd := List.drop_eq_getElem_cons hil
    obtain ⟨b, hb⟩ : ∃ b, (bl s)[i] = b := ⟨_, rfl⟩
    rw [hb] at hd
    have hgd : (bl s).getD i 0 = b := by rw [List.getD_eq_getElem?_getD, List.getElem?_eq_getElem hil, hb]; rfl
    have hb256 : b < 256 := by rw [← hb]; exact bl_lt s _ (List.getElem_mem hil)
    have htake : (bl s).take (i + 1) = (bl s).take i ++ [b] := by rw [List.take_succ_eq_append_getElem hil, hb]
    obtain ⟨p, hpe⟩ : ∃ p, (bl s).take i = p := ⟨_, rfl⟩
    rw [hpe] at hp hpl hrun htake
    have hp2 : ∀ x ∈ p, 128 ≤ x ∧ x < 256 := fun x hx => ⟨hp x hx, bl_lt s x (List.mem_of_mem_take (by rw [hpe]; exact hx))⟩
    have hl1 := rget_l1 s hs i hlt hi (val ((bl s).take (i + 1)) % 2 ^ 64) rfl (i + 1) k (Nat.le_refl _) (by omega)
    rw [List.drop_of_length_le (by rw [List.length_take]; omega), show ((i + 1 : Nat) : Int) - 1 = (i : Int) by omega] at hl1
    simp only [val, Nat.zero_mod] at hl1
    rw [show (0 : Int) = ((0 : Nat) : Int) by rfl, hl1, hrun, hd, htake]
    have hv : val (p ++ [b]) = val p + 128 ^ i * (b % 128) := by rw [val_append, hpl]; simp [val]
    have hvl := val_lt p
    rw [hpl] at hvl
    have hne : i ≠ 0 → p ≠ [] := fun h e => h (by rw [e] at hpl; simpa using hpl.symm)
    simp only [getL]
    by_cases h9 : i = 9
    · subst h9
      rw [if_pos rfl]
      by_cases h1 : b = 1
      · subst h1
        have e : val (p ++ [1]) % 2 ^ 64 = val (p ++ [1]) := by rw [hv]; omega
        rw [e, if_pos (vb_of_form p 1 hp2 (by decide) (by simp)), if_pos rfl, hv]
        simp only [out, show (1 % 128) = 1 by decide, Nat.mul_one]
      · rw [if_neg h1, if_neg ?_]
        · rfl
        · intro h
          obtain ⟨l, b', e, _, hb', h0⟩ := vb_form (val (p ++ [b]) % 2 ^ 64)
          rw [h] at e
          obtain ⟨rfl, e2⟩ := List.append_inj' e rfl
          simp only [List.cons.injEq, and_true] at e2
          subst e2
          have hb0 := h0 (hne (by decide))
          have hval := val_vb (val (p ++ [b]) % 2 ^ 64)
          rw [h] at hval
          have : val (p ++ [b]) < 2 ^ 64 := by omega
          rw [hv] at this
          omega
    · rw [if_neg h9]
      have hb128 : b < 128 := by
        rcases hstop hlt with h | h
        · exact absurd h h9
        · rwa [hgd] at h
      rw [if_neg (show ¬ 128 ≤ b by omega)]
      have hsm : val (p ++ [b]) < 2 ^ 64 := by
        have h1 := val_lt (p ++ [b])
        rw [List.length_append, hpl] at h1
        have h2 : 128 ^ (i + [b].length) ≤ 128 ^ 9 := Nat.pow_le_pow_right (by decide) (by simp; omega)
        have : 128 ^ 9 < 2 ^ 64 := by decide
        omega
      rw [Nat.mod_eq_of_lt hsm]
      by_cases h0 : 0 < i ∧ b = 0
      · rw [if_pos h0, if_neg ?_]
        · rfl
        · intro h
          obtain ⟨l, b', e, _, hb', h0'⟩ := vb_form (val (p ++ [b]))
          rw [h] at e
          obtain ⟨rfl, e2⟩ := List.append_inj' e rfl
          simp only [List.cons.injEq, and_true] at e2
          subst e2
          exact h0' (hne (by omega)) h0.2
      · rw [if_neg h0, if_pos (vb_of_form p b hp2 hb128 ?_)]
        · have e : val (p ++ [b]) = val p + b * 128 ^ i := by rw [hv, Nat.mod_eq_of_lt hb128, Nat.mul_comm b]
          simp only [out, e]
        · intro hpn hb0
          refine h0 ⟨?_, hb0⟩
          rcases Nat.eq_zero_or_pos i with h | h
          · exact absurd (List.length_eq_zero_iff.1 (by rw [hpl]; exact h)) hpn
          · exact h
theorem rget_l0 (s : ByteArray) (hs : s.size < 9223372036854775000) : ∀ (d i k : Nat), i + d = 10 → i ≤ 9 → i ≤ s.size → (∀ x ∈ (bl s).take i, 128 ≤ x) → 31 + d ≤ k →
    tollbarref01_Get.l0 k s (i : Int) = some (out (getL 0 0 (bl s))) := by
  intro d
  induction d with
  | zero => intro i k h1 h2; omega
  | succ d ih =>
    intro i k hid hi his hp hk
    obtain ⟨k, rfl⟩ : ∃ m, k = m + 1 := ⟨k - 1, by omega⟩
    simp only [tollbarref01_Get.l0]
    by_cases h1 : i < s.size
    · rw [if_pos (by omega)]
      by_cases h2 : i < 9
      · rw [if_pos (by omega), if_pos (by omega), bt_bl]
        by_cases h3 : 128 ≤ (bl s).getD i 0
        · rw [if_pos (by omega), w64 (by omega) (by omega), show (i : Int) + 1 = ((i + 1 : Nat) : Int) by omega]
          refine ih (i + 1) k (by omega) (by omega) (by omega) ?_ (by omega)
          intro x hx
          have hil : i < (bl s).length := by rw [bl_length]; exact h1
          rw [List.take_succ_eq_append_getElem hil] at hx
          rcases List.mem_append.1 hx with hx | hx
          · exact hp x hx
          · simp only [List.mem_singleton] at hx
            rw [List.getD_eq_getElem?_getD, List.getElem?_eq_getElem hil] at h3
            rw [hx]; exact h3
        · rw [if_neg (by omega)]
          exact rget_stop s hs i k hi his hp (fun _ => .inr (by omega)) (by omega)
      · rw [if_neg (by omega)]
        exact rget_stop s hs i k hi his hp (fun _ => .inl (by omega)) (by omega)
    · rw [if_neg (by omega)]
      exact rget_stop s hs i k hi his hp (fun h => absurd h h1) (by omega)
theorem rget_f (s : ByteArray) (k : Nat) (hs : s.size < 9223372036854775000) (hk : 41 ≤ k) : tollbarref01_Get.f k s = some (out (getL 0 0 (bl s))) :=
  rget_l0 s hs 10 0 k rfl (by omega) (by omega) (by simp) (by omega)

end Go.Proofs.Ytghbcdpnngheoab.OctetFnsR
