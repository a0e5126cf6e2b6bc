/- The law OctetSigns returns true for every number with a sign and every text: what Int writes is the document's, GetInt reads it back, whatever stands behind it, and what GetInt reads is put as it stood. -/
import Derived.Test.YtghbcdpnngheoabPureOctetNumbers
namespace Go.Proofs.Ytghbcdpnngheoab.Pure
open Go.RowKit Go.Proofs.Ytghbcdpnngheoab.POctet Go.Proofs.YtghbcdpnngheoabW.PrintWords Go.Proofs.YtghbcdpnngheoabW.PrintLast Go.Proofs.YtghbcdpnngheoabW.PrintMore Go.Proofs.Ytghbcdpnngheoab.OctetPlain Go.Proofs.Ytghbcdpnngheoab.OctetFns

theorem getL_err : ∀ (l : List Nat) (i acc x : Nat) (r : List Nat) (e : Int), getL i acc l = (x, r, e) → e ≠ 0 → x = 0 ∧ r = [] := by
  intro l
  induction l with
  | nil => intro i acc x r e h _; simp only [getL, Prod.mk.injEq] at h; exact ⟨h.1.symm, h.2.1.symm⟩
  | cons b l ih =>
    intro i acc x r e h he
    simp only [getL] at h
    split at h
    · split at h <;> simp only [Prod.mk.injEq] at h
      · exact absurd h.2.2.symm he
      · exact ⟨h.1.symm, h.2.1.symm⟩
    · split at h
      · exact ih _ _ x r e h he
      · split at h <;> simp only [Prod.mk.injEq] at h
        · exact ⟨h.1.symm, h.2.1.symm⟩
        · exact absurd h.2.2.symm he

/-- A number with a sign as one without, and back. -/
def zz (v : Int) : Nat := if 0 ≤ v then (2 * v).toNat else (-2 * v - 1).toNat
def uz (n : Nat) : Int := if n % 2 = 0 then ((n / 2 : Nat) : Int) else -((n / 2 : Nat) : Int) - 1
theorem uz_zz (v : Int) : uz (zz v) = v := by unfold uz zz; split <;> split <;> omega
theorem zz_uz (n : Nat) : zz (uz n) = n := by unfold uz zz; split <;> split <;> omega
theorem zz_lt {v : Int} (h0 : -9223372036854775808 ≤ v) (h1 : v ≤ 9223372036854775807) : zz v < 18446744073709551616 := by unfold zz; split <;> omega

theorem wrap_u64_id {n : Int} (h0 : 0 ≤ n) (h1 : n < 18446744073709551616) : IntKind.u64.wrap n = n := by rw [u64_wrap]; omega
theorem xor_zero_u64 (x : Int) (h0 : 0 ≤ x) (h1 : x < 18446744073709551616) : bits .xor .u64 x 0 = x := by
  obtain ⟨n, rfl⟩ := Int.eq_ofNat_of_zero_le h0
  simp only [bits]
  have e : (BitVec.ofInt IntKind.u64.bits (n : Int) ^^^ BitVec.ofInt IntKind.u64.bits 0) = BitVec.ofNat IntKind.u64.bits n := by
    rw [BitVec.ofInt_natCast]; simp
  rw [e, BitVec.toNat_ofNat, show IntKind.u64.bits = 64 from rfl, Nat.mod_eq_of_lt (by omega)]
  exact wrap_u64_id h0 h1
theorem xor_ones_u64 (x : Int) (h0 : 0 ≤ x) (h1 : x < 18446744073709551616) : bits .xor .u64 x 18446744073709551615 = 18446744073709551615 - x := by
  obtain ⟨n, rfl⟩ := Int.eq_ofNat_of_zero_le h0
  simp only [bits]
  have e : (BitVec.ofInt IntKind.u64.bits (n : Int) ^^^ BitVec.ofInt IntKind.u64.bits 18446744073709551615) = ~~~ (BitVec.ofNat IntKind.u64.bits n) := by
    rw [BitVec.ofInt_natCast]
    have : BitVec.ofInt IntKind.u64.bits 18446744073709551615 = BitVec.allOnes IntKind.u64.bits := by decide
    rw [this, BitVec.xor_allOnes]
  rw [e, BitVec.toNat_not, BitVec.toNat_ofNat, show IntKind.u64.bits = 64 from rfl, Nat.mod_eq_of_lt (by omega)]
  rw [wrap_u64_id (by omega) (by omega)]; omega
theorem wrap_i64_id {n : Int} (h0 : -9223372036854775808 ≤ n) (h1 : n ≤ 9223372036854775807) : IntKind.i64.wrap n = n := by rw [IntKind.wrap_i64]; omega
theorem xor_zero_i64 (x : Int) (h0 : 0 ≤ x) (h1 : x ≤ 9223372036854775807) : bits .xor .i64 x 0 = x := by
  obtain ⟨n, rfl⟩ := Int.eq_ofNat_of_zero_le h0
  simp only [bits]
  have e : (BitVec.ofInt IntKind.i64.bits (n : Int) ^^^ BitVec.ofInt IntKind.i64.bits 0) = BitVec.ofNat IntKind.i64.bits n := by
    rw [BitVec.ofInt_natCast]; simp
  rw [e, BitVec.toNat_ofNat, show IntKind.i64.bits = 64 from rfl, Nat.mod_eq_of_lt (by omega)]
  exact wrap_i64_id (by omega) (by omega)
theorem xor_ones_i64 (x : Int) (h0 : 0 ≤ x) (h1 : x ≤ 9223372036854775807) : bits .xor .i64 x (-1) = -1 - x := by
  obtain ⟨n, rfl⟩ := Int.eq_ofNat_of_zero_le h0
  simp only [bits]
  have e : (BitVec.ofInt IntKind.i64.bits (n : Int) ^^^ BitVec.ofInt IntKind.i64.bits (-1)) = ~~~ (BitVec.ofNat IntKind.i64.bits n) := by
    rw [BitVec.ofInt_natCast]
    have : BitVec.ofInt IntKind.i64.bits (-1) = BitVec.allOnes IntKind.i64.bits := by decide
    rw [this, BitVec.xor_allOnes]
  rw [e, BitVec.toNat_not, BitVec.toNat_ofNat, show IntKind.i64.bits = 64 from rfl, Nat.mod_eq_of_lt (by omega), IntKind.wrap_i64]
  omega
theorem and_one_u64' (n : Nat) (h : n < 18446744073709551616) : bits .and .u64 (n : Int) 1 = ((n % 2 : Nat) : Int) := by
  have h64 : ∀ n : Int, 0 ≤ n → n < 2 ^ 64 → IntKind.u64.wrap n = n := by intro n h0 h1; rw [u64_wrap]; omega
  have := bits_mask .u64 64 (by decide) h64 1 (by decide) (n : Int) (by omega) (by omega)
  rw [show ((2 : Int) ^ 1 - 1) = 1 by decide, show ((2 : Int) ^ 1) = 2 by decide] at this
  rw [this]; omega

theorem int_f (v : Int) (k : Nat) (h0 : -9223372036854775808 ≤ v) (h1 : v ≤ 9223372036854775807) (hk : 10 ≤ k) : octet_Int.f k v = some (ofL (vb (zz v))) := by
  unfold octet_Int.f
  have e : bits .xor .u64 (IntKind.u64.wrap ((IntKind.u64.wrap v) * 2)) (IntKind.u64.wrap (v / 9223372036854775808)) = ((zz v : Nat) : Int) := by
    by_cases h : 0 ≤ v
    · rw [show IntKind.u64.wrap (v / 9223372036854775808) = 0 by rw [u64_wrap]; omega, show IntKind.u64.wrap ((IntKind.u64.wrap v) * 2) = 2 * v by rw [u64_wrap, u64_wrap]; omega, xor_zero_u64 _ (by omega) (by omega)]
      unfold zz; rw [if_pos h]; omega
    · rw [show IntKind.u64.wrap (v / 9223372036854775808) = 18446744073709551615 by rw [u64_wrap]; omega, show IntKind.u64.wrap ((IntKind.u64.wrap v) * 2) = 18446744073709551616 + 2 * v by rw [u64_wrap, u64_wrap]; omega, xor_ones_u64 _ (by omega) (by omega)]
      unfold zz; rw [if_neg h]; omega
  rw [e, num_f _ k (zz_lt h0 h1) hk]; rfl
theorem rint_f (v : Int) (k : Nat) (h0 : -9223372036854775808 ≤ v) (h1 : v ≤ 9223372036854775807) (hk : 10 ≤ k) : tollbarref01_Int.f k v = some (ofL (vb (zz v))) := by
  unfold tollbarref01_Int.f tollbarref01_fold.f
  have hz := zz_lt h0 h1
  by_cases h : v ≥ 0
  · rw [if_pos h, Option.bind_some, show IntKind.u64.wrap (2 * IntKind.u64.wrap v) = ((zz v : Nat) : Int) by rw [u64_wrap, u64_wrap]; unfold zz; rw [if_pos h]; omega, rnum_f _ k hz hk]; rfl
  · have e : IntKind.u64.wrap (IntKind.u64.wrap (2 * IntKind.u64.wrap (wrap64 (-wrap64 (v + 1)))) + 1) = ((zz v : Nat) : Int) := by
      rw [w64 (n := v + 1) (by omega) (by omega), w64 (by omega) (by omega), u64_wrap, u64_wrap, u64_wrap]; unfold zz; rw [if_neg h]; omega
    rw [if_neg h, Option.bind_some, e, rnum_f _ k hz hk]; rfl
theorem uz_xor (x : Nat) (hx : x < 18446744073709551616) : bits .xor .i64 (wrap64 ((x : Int) / 2)) (wrap64 (-wrap64 (bits .and .u64 (x : Int) 1))) = uz x := by
  rw [and_one_u64' x hx, w64 (n := (x : Int) / 2) (by omega) (by omega), w64 (n := ((x % 2 : Nat) : Int)) (by omega) (by omega), w64 (by omega) (by omega)]
  unfold uz
  by_cases h : x % 2 = 0
  · rw [if_pos h, h, show (-((0 : Nat) : Int)) = 0 by rfl, xor_zero_i64 _ (by omega) (by omega)]; omega
  · rw [if_neg h, show x % 2 = 1 by omega, show (-((1 : Nat) : Int)) = -1 by rfl, xor_ones_i64 _ (by omega) (by omega)]; omega
theorem getint_f (s : ByteArray) (k x1 : Nat) (x2 : List Nat) (x3 : Int) (hs : s.size < 9223372036854775000) (hk : 2 * s.size + 2 ≤ k) (hx : getL 0 0 (bl s) = (x1, x2, x3)) :
    octet_GetInt.f k s = some (uz x1, ofL x2, x3) := by
  have h64 : x1 < 18446744073709551616 := by
    by_cases h : x3 = 0
    · subst h; have := (getL_put s hx).1; omega
    · rw [(getL_err _ _ _ _ _ _ hx h).1]; omega
  unfold octet_GetInt.f
  rw [get_f s k hs hk, hx, Option.bind_some]
  show some (bits .xor .i64 (wrap64 ((x1 : Int) / 2)) (wrap64 (-wrap64 (bits .and .u64 (x1 : Int) 1))), ofL x2, x3) = _
  rw [uz_xor x1 h64]
theorem rgetint_f (s : ByteArray) (k x1 : Nat) (x2 : List Nat) (x3 : Int) (hs : s.size < 9223372036854775000) (hk : 41 ≤ k) (hx : getL 0 0 (bl s) = (x1, x2, x3)) :
    tollbarref01_GetInt.f k s = some (uz x1, ofL x2, x3) := by
  have hr : tollbarref01_Get.f k s = some ((x1 : Int), ofL x2, x3) := by rw [rget_f s k hs hk, hx]; rfl
  unfold tollbarref01_GetInt.f
  rw [hr, Option.bind_some]
  by_cases h : x3 = 0
  · subst h
    have h64 : x1 < 18446744073709551616 := by have := (getL_put s hx).1; omega
    rw [if_pos (show ((x1 : Int), ofL x2, (0 : Int)).2.2 = 0 from rfl)]
    show (if Int.tmod (x1 : Int) 2 = 0 then some (wrap64 (IntKind.u64.wrap (Int.tdiv (x1 : Int) 2)), ofL x2, (0 : Int)) else some (wrap64 (wrap64 (-wrap64 (IntKind.u64.wrap (Int.tdiv (x1 : Int) 2))) - 1), ofL x2, (0 : Int))) = _
    rw [Int.tmod_eq_emod_of_nonneg (by omega), Int.tdiv_eq_ediv_of_nonneg (by omega), wrap_u64_id (n := (x1 : Int) / 2) (by omega) (by omega), w64 (n := (x1 : Int) / 2) (by omega) (by omega), w64 (n := -((x1 : Int) / 2)) (by omega) (by omega), w64 (n := -((x1 : Int) / 2) - 1) (by omega) (by omega)]
    unfold uz
    by_cases h2 : x1 % 2 = 0
    · rw [if_pos (by omega), if_pos h2, show (x1 : Int) / 2 = ((x1 / 2 : Nat) : Int) by omega]
    · rw [if_neg (by omega), if_neg h2, show (x1 : Int) / 2 = ((x1 / 2 : Nat) : Int) by omega]
  · obtain ⟨rfl, rfl⟩ := getL_err _ _ _ _ _ _ hx h
    rw [if_neg (show ¬ ((0 : Nat), ofL [], x3).2.2 = 0 from h)]; rfl

theorem OctetSigns : tollbarlaw01_OctetSigns.Pure := by
  intro v s hv hs
  obtain ⟨hv0, hv1⟩ := bounds_i64 hv
  refine ⟨2 * s.size + 200, ?_⟩
  obtain ⟨k, hk⟩ : ∃ k, 2 * s.size + 200 = k := ⟨_, rfl⟩
  rw [hk]
  have hal : tollbarlaw01_alive.f k = some true := alive_k k (by omega)
  unfold tollbarlaw01_OctetSigns.f
  by_cases hbig : (s.size : Int) > 4096
  · rw [if_pos hbig, hal]; rfl
  · obtain ⟨x, hx⟩ : ∃ x, getL 0 0 (bl s) = x := ⟨_, rfl⟩
    obtain ⟨x1, x2, x3⟩ := x
    have hn := zz_lt hv0 hv1
    have hz := vb_size (zz v) hn
    have hz2 : (ofL (vb (zz v)) ++ s).size ≤ 10 + s.size := by rw [ByteArray.size_append]; omega
    have hb : octet_GetInt.f k (ofL (vb (zz v)) ++ s) = some (v, s, 0) := by
      rw [getint_f _ k (zz v) (bl s) 0 (by omega) (by omega) (getL_num (zz v) hn s), uz_zz, ofL_bl]
    rw [if_neg hbig, int_f v k hv0 hv1 (by omega), Option.bind_some, getint_f s k x1 x2 x3 (by omega) (by omega) hx, Option.bind_some, rgetint_f s k x1 x2 x3 (by omega) (by omega) hx, Option.bind_some, if_pos (by omega), hb, Option.bind_some, rint_f v k hv0 hv1 (by omega), Option.bind_some]
    rw [if_pos rfl, if_pos rfl, if_pos rfl, if_pos rfl, if_pos rfl, if_pos rfl, if_pos rfl]
    by_cases h0 : x3 = 0
    · subst h0
      obtain ⟨hx64, hput⟩ := getL_put s hx
      have hz3 := vb_size x1 hx64
      have hz4 : (ofL (vb x1)).size + (ofL x2).size = s.size := by rw [← ByteArray.size_append, hput]
      have hu : octet_Int.f k (uz x1) = some (ofL (vb x1)) := by
        have hb1 : -9223372036854775808 ≤ uz x1 ∧ uz x1 ≤ 9223372036854775807 := by unfold uz; split <;> omega
        rw [int_f _ k hb1.1 hb1.2 (by omega), zz_uz]
      rw [if_pos rfl]
      show ((octet_Int.f k (uz x1)).bind fun t180 => if t180.size + (ofL x2).size ≤ 9223372036854775807 then (if (t180 ++ ofL x2).toList = s.toList then ((tollbarlaw01_alive.f k).bind fun t181 => (some t181)) else (some false)) else (none)) = some true
      rw [hu, Option.bind_some, if_pos (by omega), hput, if_pos rfl, hal]; rfl
    · rw [if_neg h0, hal]; rfl
end Go.Proofs.Ytghbcdpnngheoab.Pure
