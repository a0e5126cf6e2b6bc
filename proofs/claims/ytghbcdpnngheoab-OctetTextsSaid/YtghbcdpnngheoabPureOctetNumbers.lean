/- The law OctetNumbers returns true for every number and every text: what Num writes is the document's, Get reads it back, whatever stands behind it, and what Get reads is put as it stood. -/
import Derived.Test.YtghbcdpnngheoabPOctetx3
import Derived.Test.YtghbcdpnngheoabOctetFns
import Derived.OpenShut
namespace Go.Proofs.Ytghbcdpnngheoab.Pure
open Go.RowKit Go.Proofs.Ytghbcdpnngheoab.POctet Go.Proofs.YtghbcdpnngheoabW.PrintWords Go.Proofs.YtghbcdpnngheoabW.PrintLast Go.Proofs.YtghbcdpnngheoabW.PrintMore Go.Proofs.Ytghbcdpnngheoab.OctetPlain Go.Proofs.Ytghbcdpnngheoab.OctetFns

theorem alive40 : tollbarlaw01_alive.f 40 = some true := by
  unfold tollbarlaw01_alive.f
  decide +kernel
theorem alive_k (k : Nat) (h : 40 ≤ k) : tollbarlaw01_alive.f k = some true := at_rounds tollbarlaw01_alive.mono h alive40

/-- What Get reads off a number's bytes, whatever stands behind them. -/
theorem getL_num (v : Nat) (hv : v < 2 ^ 64) (s : ByteArray) : getL 0 0 (bl (ofL (vb v) ++ s)) = (v, bl s, 0) := by
  rw [bl_append, bl_ofL (vb_byte v), getL_vb v 0 0 (bl s) (by decide) (by simpa using hv) (by omega)]
  simp
theorem ofL_size (l : List Nat) : (ofL l).size = l.length := by rw [← data_length]; simp [ofL]
theorem vb_size (v : Nat) (hv : v < 2 ^ 64) : (ofL (vb v)).size ≤ 10 := by rw [ofL_size]; exact vb_len 9 v (by simpa using hv)
/-- What Get reads is put as it stood. -/
theorem getL_put (s : ByteArray) {x : Nat} {r : List Nat} (h : getL 0 0 (bl s) = (x, r, 0)) : x < 2 ^ 64 ∧ ofL (vb x) ++ ofL r = s := by
  obtain ⟨v, hx, hl, _, hv⟩ := getL_back (bl s) 0 0 x r (bl_lt s) (by decide) h
  have e : x = v := by rw [hx]; simp
  subst e
  refine ⟨by simpa using hv, ?_⟩
  rw [ofL_append, ← hl, ofL_bl]

theorem OctetNumbers : tollbarlaw01_OctetNumbers.Pure := by
  intro a0 s hv hs
  obtain ⟨n, rfl, hn⟩ : ∃ n : Nat, a0 = (n : Int) ∧ n < 2 ^ 64 := by
    have := (bounds_u64 hv); exact ⟨a0.toNat, by omega, by omega⟩
  refine ⟨2 * s.size + 200, ?_⟩
  obtain ⟨k, hk⟩ : ∃ k, 2 * s.size + 200 = k := ⟨_, rfl⟩
  rw [hk]
  have hal : tollbarlaw01_alive.f k = some true := alive_k k (by omega)
  unfold tollbarlaw01_OctetNumbers.f
  by_cases hbig : (s.size : Int) > 4096
  · rw [if_pos hbig, hal]; rfl
  · obtain ⟨x, hx⟩ : ∃ x, getL 0 0 (bl s) = x := ⟨_, rfl⟩
    obtain ⟨x1, x2, x3⟩ := x
    have hg : octet_Get.f k s = some ((x1 : Int), ofL x2, x3) := by rw [get_f s k (by omega) (by omega), hx]; rfl
    have hr : tollbarref01_Get.f k s = some ((x1 : Int), ofL x2, x3) := by rw [rget_f s k (by omega) (by omega), hx]; rfl
    have hz := vb_size n hn
    have hz2 : (ofL (vb n) ++ s).size ≤ 10 + s.size := by rw [ByteArray.size_append]; omega
    have hb : octet_Get.f k (ofL (vb n) ++ s) = some ((n : Int), s, 0) := by
      rw [get_f _ k (by omega) (by omega), getL_num n hn s]; simp only [out, ofL_bl]
    rw [if_neg hbig, num_f n k hn (by omega), Option.bind_some, hg, Option.bind_some, hr, Option.bind_some, if_pos (by omega), hb, Option.bind_some, rnum_f n k hn (by omega), Option.bind_some]
    rw [if_pos rfl, if_pos rfl, if_pos rfl, if_pos rfl, if_pos rfl, if_pos rfl, if_pos rfl]
    by_cases h0 : x3 = 0
    · subst h0
      obtain ⟨hx64, hput⟩ := getL_put s hx
      have hz3 := vb_size x1 hx64
      have hz4 : (ofL (vb x1)).size + (ofL x2).size = s.size := by rw [← ByteArray.size_append, hput]
      rw [if_pos rfl, num_f x1 k hx64 (by omega), Option.bind_some, if_pos (show (ofL (vb x1)).size + (ofL x2).size ≤ 9223372036854775807 by omega), hput, if_pos rfl, hal]; rfl
    · rw [if_neg h0, hal]; rfl
end Go.Proofs.Ytghbcdpnngheoab.Pure
