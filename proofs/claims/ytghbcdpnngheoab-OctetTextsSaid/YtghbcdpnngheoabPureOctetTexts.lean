/- The law OctetTexts returns true for every two texts: what Text writes is the document's, GetText reads it back, whatever stands behind it, and what GetText reads is put as it stood. -/
import Derived.Test.YtghbcdpnngheoabPureOctetSigns
namespace Go.Proofs.Ytghbcdpnngheoab.Pure
open Go.RowKit Go.Proofs.Ytghbcdpnngheoab.POctet Go.Proofs.YtghbcdpnngheoabW.PrintWords Go.Proofs.YtghbcdpnngheoabW.PrintLast Go.Proofs.YtghbcdpnngheoabW.PrintMore Go.Proofs.Ytghbcdpnngheoab.OctetPlain Go.Proofs.Ytghbcdpnngheoab.OctetFns

/-- What GetText tells. -/
def gt (x : Nat × List Nat × Int) : ByteArray × ByteArray × Int :=
  if x.2.2 = 0 then (if 4096 < x.1 then (⟨#[]⟩, ⟨#[]⟩, 5) else if x.2.1.length < x.1 then (⟨#[]⟩, ⟨#[]⟩, 6) else (ofL (x.2.1.take x.1), ofL (x.2.1.drop x.1), 0)) else (⟨#[]⟩, ⟨#[]⟩, x.2.2)

theorem extract_take {l : List Nat} (h : ∀ b ∈ l, b < 256) (n : Nat) : (ofL l).extract 0 n = ofL (l.take n) := by
  apply bl_inj
  rw [bl_extract, bl_ofL h, bl_ofL (fun b hb => h b (List.mem_of_mem_take hb))]; simp
theorem extract_drop {l : List Nat} (h : ∀ b ∈ l, b < 256) (n : Nat) : (ofL l).extract n (ofL l).size = ofL (l.drop n) := by
  rw [extract_end, bl_ofL h]
theorem getL_rest (s : ByteArray) {x : Nat} {r : List Nat} {e : Int} (h : getL 0 0 (bl s) = (x, r, e)) : ∀ b ∈ r, b < 256 := by
  by_cases he : e = 0
  · subst he
    obtain ⟨v, _, hl, _, _⟩ := getL_back (bl s) 0 0 x r (bl_lt s) (by decide) h
    intro b hb
    exact bl_lt s b (by rw [hl]; exact List.mem_append_right _ hb)
  · rw [(getL_err _ _ _ _ _ _ h he).2]; simp
theorem gettext_f (s : ByteArray) (k : Nat) (hs : s.size < 9223372036854775000) (hk : 2 * s.size + 2 ≤ k) : octet_GetText.f k s = some (gt (getL 0 0 (bl s))) := by
  obtain ⟨x, hx⟩ : ∃ x, getL 0 0 (bl s) = x := ⟨_, rfl⟩
  obtain ⟨x1, x2, x3⟩ := x
  have hg : octet_Get.f k s = some ((x1 : Int), ofL x2, x3) := by rw [get_f s k (by omega) (by omega), hx]; rfl
  rw [hx]
  unfold octet_GetText.f gt
  rw [hg, Option.bind_some]
  by_cases h : x3 = 0
  · subst h
    have hput := (getL_put s hx).2
    have hz : (ofL x2).size < 9223372036854775000 := by have := congrArg ByteArray.size hput; rw [ByteArray.size_append] at this; omega
    rw [if_pos rfl, if_pos rfl]
    show (if (x1 : Int) > 4096 then _ else (if (IntKind.u64.wrap (((ofL x2).size : Int))) < (x1 : Int) then _ else (if 0 ≤ (x1 : Int) then (if (x1 : Int) ≤ ((ofL x2).size : Int) then (some ((ofL x2).extract 0 ((x1 : Int)).toNat, (ofL x2).extract ((x1 : Int)).toNat (ofL x2).size, (0 : Int))) else none) else none))) = _
    rw [wrap_u64_id (by omega) (by omega)]
    by_cases h1 : 4096 < x1
    · rw [if_pos (by omega), if_pos h1]
    · rw [if_neg (by omega), if_neg h1]
      by_cases h2 : x2.length < x1
      · rw [if_pos (by rw [ofL_size]; omega), if_pos h2]
      · rw [if_neg (by rw [ofL_size]; omega), if_neg h2, if_pos (by omega), if_pos (by rw [ofL_size]; omega), Int.toNat_natCast, extract_take (getL_rest s hx), extract_drop (getL_rest s hx)]
  · rw [if_neg h, if_neg h]
theorem rgettext_f (s : ByteArray) (k : Nat) (hs : s.size < 9223372036854775000) (hk : 41 ≤ k) : tollbarref01_GetText.f k s = some (gt (getL 0 0 (bl s))) := by
  obtain ⟨x, hx⟩ : ∃ x, getL 0 0 (bl s) = x := ⟨_, rfl⟩
  obtain ⟨x1, x2, x3⟩ := x
  have hg : tollbarref01_Get.f k s = some ((x1 : Int), ofL x2, x3) := by rw [rget_f s k (by omega) (by omega), hx]; rfl
  rw [hx]
  unfold tollbarref01_GetText.f gt
  rw [hg, Option.bind_some]
  by_cases h : x3 = 0
  · subst h
    have hput := (getL_put s hx).2
    have hz : (ofL x2).size < 9223372036854775000 := by have := congrArg ByteArray.size hput; rw [ByteArray.size_append] at this; omega
    rw [if_pos rfl, if_pos rfl]
    show (if (x1 : Int) > 4096 then _ else (if (IntKind.u64.wrap (((ofL x2).size : Int))) < (x1 : Int) then _ else (if 0 ≤ (x1 : Int) then (if (x1 : Int) ≤ ((ofL x2).size : Int) then (some ((ofL x2).extract 0 ((x1 : Int)).toNat, (ofL x2).extract ((x1 : Int)).toNat (ofL x2).size, (0 : Int))) else none) else none))) = _
    rw [wrap_u64_id (by omega) (by omega)]
    by_cases h1 : 4096 < x1
    · rw [if_pos (by omega), if_pos h1]
    · rw [if_neg (by omega), if_neg h1]
      by_cases h2 : x2.length < x1
      · rw [if_pos (by rw [ofL_size]; omega), if_pos h2]
      · rw [if_neg (by rw [ofL_size]; omega), if_neg h2, if_pos (by omega), if_pos (by rw [ofL_size]; omega), Int.toNat_natCast, extract_take (getL_rest s hx), extract_drop (getL_rest s hx)]
  · rw [if_neg h, if_neg h]
theorem text_f (s : ByteArray) (k : Nat) (h : s.size ≤ 4096) (hk : 10 ≤ k) : octet_Text.f k s = some (ofL (vb s.size) ++ s, 0) := by
  unfold octet_Text.f
  have := vb_size s.size (by omega)
  rw [if_neg (by omega), num_f s.size k (by omega) hk, Option.bind_some, if_pos (by omega)]
theorem rtext_f (s : ByteArray) (k : Nat) (h : s.size ≤ 4096) (hk : 10 ≤ k) : tollbarref01_Text.f k s = some (ofL (vb s.size) ++ s, 0) := by
  unfold tollbarref01_Text.f
  have := vb_size s.size (by omega)
  rw [if_neg (by omega), rnum_f s.size k (by omega) hk, Option.bind_some, if_pos (by omega)]

theorem gt_text (s t : ByteArray) (h : s.size ≤ 4096) : gt (getL 0 0 (bl ((ofL (vb s.size) ++ s) ++ t))) = (s, t, 0) := by
  have e : bl ((ofL (vb s.size) ++ s) ++ t) = bl (ofL (vb s.size) ++ (s ++ t)) := by simp only [bl_append, List.append_assoc]
  rw [e, getL_num s.size (by omega) (s ++ t), bl_append]
  unfold gt
  rw [if_pos rfl, if_neg (by show ¬ 4096 < s.size; omega), if_neg (by show ¬ (bl s ++ bl t).length < s.size; rw [List.length_append, bl_length]; omega)]
  have hl := bl_length s
  rw [← hl]
  show (ofL ((bl s ++ bl t).take (bl s).length), ofL ((bl s ++ bl t).drop (bl s).length), (0 : Int)) = _
  rw [List.take_left, List.drop_left, ofL_bl, ofL_bl]
theorem gt_back (t x rest : ByteArray) (h : gt (getL 0 0 (bl t)) = (x, rest, 0)) : x.size ≤ 4096 ∧ (ofL (vb x.size) ++ x) ++ rest = t := by
  obtain ⟨y, hy⟩ : ∃ y, getL 0 0 (bl t) = y := ⟨_, rfl⟩
  obtain ⟨y1, y2, y3⟩ := y
  rw [hy] at h
  unfold gt at h
  by_cases h3 : y3 = 0
  · subst h3
    rw [if_pos rfl] at h
    by_cases h4 : 4096 < y1
    · rw [if_pos h4] at h; simp at h
    · rw [if_neg h4] at h
      by_cases h5 : y2.length < y1
      · rw [if_pos h5] at h; simp at h
      · rw [if_neg h5] at h
        simp only [Prod.mk.injEq, and_true] at h
        obtain ⟨rfl, rfl⟩ := h
        have hsz : (ofL (y2.take y1)).size = y1 := by rw [ofL_size, List.length_take]; omega
        rw [hsz]
        refine ⟨by omega, ?_⟩
        have hp := (getL_put t hy).2
        rw [ofL_append, ofL_append, List.append_assoc, List.take_append_drop, ← ofL_append, hp]
  · rw [if_neg h3] at h
    simp only [Prod.mk.injEq] at h
    exact absurd h.2.2 h3

theorem texts_j1 (t x rest : ByteArray) (e : Int) (k : Nat) (hk : 60 ≤ k) (hx : gt (getL 0 0 (bl t)) = (x, rest, e)) (ht : t.size < 9223372036854775000) : tollbarlaw01_OctetTexts.j1 k t x rest e = some true := by
  obtain ⟨k, rfl⟩ : ∃ m, k = m + 1 := ⟨k - 1, by omega⟩
  have hal : tollbarlaw01_alive.f k = some true := alive_k k (by omega)
  simp only [tollbarlaw01_OctetTexts.j1]
  by_cases h : e = 0
  · subst h
    obtain ⟨h1, h2⟩ := gt_back t x rest hx
    have hz : (ofL (vb x.size) ++ x).size + rest.size = t.size := by rw [← ByteArray.size_append, h2]
    rw [if_pos rfl, text_f x k h1 (by omega), Option.bind_some, if_pos rfl, if_pos (show (ofL (vb x.size) ++ x).size + rest.size ≤ 9223372036854775807 by omega), h2, if_pos rfl, hal]; rfl
  · rw [if_neg h, hal]; rfl

theorem OctetTexts : tollbarlaw01_OctetTexts.Pure := by
  intro s t hs ht
  refine ⟨2 * (s.size + t.size) + 400, ?_⟩
  obtain ⟨k, hk⟩ : ∃ k, 2 * (s.size + t.size) + 400 = k + 1 := ⟨2 * (s.size + t.size) + 399, rfl⟩
  rw [hk]
  have hal : tollbarlaw01_alive.f (k + 1) = some true := alive_k _ (by omega)
  unfold tollbarlaw01_OctetTexts.f
  rw [w64 (by omega) (by omega)]
  by_cases hbig : (s.size : Int) + (t.size : Int) > 16384
  · rw [if_pos hbig, hal]; rfl
  · rw [if_neg hbig]
    obtain ⟨y, hy⟩ : ∃ y, gt (getL 0 0 (bl t)) = y := ⟨_, rfl⟩
    obtain ⟨x, rest, e⟩ := y
    have hg := gettext_f t (k + 1) (by omega) (by omega)
    have hr := rgettext_f t (k + 1) (by omega) (by omega)
    rw [hy] at hg hr
    have hj : ∀ m, 60 ≤ m → tollbarlaw01_OctetTexts.j1 m t x rest e = some true := fun m hm => texts_j1 t x rest e m hm hy (by omega)
    by_cases h : s.size ≤ 4096
    · rw [text_f s _ h (by omega), Option.bind_some, rtext_f s _ h (by omega), Option.bind_some, hg, Option.bind_some, hr, Option.bind_some]
      rw [if_pos rfl, if_pos rfl, if_pos rfl, if_pos rfl]
      simp only [tollbarlaw01_OctetTexts.j0]
      have hv := vb_size s.size (by omega)
      have hz : ((ofL (vb s.size) ++ s) ++ t).size ≤ 10 + s.size + t.size := by rw [ByteArray.size_append, ByteArray.size_append]; omega
      have hgt := gettext_f ((ofL (vb s.size) ++ s) ++ t) k (by omega) (by omega)
      rw [gt_text s t h] at hgt
      rw [if_neg (by simp), if_pos (by trivial), if_pos (show (ofL (vb s.size) ++ s).size + t.size ≤ 9223372036854775807 by rw [ByteArray.size_append]; omega), hgt, Option.bind_some, if_pos rfl, if_pos rfl, if_pos rfl]
      exact hj k (by omega)
    · have h1 : octet_Text.f (k + 1) s = some ((⟨#[]⟩ : ByteArray), 5) := by unfold octet_Text.f; rw [if_pos (by omega)]
      have h2 : tollbarref01_Text.f (k + 1) s = some ((⟨#[]⟩ : ByteArray), 5) := by unfold tollbarref01_Text.f; rw [if_pos (by omega)]
      rw [h1, Option.bind_some, h2, Option.bind_some, hg, Option.bind_some, hr, Option.bind_some]
      rw [if_pos rfl, if_pos rfl, if_pos rfl, if_pos rfl]
      simp only [tollbarlaw01_OctetTexts.j0]
      rw [if_neg (by simp), if_neg (by decide)]
      exact hj k (by omega)
end Go.Proofs.Ytghbcdpnngheoab.Pure
