/- The law OctetRows returns true for every row, every text, every count and every two numbers: what Row writes is the document's, GetRow reads it back, and no number's bytes begin with another one's. -/
import Derived.Test.YtghbcdpnngheoabPOctetRx4
import Derived.Test.YtghbcdpnngheoabOctetFnsR
import Derived.OpenShut
namespace Go.Proofs.Ytghbcdpnngheoab.Pure
open Go.RowKit Go.Proofs.Ytghbcdpnngheoab.POctetR Go.Proofs.YtghbcdpnngheoabW.PrintWords Go.Proofs.YtghbcdpnngheoabW.PrintLast Go.Proofs.YtghbcdpnngheoabW.PrintMore Go.Proofs.Ytghbcdpnngheoab.OctetPlain Go.Proofs.Ytghbcdpnngheoab.OctetFnsR

theorem alive40 : tollbarlaw01_alive.f 40 = some true := by
  unfold tollbarlaw01_alive.f
  decide +kernel
theorem alive_k (k : Nat) (h : 40 ≤ k) : tollbarlaw01_alive.f k = some true := at_rounds tollbarlaw01_alive.mono h alive40
theorem ofL_size (l : List Nat) : (ofL l).size = l.length := by rw [← data_length]; simp [ofL]
theorem vb_size (v : Nat) (hv : v < 2 ^ 64) : (ofL (vb v)).size ≤ 10 := by rw [ofL_size]; exact vb_len 9 v (by simpa using hv)
theorem vb_pos (v : Nat) : 0 < (vb v).length := by
  obtain ⟨l, b, e, _⟩ := vb_form v
  rw [e]; simp

abbrev ints (l : List Nat) : List Int := l.map (fun n : Nat => (n : Int))
/-- A row's bytes. -/
def flat (l : List Nat) : List Nat := l.flatMap vb
/-- So many numbers off bytes. -/
def grow : Nat → List Nat → List Nat → List Nat × List Nat × Int
  | 0, l, acc => (acc, l, 0)
  | n + 1, l, acc => if (getL 0 0 l).2.2 = 0 then grow n (getL 0 0 l).2.1 (acc ++ [(getL 0 0 l).1]) else ([], [], (getL 0 0 l).2.2)
def gout (x : List Nat × List Nat × Int) : List Int × ByteArray × Int := (ints x.1, ofL x.2.1, x.2.2)

theorem getL_ok {l : List Nat} {x : Nat} {r : List Nat} (hl : ∀ b ∈ l, b < 256) (h : getL 0 0 l = (x, r, 0)) : l = vb x ++ r ∧ x < 2 ^ 64 ∧ r.length < l.length ∧ ∀ b ∈ r, b < 256 := by
  obtain ⟨v, hx, hl2, _, hv⟩ := getL_back l 0 0 x r hl (by decide) h
  have e : x = v := by rw [hx]; simp
  subst e
  refine ⟨hl2, by simpa using hv, ?_, fun b hb => hl b (by rw [hl2]; exact List.mem_append_right _ hb)⟩
  have := vb_pos x
  rw [hl2, List.length_append]; omega

/-- More than its bytes it can't be. -/
theorem grow_more : ∀ (m : Nat) (l acc : List Nat) (d : Nat), l.length ≤ m → (∀ b ∈ l, b < 256) → l.length + 1 ≤ d → grow d l acc = grow (l.length + 1) l acc := by
  intro m
  induction m with
  | zero =>
    intro l acc d hm hl hd
    obtain rfl : l = [] := List.length_eq_zero_iff.1 (by omega)
    obtain ⟨d, rfl⟩ : ∃ e, d = e + 1 := ⟨d - 1, by omega⟩
    rfl
  | succ m ih =>
    intro l acc d hm hl hd
    obtain ⟨d, rfl⟩ : ∃ e, d = e + 1 := ⟨d - 1, by omega⟩
    simp only [grow]
    by_cases h : (getL 0 0 l).2.2 = 0
    · rw [if_pos h, if_pos h]
      obtain ⟨_, _, hr, hb⟩ := getL_ok hl (x := (getL 0 0 l).1) (r := (getL 0 0 l).2.1) (by rw [← h])
      rw [ih _ _ d (by omega) hb (by omega), ih _ _ l.length (by omega) hb (by omega)]
    · rw [if_neg h, if_neg h]

theorem grow_flat : ∀ (l t acc : List Nat), (∀ v ∈ l, v < 2 ^ 64) → grow l.length (flat l ++ t) acc = (acc ++ l, t, 0) := by
  intro l
  induction l with
  | nil => intro t acc _; simp [flat, grow]
  | cons v l ih =>
    intro t acc hl
    have hv := hl v (by simp)
    have e : getL 0 0 (flat (v :: l) ++ t) = (v, flat l ++ t, 0) := by
      have := getL_vb v 0 0 (flat l ++ t) (by decide) (by simpa using hv) (by omega)
      simp only [flat, List.flatMap_cons, List.append_assoc] at this ⊢
      rw [this]; simp
    simp only [List.length_cons, grow]
    rw [e, if_pos rfl, ih t _ (fun w hw => hl w (by simp [hw]))]
    simp

theorem getrow_l0 : ∀ (m : Nat) (s : ByteArray) (acc : List Nat) (n i : Int) (d k : Nat), s.size ≤ m → m ≤ 100000 → 3 * m + 10 ≤ k → acc.length + m ≤ 1000000 → n - i = d → 0 ≤ i → n ≤ 9223372036854775807 →
    octet_GetRow.l0 k s (ints acc) n i = some (gout (grow d (bl s) acc)) := by
  intro m
  induction m with
  | zero =>
    intro s acc n i d k hs hm hk ha hd hi hn
    obtain ⟨k, rfl⟩ : ∃ e, k = e + 1 := ⟨k - 1, by omega⟩
    simp only [octet_GetRow.l0]
    have hb : bl s = [] := List.length_eq_zero_iff.1 (by rw [bl_length]; omega)
    cases d with
    | zero => rw [if_neg (by omega), hb]; simp only [grow, gout]; rw [← hb, ofL_bl]
    | succ d =>
      rw [if_pos (by omega), get_f s k (by omega) (by omega), Option.bind_some, hb]
      have e : out (getL 0 0 []) = (0, ⟨#[]⟩, 6) := rfl
      rw [e, if_neg (by decide)]; rfl
  | succ m ih =>
    intro s acc n i d k hs hm hk ha hd hi hn
    obtain ⟨k, rfl⟩ : ∃ e, k = e + 1 := ⟨k - 1, by omega⟩
    simp only [octet_GetRow.l0]
    cases d with
    | zero => rw [if_neg (by omega)]; simp only [grow, gout]; rw [ofL_bl]
    | succ d =>
      obtain ⟨y, hy⟩ : ∃ y, getL 0 0 (bl s) = y := ⟨_, rfl⟩
      obtain ⟨x1, x2, x3⟩ := y
      have hg : octet_Get.f k s = some ((x1 : Int), ofL x2, x3) := by rw [get_f s k (by omega) (by omega), hy]; rfl
      rw [if_pos (by omega), hg, Option.bind_some]
      simp only [grow]
      rw [hy]
      by_cases h : x3 = 0
      · subst h
        obtain ⟨_, _, hr, hb⟩ := getL_ok (bl_lt s) hy
        rw [bl_length] at hr
        rw [if_pos rfl, if_pos rfl]
        show (if (ints acc).length < 17592186044416 then octet_GetRow.l0 k (ofL x2) (ints acc ++ [(x1 : Int)]) n (wrap64 (i + 1)) else none) = _
        rw [if_pos (by rw [List.length_map]; omega), w64 (by omega) (by omega), show ints acc ++ [(x1 : Int)] = ints (acc ++ [x1]) by simp [ints]]
        rw [ih (ofL x2) (acc ++ [x1]) n (i + 1) d k (by rw [ofL_size]; omega) (by omega) (by omega) (by simp; omega) (by omega) (by omega) hn, bl_ofL hb]
      · rw [if_neg h, if_neg h]; rfl
theorem rgetrow_l0 : ∀ (m : Nat) (s : ByteArray) (acc : List Nat) (n i : Int) (d k : Nat), s.size ≤ m → m ≤ 100000 → 3 * m + 50 ≤ k → acc.length + m ≤ 1000000 → n - i = d → 0 ≤ i → n ≤ 9223372036854775807 →
    tollbarref01_GetRow.l0 k s n (ints acc) i = some (gout (grow d (bl s) acc)) := by
  intro m
  induction m with
  | zero =>
    intro s acc n i d k hs hm hk ha hd hi hn
    obtain ⟨k, rfl⟩ : ∃ e, k = e + 1 := ⟨k - 1, by omega⟩
    simp only [tollbarref01_GetRow.l0]
    have hb : bl s = [] := List.length_eq_zero_iff.1 (by rw [bl_length]; omega)
    cases d with
    | zero => rw [if_neg (by omega), hb]; simp only [grow, gout]; rw [← hb, ofL_bl]
    | succ d =>
      rw [if_pos (by omega), rget_f s k (by omega) (by omega), Option.bind_some, hb]
      have e : out (getL 0 0 []) = (0, ⟨#[]⟩, 6) := rfl
      rw [e, if_neg (by decide)]; rfl
  | succ m ih =>
    intro s acc n i d k hs hm hk ha hd hi hn
    obtain ⟨k, rfl⟩ : ∃ e, k = e + 1 := ⟨k - 1, by omega⟩
    simp only [tollbarref01_GetRow.l0]
    cases d with
    | zero => rw [if_neg (by omega)]; simp only [grow, gout]; rw [ofL_bl]
    | succ d =>
      obtain ⟨y, hy⟩ : ∃ y, getL 0 0 (bl s) = y := ⟨_, rfl⟩
      obtain ⟨x1, x2, x3⟩ := y
      have hg : tollbarref01_Get.f k s = some ((x1 : Int), ofL x2, x3) := by rw [rget_f s k (by omega) (by omega), hy]; rfl
      rw [if_pos (by omega), hg, Option.bind_some]
      simp only [grow]
      rw [hy]
      by_cases h : x3 = 0
      · subst h
        obtain ⟨_, _, hr, hb⟩ := getL_ok (bl_lt s) hy
        rw [bl_length] at hr
        rw [if_pos rfl, if_pos rfl]
        show (if (ints acc).length < 17592186044416 then tollbarref01_GetRow.l0 k (ofL x2) n (ints acc ++ [(x1 : Int)]) (wrap64 (i + 1)) else none) = _
        rw [if_pos (by rw [List.length_map]; omega), w64 (by omega) (by omega), show ints acc ++ [(x1 : Int)] = ints (acc ++ [x1]) by simp [ints]]
        rw [ih (ofL x2) (acc ++ [x1]) n (i + 1) d k (by rw [ofL_size]; omega) (by omega) (by omega) (by simp; omega) (by omega) (by omega) hn, bl_ofL hb]
      · rw [if_neg h, if_neg h]; rfl
theorem getrow_f (s : ByteArray) (n : Int) (k : Nat) (hs : s.size ≤ 100000) (hk : 3 * s.size + 10 ≤ k) (hn : n ≤ 9223372036854775807) : octet_GetRow.f k s n = some (gout (grow n.toNat (bl s) [])) := by
  unfold octet_GetRow.f
  have e : mx n 0 = (n.toNat : Int) := by unfold mx; split <;> omega
  rw [e]
  exact getrow_l0 s.size s [] _ 0 n.toNat k (Nat.le_refl _) hs hk (by simp; omega) (by omega) (by omega) (by omega)
theorem rgetrow_f (s : ByteArray) (n : Int) (k : Nat) (hs : s.size ≤ 100000) (hk : 3 * s.size + 51 ≤ k) (hn : n ≤ 9223372036854775807) : tollbarref01_GetRow.f k s n = some (gout (grow n.toNat (bl s) [])) := by
  unfold tollbarref01_GetRow.f
  by_cases h : 0 ≤ n
  · exact rgetrow_l0 s.size s [] n 0 n.toNat k (Nat.le_refl _) hs (by omega) (by simp; omega) (by omega) (by omega) hn
  · obtain ⟨k, rfl⟩ : ∃ e, k = e + 1 := ⟨k - 1, by omega⟩
    simp only [tollbarref01_GetRow.l0]
    rw [if_neg (by omega), show n.toNat = 0 by omega]
    simp only [grow, gout]; rw [ofL_bl]; rfl

theorem rd_ints (l : List Nat) (i : Nat) : rd (ints l) (i : Int) = ((l.getD i 0 : Nat) : Int) := by
  unfold rd
  rw [Int.toNat_natCast, List.getD_eq_getElem?_getD, List.getD_eq_getElem?_getD, List.getElem?_map]
  cases l[i]? <;> rfl
theorem drop_step {l : List Nat} {i : Nat} (h : i < l.length) : l.drop i = l.getD i 0 :: l.drop (i + 1) := by
  rw [List.drop_eq_getElem_cons h, List.getD_eq_getElem?_getD, List.getElem?_eq_getElem h]; rfl
theorem row_l0 (l : List Nat) (hl : ∀ v ∈ l, v < 2 ^ 64) (hn : l.length ≤ 1000) : ∀ (d i k : Nat) (acc : List Nat), i + d = l.length → d + 20 ≤ k → acc.length ≤ 10 * i →
    octet_Row.l0 k (ofL acc) (ints l) (l.length : Int) (i : Int) = some (ofL (acc ++ flat (l.drop i))) := by
  intro d
  induction d with
  | zero =>
    intro i k acc hi hk _
    obtain ⟨k, rfl⟩ : ∃ e, k = e + 1 := ⟨k - 1, by omega⟩
    simp only [octet_Row.l0]
    rw [if_neg (by omega), List.drop_of_length_le (by omega)]; simp [flat]
  | succ d ih =>
    intro i k acc hi hk ha
    obtain ⟨k, rfl⟩ : ∃ e, k = e + 1 := ⟨k - 1, by omega⟩
    have hil : i < l.length := by omega
    have hv : l.getD i 0 < 2 ^ 64 := by rw [List.getD_eq_getElem?_getD, List.getElem?_eq_getElem hil]; exact hl _ (List.getElem_mem hil)
    have hz := vb_size _ hv
    simp only [octet_Row.l0]
    rw [if_pos (by omega), if_pos (by omega), if_pos (by rw [List.length_map]; omega), rd_ints, num_f _ k hv (by omega), Option.bind_some, if_pos (by rw [ofL_size acc]; omega), w64 (by omega) (by omega), show (i : Int) + 1 = ((i + 1 : Nat) : Int) by omega, ofL_append]
    rw [ofL_size] at hz
    rw [ih (i + 1) k (acc ++ vb (l.getD i 0)) (by omega) (by omega) (by rw [List.length_append]; omega), drop_step hil]
    simp [flat]
theorem rrow_l0 (l : List Nat) (hl : ∀ v ∈ l, v < 2 ^ 64) (hn : l.length ≤ 1000) : ∀ (d i k : Nat) (acc : List Nat), i + d = l.length → d + 20 ≤ k → acc.length ≤ 10 * i →
    tollbarref01_Row.l0 k (ints l) (ofL acc) (i : Int) = some (ofL (acc ++ flat (l.drop i))) := by
  intro d
  induction d with
  | zero =>
    intro i k acc hi hk _
    obtain ⟨k, rfl⟩ : ∃ e, k = e + 1 := ⟨k - 1, by omega⟩
    simp only [tollbarref01_Row.l0]
    rw [if_neg (by rw [List.length_map]; omega), List.drop_of_length_le (by omega)]; simp [flat]
  | succ d ih =>
    intro i k acc hi hk ha
    obtain ⟨k, rfl⟩ : ∃ e, k = e + 1 := ⟨k - 1, by omega⟩
    have hil : i < l.length := by omega
    have hv : l.getD i 0 < 2 ^ 64 := by rw [List.getD_eq_getElem?_getD, List.getElem?_eq_getElem hil]; exact hl _ (List.getElem_mem hil)
    have hz := vb_size _ hv
    simp only [tollbarref01_Row.l0]
    rw [if_pos (by rw [List.length_map]; omega), if_pos (by omega), rd_ints, rnum_f _ k hv (by omega), Option.bind_some, if_pos (by rw [ofL_size acc]; omega), w64 (by omega) (by omega), show (i : Int) + 1 = ((i + 1 : Nat) : Int) by omega, ofL_append]
    rw [ofL_size] at hz
    rw [ih (i + 1) k (acc ++ vb (l.getD i 0)) (by omega) (by omega) (by rw [List.length_append]; omega), drop_step hil]
    simp [flat]
theorem same_l0 (l : List Int) (hn : l.length < 9223372036854775807) : ∀ (d i k : Nat), i + d = l.length → d + 1 ≤ k → tollbarref01_Same.l0 k l l (i : Int) = some true := by
  intro d
  induction d with
  | zero =>
    intro i k hi hk
    obtain ⟨k, rfl⟩ : ∃ e, k = e + 1 := ⟨k - 1, by omega⟩
    simp only [tollbarref01_Same.l0]
    rw [if_neg (by omega)]
  | succ d ih =>
    intro i k hi hk
    obtain ⟨k, rfl⟩ : ∃ e, k = e + 1 := ⟨k - 1, by omega⟩
    simp only [tollbarref01_Same.l0]
    rw [if_pos (by omega), if_pos (by omega), if_pos (by omega), if_pos (by trivial), w64 (by omega) (by omega), show (i : Int) + 1 = ((i + 1 : Nat) : Int) by omega]
    exact ih (i + 1) k (by omega) (by omega)
theorem same_f (l : List Int) (k : Nat) (hn : l.length < 9223372036854775807) (hk : l.length + 1 ≤ k) : tollbarref01_Same.f k l l = some true := by
  unfold tollbarref01_Same.f
  rw [if_pos rfl]
  exact same_l0 l hn l.length 0 k (by omega) (by omega)

theorem grow_len : ∀ (d : Nat) (l acc : List Nat), (∀ b ∈ l, b < 256) → (grow d l acc).1.length ≤ acc.length + l.length := by
  intro d
  induction d with
  | zero => intro l acc _; simp [grow]
  | succ d ih =>
    intro l acc hl
    simp only [grow]
    by_cases h : (getL 0 0 l).2.2 = 0
    · rw [if_pos h]
      obtain ⟨_, _, hr, hb⟩ := getL_ok hl (x := (getL 0 0 l).1) (r := (getL 0 0 l).2.1) (by rw [← h])
      have := ih (getL 0 0 l).2.1 (acc ++ [(getL 0 0 l).1]) hb
      simp only [List.length_append, List.length_singleton] at this; omega
    · rw [if_neg h]; simp

theorem rows_j1 (v w k : Nat) (hv : v < 2 ^ 64) (hw : w < 2 ^ 64) (hk : 60 ≤ k) : tollbarlaw01_OctetRows.j1 k (v : Int) (w : Int) false = some true := by
  obtain ⟨k, rfl⟩ : ∃ e, k = e + 1 := ⟨k - 1, by omega⟩
  have hal : tollbarlaw01_alive.f k = some true := alive_k k (by omega)
  simp only [tollbarlaw01_OctetRows.j1]
  rw [if_neg (by simp), num_f v k hv (by omega), Option.bind_some, num_f w k hw (by omega), Option.bind_some]
  have hzv := ofL_size (vb v)
  have hzw := ofL_size (vb w)
  by_cases h : (vb v).length ≤ (vb w).length
  · rw [if_pos (by omega), if_pos (by omega), Int.toNat_natCast, if_pos ?_, hal]
    · rfl
    · by_cases e : v = w
      · subst e
        have h1 : (ofL (vb v)).extract 0 (ofL (vb v)).size = ofL (vb v) := by
          rw [extract_end]; simp [bl_ofL (vb_byte v)]
        simp [h1]
      · have hne : (v : Int) ≠ (w : Int) := by omega
        have h1 : ¬ ((ofL (vb w)).extract 0 (ofL (vb v)).size).toList = (ofL (vb v)).toList := by
          rw [toList_eq]
          intro h2
          have h3 := congrArg bl h2
          rw [bl_extract, bl_ofL (vb_byte v), bl_ofL (vb_byte w), hzv] at h3
          simp only [List.drop_zero, Nat.sub_zero] at h3
          have h4 : vb w = vb v ++ (vb w).drop (vb v).length := by
            conv => lhs; rw [← List.take_append_drop (vb v).length (vb w)]
            rw [h3]
          exact e (vb_prefix (by simpa using hv) (by simpa using hw) h4)
        rw [show (((ofL (vb w)).extract 0 (ofL (vb v)).size).toList == (ofL (vb v)).toList) = false from beq_eq_false_iff_ne.2 h1, show ((v : Int) == (w : Int)) = false from beq_eq_false_iff_ne.2 hne]; rfl
  · have hne : (v : Int) ≠ (w : Int) := by
      intro e
      have : v = w := by omega
      subst this; omega
    rw [if_neg (by omega), show ((v : Int) == (w : Int)) = false from beq_eq_false_iff_ne.2 hne, if_pos (by rfl), hal]; rfl

theorem OctetRows : tollbarlaw01_OctetRows.Pure := by
  intro l0 s n v0 w0 _ _ hl hs hn hv hw
  obtain ⟨l, rfl⟩ : ∃ l : List Nat, l0 = ints l := ⟨l0.map Int.toNat, by
    rw [ints, List.map_map]
    conv => lhs; rw [← List.map_id l0]
    apply List.map_congr_left
    intro x hx
    have := bounds_u64 (hl x hx)
    simp only [id, Function.comp]; omega⟩
  have hl2 : ∀ v ∈ l, v < 2 ^ 64 := fun v hv => by
    have := bounds_u64 (hl (v : Int) (List.mem_map.2 ⟨v, hv, rfl⟩)); omega
  obtain ⟨v, rfl, hv2⟩ : ∃ n : Nat, v0 = (n : Int) ∧ n < 2 ^ 64 := by
    have := bounds_u64 hv; exact ⟨v0.toNat, by omega, by omega⟩
  obtain ⟨w, rfl, hw2⟩ : ∃ n : Nat, w0 = (n : Int) ∧ n < 2 ^ 64 := by
    have := bounds_u64 hw; exact ⟨w0.toNat, by omega, by omega⟩
  have hnb := bounds_i64 hn
  have hlen : (ints l).length = l.length := List.length_map ..
  refine ⟨100000 + 1, ?_⟩
  have hal : tollbarlaw01_alive.f 100000 = some true := alive_k 100000 (by omega)
  have hj := rows_j1 v w 100000 hv2 hw2 (by omega)
  have big : tollbarlaw01_OctetRows.j0 (100000 + 1) (ints l) s n v w true = some true := by
    simp only [tollbarlaw01_OctetRows.j0]; rw [if_pos (by trivial), hal]; rfl
  unfold tollbarlaw01_OctetRows.f
  by_cases h1 : ((ints l).length : Int) > 200
  · rw [if_pos h1]; exact big
  · rw [if_neg h1]
    by_cases h2 : (s.size : Int) > 4096
    · rw [show decide ((s.size : Int) > 4096) = true from decide_eq_true h2]; exact big
    · rw [show decide ((s.size : Int) > 4096) = false from decide_eq_false h2]
      rw [hlen] at h1
      have hrow : octet_Row.f 100000 (ints l) = some (ofL (flat l)) := by
        unfold octet_Row.f; rw [hlen]
        exact row_l0 l hl2 (by omega) l.length 0 100000 [] (by omega) (by omega) (by simp)
      have hrrow : tollbarref01_Row.f 100000 (ints l) = some (ofL (flat l)) := by
        unfold tollbarref01_Row.f
        exact rrow_l0 l hl2 (by omega) l.length 0 100000 [] (by omega) (by omega) (by simp)
      have hflat : (flat l).length ≤ 10 * l.length := by
        have : ∀ m : List Nat, (∀ v ∈ m, v < 2 ^ 64) → (flat m).length ≤ 10 * m.length := by
          intro m
          induction m with
          | nil => intro _; simp [flat]
          | cons x m ih =>
            intro hm
            have h3 := ih (fun v hv => hm v (by simp [hv]))
            have h4 := vb_len 9 x (by simpa using hm x (by simp))
            simp only [flat, List.flatMap_cons, List.length_append, List.length_cons] at h3 ⊢; omega
        exact this l hl2
      have hfb : ∀ b ∈ flat l, b < 256 := by
        intro b hb
        obtain ⟨x, _, hx⟩ := List.mem_flatMap.1 hb
        exact vb_byte x b hx
      have hsz : (ofL (flat l)).size = (flat l).length := ofL_size _
      have hbig : (ofL (flat l) ++ s).size ≤ 10000 := by rw [ByteArray.size_append]; omega
      have hback : octet_GetRow.f 100000 (ofL (flat l) ++ s) ((ints l).length : Int) = some (ints l, s, 0) := by
        rw [getrow_f _ _ _ (by omega) (by omega) (by omega), hlen, Int.toNat_natCast, bl_append, bl_ofL hfb, grow_flat l (bl s) [] hl2]
        simp only [gout, List.nil_append, ofL_bl]
      have hg := getrow_f s n 100000 (by omega) (by omega) hnb.2
      have hmn : mn n (wrap64 ((s.size : Int) + 1)) = mn n ((s.size : Int) + 1) := by rw [w64 (by omega) (by omega)]
      have hr : tollbarref01_GetRow.f 100000 s (mn n (wrap64 ((s.size : Int) + 1))) = some (gout (grow n.toNat (bl s) [])) := by
        rw [hmn, rgetrow_f s _ 100000 (by omega) (by omega) (by unfold mn; split <;> omega)]
        congr 2
        by_cases h3 : n ≤ (s.size : Int) + 1
        · rw [show mn n ((s.size : Int) + 1) = n by unfold mn; split <;> omega]
        · rw [show (mn n ((s.size : Int) + 1)).toNat = (bl s).length + 1 by rw [bl_length]; unfold mn; split <;> omega]
          rw [grow_more _ (bl s) [] n.toNat (Nat.le_refl _) (bl_lt s) (by rw [bl_length]; omega)]
      simp only [tollbarlaw01_OctetRows.j0]
      obtain ⟨y, hy⟩ : ∃ y, grow n.toNat (bl s) [] = y := ⟨_, rfl⟩
      have hyl := grow_len n.toNat (bl s) [] (bl_lt s)
      obtain ⟨y1, y2, y3⟩ := y
      rw [hy] at hg hr hyl
      rw [bl_length] at hyl
      simp only [gout] at hg hr
      simp only [List.length_nil] at hyl
      rw [if_neg (by simp), hrow, Option.bind_some, hg, Option.bind_some, hr, Option.bind_some, if_pos (by omega), hback, Option.bind_some, hrrow, Option.bind_some, if_pos rfl]
      rw [same_f (ints y1) 100000 (by rw [List.length_map]; omega) (by rw [List.length_map]; omega), Option.bind_some, if_pos rfl, if_pos rfl, if_pos rfl]
      rw [same_f (ints l) 100000 (by rw [List.length_map]; omega) (by rw [List.length_map]; omega), Option.bind_some, if_pos rfl, if_pos rfl]
      exact hj
end Go.Proofs.Ytghbcdpnngheoab.Pure
