
/- A pool's slots, told plainly: which ones are free, in which order; what Take and Give do to that. -/
import Derived.Test.YtmhnfcodppfaiaaPoolAlive
namespace Go.Proofs.Ytmhnfcodppfaiaa.PoolCode
/-- From f on the free slots are ch, in this order. -/
def Chain (l : List Slot) : Int → List Nat → Prop
  | f, [] => f = -1
  | f, i :: r => f = (i : Int) ∧ ∃ y, l[i]? = some y ∧ y.is = false ∧ Chain l y.next r
theorem Chain.set {l : List Slot} {i : Nat} {y : Slot} : ∀ {ch : List Nat} {f : Int}, i ∉ ch → Chain l f ch → Chain (l.set i y) f ch
  | [], _, _, h => h
  | j :: r, f, hi, h => by
    obtain ⟨h1, z, h2, h3, h4⟩ := h
    refine ⟨h1, z, ?_, h3, Chain.set (fun h => hi (List.mem_cons_of_mem _ h)) h4⟩
    rw [List.getElem?_set_ne (fun e => hi (by rw [e]; exact List.mem_cons_self ..))]
    exact h2
theorem Chain.lt {l : List Slot} : ∀ {ch : List Nat} {f : Int}, Chain l f ch → ∀ i ∈ ch, i < l.length
  | [], _, _, i, h => absurd h (List.not_mem_nil)
  | j :: r, f, h, i, hi => by
    obtain ⟨_, z, h2, _, h4⟩ := h
    rcases List.mem_cons.1 hi with rfl | hi
    · exact (List.getElem?_eq_some_iff.1 h2).1
    · exact Chain.lt h4 i hi
/-- A pool as it ought to be. -/
structure Sound (l : List Slot) (f n : Int) (ch : List Nat) : Prop where
  chain : Chain l f ch
  nodup : ch.Nodup
  free : ∀ (i : Nat) (y : Slot), l[i]? = some y → (y.is = false ↔ i ∈ ch)
  count : n + (ch.length : Int) = (l.length : Int)
variable {l : List Slot} {f n : Int} {ch : List Nat} {i : Nat}
theorem Sound.full (h : Sound l f n []) : f = -1 := h.chain
theorem Sound.first {r : List Nat} (h : Sound l f n (i :: r)) : f = (i : Int) ∧ ∃ y, l[i]? = some y := ⟨h.chain.1, h.chain.2.choose, h.chain.2.choose_spec.1⟩
theorem Sound.take {r : List Nat} {y : Slot} (h : Sound l f n (i :: r)) (hy : l[i]? = some y) (x : Sg) (k : Int) : Sound (l.set i ⟨true, x, k⟩) y.next (n + 1) r := by
  obtain ⟨h1, z, h2, h3, h4⟩ := h.chain
  obtain rfl : y = z := by rw [hy] at h2; exact Option.some.inj h2
  have hn := List.nodup_cons.1 h.nodup
  have hil := (List.getElem?_eq_some_iff.1 hy).1
  refine ⟨h4.set hn.1, hn.2, fun j v hj => ?_, ?_⟩
  · by_cases e : i = j
    · subst e
      rw [List.getElem?_set_self hil] at hj
      obtain rfl := Option.some.inj hj
      exact ⟨fun h => Bool.noConfusion h, fun h => absurd h hn.1⟩
    · rw [List.getElem?_set_ne e] at hj
      rw [h.free j v hj, List.mem_cons]
      exact ⟨fun h => h.resolve_left (fun h => e h.symm), .inr⟩
  · have := h.count
    rw [List.length_set]
    simp only [List.length_cons] at this
    omega
theorem Sound.give {y : Slot} (h : Sound l f n ch) (hy : l[i]? = some y) (hb : y.is = true) (x : Sg) : Sound (l.set i ⟨false, x, f⟩) (i : Int) (n - 1) (i :: ch) := by
  have hil := (List.getElem?_eq_some_iff.1 hy).1
  have hni : i ∉ ch := fun hm => by rw [(h.free i y hy).2 hm] at hb; exact Bool.noConfusion hb
  refine ⟨⟨rfl, _, List.getElem?_set_self hil, rfl, h.chain.set hni⟩, List.nodup_cons.2 ⟨hni, h.nodup⟩, fun j v hj => ?_, ?_⟩
  · by_cases e : i = j
    · subst e
      rw [List.getElem?_set_self hil] at hj
      obtain rfl := Option.some.inj hj
      exact ⟨fun _ => List.mem_cons_self .., fun _ => rfl⟩
    · rw [List.getElem?_set_ne e] at hj
      rw [h.free j v hj, List.mem_cons]
      exact ⟨.inr, fun h => h.resolve_left (fun h => e h.symm)⟩
  · have := h.count
    rw [List.length_set]
    simp only [List.length_cons]
    omega
theorem mk_at (n i : Nat) (h : i < n) : (mk n)[i]? = some ⟨false, Sg.zero, (i : Int) + 1⟩ := by
  rw [mk, List.getElem?_map, List.getElem?_range h]; rfl
/-- What New makes. -/
theorem fresh_chain (n : Nat) (hn : 1 ≤ n) : ∀ (d i : Nat), i + d + 1 = n → Chain ((mk n).set (n - 1) ⟨false, Sg.zero, -1⟩) (i : Int) ((List.range' i (d + 1)))
  | 0, i, h => by
    obtain rfl : n - 1 = i := by omega
    exact ⟨rfl, ⟨false, Sg.zero, -1⟩, List.getElem?_set_self (by rw [mk_len]; omega), rfl, rfl⟩
  | d + 1, i, h => by
    refine ⟨rfl, _, by rw [List.getElem?_set_ne (by omega)]; exact mk_at n i (by omega), rfl, ?_⟩
    have := fresh_chain n hn d (i + 1) (by omega)
    exact this
theorem fresh_sound (n : Nat) (hn : 1 ≤ n) : Sound ((mk n).set (n - 1) ⟨false, Sg.zero, -1⟩) 0 0 (List.range' 0 n) := by
  have h := fresh_chain n hn (n - 1) 0 (by omega)
  rw [show n - 1 + 1 = n by omega] at h
  refine ⟨h, List.nodup_range', fun i y hy => ?_, by rw [List.length_range', List.length_set, mk_len]; omega⟩
  have hi := (List.getElem?_eq_some_iff.1 hy).1
  rw [List.length_set, mk_len] at hi
  refine ⟨fun _ => by rw [List.mem_range'_1]; omega, fun _ => ?_⟩
  by_cases e : n - 1 = i
  · subst e
    rw [List.getElem?_set_self (by rw [mk_len]; omega)] at hy
    obtain rfl := Option.some.inj hy; rfl
  · rw [List.getElem?_set_ne e, mk_at n i hi] at hy
    obtain rfl := Option.some.inj hy; rfl
theorem few : ∀ (m : Nat) (c : List Nat), c.Nodup → (∀ x ∈ c, x < m) → c.length ≤ m
  | 0, c, _, h => by
    cases c with
    | nil => exact Nat.le_refl _
    | cons a _ => exact absurd (h a (List.mem_cons_self ..)) (by omega)
  | m + 1, c, hn, h => by
    by_cases hm : m ∈ c
    · have h1 := few m (c.erase m) (hn.erase m) (fun x hx => by
        have := (hn.mem_erase_iff).1 hx
        have := h x this.2
        omega)
      rw [List.length_erase_of_mem hm] at h1
      omega
    · exact Nat.le_succ_of_le (few m c hn (fun x hx => by
        have := h x hx
        rcases Nat.lt_or_ge x m with h1 | h1
        · exact h1
        · exact absurd (by rw [show m = x by omega]; exact hx) hm))
theorem Sound.len (h : Sound l f n ch) : ch.length ≤ l.length := few _ _ h.nodup h.chain.lt
theorem Sound.num (h : Sound l f n ch) : n = (l.length : Int) - (ch.length : Int) := by have := h.count; omega
/-- A pool in memory, as it ought to be. -/
def PoolS (w : Go.World) (p q cp : Nat) (pad : List Go.Value) (l : List Slot) (ch : List Nat) : Prop := ∃ f n, PoolAt w p q l pad cp f n ∧ Sound l f n ch
open Go Go.RowKit
variable {w : World} {p q cp : Nat} {pad : List Value}
theorem PoolS.more {w' : World} (h : PoolS w p q cp pad l ch) (hp : w'.heap[p]? = w.heap[p]?) (hq : w'.heap[q]? = w.heap[q]?) : PoolS w' p q cp pad l ch := by
  obtain ⟨f, n, h1, h2⟩ := h; exact ⟨f, n, h1.else hp hq, h2⟩
theorem take_s {r : List Nat} (h : PoolS w p q cp pad l (i :: r)) (hl : l.length ≤ 1024) (x : Sg) : Calls Try.prog 8 #[.pointer (some ⟨p,0,none⟩), x.val] w fun e w' => e = .returned (.tuple #[.int .i64 (i : Int), .int .i64 0]) ∧
    PoolS w' p q cp pad (l.set i ⟨true, x, 0⟩) r ∧ Else p q w w' := by
  obtain ⟨f, n, h1, h2⟩ := h
  obtain ⟨hf, y, hy⟩ := h2.first
  have hn := h2.num
  have hc := h2.len
  refine (take_at h1 x i y hf hy).mono ?_
  rintro e w' ⟨rfl, h3, h4⟩
  rw [w64 (by omega) (by omega)] at h3
  exact ⟨rfl, ⟨_, _, h3, h2.take hy x 0⟩, h4⟩
theorem full_s (h : PoolS w p q cp pad l []) (x : Sg) : Calls Try.prog 8 #[.pointer (some ⟨p,0,none⟩), x.val] w fun e w' => e = .returned (.tuple #[.int .i64 0, .int .i64 4]) ∧
    PoolS w' p q cp pad l [] ∧ Else p q w w' := by
  obtain ⟨f, n, h1, h2⟩ := h
  have hf := h2.full
  refine (take_full_at h1 x (by omega)).mono ?_
  rintro e w' ⟨rfl, h3, h4⟩
  exact ⟨rfl, ⟨_, _, h3, h2⟩, h4⟩
theorem give_s (h : PoolS w p q cp pad l ch) (hl : l.length ≤ 1024) {y : Slot} (hy : l[i]? = some y) (hb : y.is = true) : Calls Try.prog 10 #[.pointer (some ⟨p,0,none⟩), .int .i64 (i : Int)] w fun e w' => e = .returned (.int .i64 0) ∧
    (∃ k, PoolS w' p q cp pad (l.set i ⟨false, Sg.zero, k⟩) (i :: ch)) ∧ Else p q w w' := by
  obtain ⟨f, n, h1, h2⟩ := h
  have hn := h2.num
  have hc := h2.len
  refine (give_at h1 i y hy hb).mono ?_
  rintro e w' ⟨rfl, h3, h4⟩
  rw [w64 (by omega) (by omega)] at h3
  exact ⟨rfl, ⟨f, _, _, h3, h2.give hy hb _⟩, h4⟩
theorem give_not_s (h : PoolS w p q cp pad l ch) {y : Slot} (hy : l[i]? = some y) (hb : y.is = false) : Calls Try.prog 10 #[.pointer (some ⟨p,0,none⟩), .int .i64 (i : Int)] w fun e w' => e = .returned (.int .i64 3) ∧ w' = w := by
  obtain ⟨f, n, h1, h2⟩ := h
  exact give_not_at h1 i y hy hb
theorem give_out_s (h : PoolS w p q cp pad l ch) (k : Int) (hk : k < 0 ∨ k ≥ l.length) : Calls Try.prog 10 #[.pointer (some ⟨p,0,none⟩), .int .i64 k] w fun e w' => e = .returned (.int .i64 3) ∧ w' = w := by
  obtain ⟨f, n, h1, h2⟩ := h
  exact give_out_at h1 k hk
theorem of_s (h : PoolS w p q cp pad l ch) {y : Slot} (hy : l[i]? = some y) : Calls Try.prog 11 #[.pointer (some ⟨p,0,none⟩), .int .i64 (i : Int)] w fun e w' => e = .returned (.tuple #[y.x.val, .bool y.is]) ∧ PoolS w' p q cp pad l ch ∧ Else p q w w' := by
  obtain ⟨f, n, h1, h2⟩ := h
  refine (of_at h1 i y hy).mono ?_
  rintro e w' ⟨rfl, h3, h4⟩
  exact ⟨rfl, ⟨_, _, h3, h2⟩, h4⟩
theorem of_out_s (h : PoolS w p q cp pad l ch) (k : Int) (hk : k < 0 ∨ k ≥ l.length) : Calls Try.prog 11 #[.pointer (some ⟨p,0,none⟩), .int .i64 k] w fun e w' => e = .returned (.tuple #[Sg.zero.val, .bool false]) ∧ PoolS w' p q cp pad l ch ∧ Else p q w w' := by
  obtain ⟨f, n, h1, h2⟩ := h
  refine (of_out_at h1 k hk).mono ?_
  rintro e w' ⟨rfl, h3, h4⟩
  exact ⟨rfl, ⟨_, _, h3, h2⟩, h4⟩
theorem len_s (h : PoolS w p q cp pad l ch) : Calls Try.prog 12 #[.pointer (some ⟨p,0,none⟩)] w fun e w' => e = .returned (.int .i64 ((l.length : Int) - (ch.length : Int))) ∧ w' = w := by
  obtain ⟨f, n, h1, h2⟩ := h
  rw [← h2.num]
  exact len_at h1
theorem free_s (h : PoolS w p q cp pad l ch) (hl : l.length ≤ 1024) : Calls Try.prog 9 #[.pointer (some ⟨p,0,none⟩)] w fun e w' => e = .returned (.int .i64 (ch.length : Int)) ∧ ∃ k, w' = w.drewN k := by
  obtain ⟨f, n, h1, h2⟩ := h
  have hc := h2.len
  have e : wrap64 ((l.length : Int) - n) = (ch.length : Int) := by rw [h2.num, w64 (by omega) (by omega)]; omega
  rw [← e]
  exact free_at h1
theorem new_s (n : Nat) (h1 : 1 ≤ n) (h2 : n ≤ 1024) (w : World) : Calls Try.prog 7 #[.int .i64 (n : Int)] w fun e w' => e = .returned (.tuple #[.pointer (some ⟨w.heap.size,0,none⟩), .int .i64 0]) ∧
    Below w.heap.size w w' ∧ ∃ q cp pad, w.heap.size < q ∧ PoolS w' w.heap.size q cp pad ((mk n).set (n - 1) ⟨false, Sg.zero, -1⟩) (List.range' 0 n) := by
  refine (new_at n h1 h2 w).mono ?_
  rintro e w' ⟨rfl, hb, q, cp, pad, hq, hP⟩
  exact ⟨rfl, hb, q, cp, pad, hq, 0, 0, hP, fresh_sound n h1⟩
end Go.Proofs.Ytmhnfcodppfaiaa.PoolCode
