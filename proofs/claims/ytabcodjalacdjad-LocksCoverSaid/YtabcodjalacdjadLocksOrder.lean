
/- locks.Order: the channels of sites, rising. -/
import Derived.Test.YtabcodjalacdjadLocksCover
import Derived.Test.YtabcodjalacdjadLocksRising
import Derived.Maps.OwnIn
import Derived.Maps.OwnSet
import Derived.Maps.OwnOps
import Derived.Carry
namespace Go.Proofs.Ytabcodjalacdjad.LocksCode
open Go Go.RowKit Go.Shelf Go.Maps Go.Proofs.Ytabcodjalacdjad.Obj Go.Proofs.Ytabcodjalacdjad.Iter Go.Proofs.YtabcodjalacdjadW.PrintWords Go.Proofs.YtabcodjalacdjadW.PrintLast Go.Proofs.YtabcodjalacdjadW.PrintMore
attribute [local go_sem] Oper.semAt_some
set_option linter.unusedVariables false
set_option linter.unusedSimpArgs false
set_option maxRecDepth 100000
/-- The reader of nothing. -/
def unitR (v : Value) : Option (DataW Unit × List MemPlace) := match v with
  | .agg #[] => some (.agg [], [])
  | _ => none
structure KV (D : DataW Unit) (K : List Int) : Prop where
  has : ∀ k, Maps.has D (.int .i64 k) = true ↔ k ∈ K
  lit : ∀ es, D = .map es → ∀ p ∈ es, ∃ x, p.1 = .int .i64 x
theorem lit_ne {j k : Int} (h : j ≠ k) : (Lit.int .i64 j) ≠ (Lit.int .i64 k) := fun e => h (by simpa using e)
theorem keyLit (k : Int) : WideAt.IsKeyLit (.int .i64 k) := trivial
theorem KV.nil : KV (.map []) [] := ⟨fun k => by simp [Maps.has], fun es e p hp => by cases e; cases hp⟩
theorem KV.put {D : DataW Unit} {K : List Int} (h : KV D K) (hD : IsMap D) (k : Int) (d : DataW Unit) : KV (D.put (.int .i64 k) d) (K ++ [k]) := by
  refine ⟨fun j => ?_, fun es e p hp => ?_⟩
  · rw [List.mem_append, List.mem_singleton]
    by_cases e : j = k
    · subst e
      rw [Maps.has_put_same hD (keyLit _)]
      exact ⟨fun _ => .inr rfl, fun _ => rfl⟩
    · rw [Maps.has_put_other (lit_ne e), h.has j]
      exact ⟨.inl, fun h => h.resolve_right e⟩
  · obtain ⟨es0, rfl⟩ := hD
    have e2 : es = DataW.insert (.int .i64 k, d) (es0.filter fun p => !p.1.sameKey (.int .i64 k)) := by cases e; rfl
    rw [e2, ChangeMaps.mem_insert_iff] at hp
    rcases hp with rfl | hp
    · exact ⟨k, rfl⟩
    · exact h.lit es0 rfl p (List.mem_filter.mp hp).1
theorem KV.more {D : DataW Unit} {K K' : List Int} (h : KV D K) (e : ∀ k, k ∈ K ↔ k ∈ K') : KV D K' := ⟨fun k => (h.has k).trans (e k), h.lit⟩
/-- What a sorted list of the keys is. -/
theorem KV.sorted {D : DataW Unit} {K ss : List Int} (h : KV D K) (ht : Tidy D) (hp : ss.Perm (intKeys D)) : (ss.mergeSort leI).Pairwise (· < ·) ∧ ∀ k, k ∈ ss.mergeSort leI ↔ k ∈ K := by
  obtain ⟨es, rfl, hpw⟩ := ht
  have hnd : (intKeys (.map es)).Nodup := by
    show (es.map fun p => Go.intOf p.1).Nodup
    refine List.pairwise_map.2 (hpw.imp_of_mem fun {p q} hp' hq' hne e => hne ?_)
    obtain ⟨a, ha⟩ := h.lit es rfl p hp'
    obtain ⟨b, hb⟩ := h.lit es rfl q hq'
    rw [ha, hb] at e ⊢
    exact congrArg _ e
  have hp2 := (List.mergeSort_perm ss leI).trans hp
  constructor
  · have tr : ∀ a b c : Int, leI a b = true → leI b c = true → leI a c = true := fun a b c h1 h2 => by simp only [leI, decide_eq_true_eq] at *; exact Int.le_trans h1 h2
    have tot : ∀ a b : Int, (leI a b || leI b a) = true := fun a b => by simp only [leI, Bool.or_eq_true, decide_eq_true_eq]; exact Int.le_total a b
    have h1 := List.pairwise_mergeSort tr tot ss
    have h2 : (ss.mergeSort leI).Nodup := hp2.nodup_iff.2 hnd
    refine (h1.and h2).imp fun {a b} hab => ?_
    have := hab.1
    simp only [leI, decide_eq_true_eq] at this
    have := hab.2
    omega
  · intro k
    rw [hp2.mem_iff, ← h.has k, has_eq, List.any_eq_true]
    show k ∈ es.map (fun p => Go.intOf p.1) ↔ _
    rw [List.mem_map]
    constructor
    · rintro ⟨p, hp', rfl⟩
      obtain ⟨a, ha⟩ := h.lit es rfl p hp'
      exact ⟨p, hp', by rw [ha]; simp [Lit.sameKey, Go.intOf]⟩
    · rintro ⟨p, hp', hs⟩
      obtain ⟨a, ha⟩ := h.lit es rfl p hp'
      rw [ha] at hs
      exact ⟨p, hp', by rw [ha]; simpa [Lit.sameKey, Go.intOf] using hs⟩
/-- The channels that are named. -/
def chL (xs : List KC) : List Int := (xs.filter fun x => x.2.ch != -1).map fun x => x.2.ch
theorem chL_yes {x : KC} (xs : List KC) (h : (x.2.ch != -1) = true) : chL (xs ++ [x]) = chL xs ++ [x.2.ch] := by simp [chL, List.filter_append, h]
theorem chL_no {x : KC} (xs : List KC) (h : (x.2.ch != -1) = false) : chL (xs ++ [x]) = chL xs := by simp [chL, List.filter_append, h]
theorem owns_size {w : World} {b n : Nat} {D : DataW Unit} {k : TypeId} {R : Value → Option (DataW Unit × List MemPlace)} (h : w.ownsMap Try.prog k R b n D) : Maps.size D ≤ n := by
  obtain ⟨es, clock, hb, F, hs, rfl⟩ := h
  simpa [Maps.size, length_sorted] using hs
set_option maxHeartbeats 4000000 in
theorem Order_in {w : World} {v : Value} {A' : Option Addr} {m' cap' : Nat} (hv : v = .slice A' m' cap') (cs : List Cs) (hl : cs.length ≤ 1000)
    (hseq : ∀ W Bn, Below w.heap.size w W → Blk W Bn 49 [v] → SeqStopsK Fence.wide 4 Try.prog 20 #[.pointer (some ⟨Bn, 0, none⟩)] encK (Kp w.heap.size) (fun ys => ys = kcs cs cs.length) (fun _ => True) cs.length W) :
    CallsIn Fence.wide 5 Try.prog 14 #[v] w fun e W' => ∃ (v : Value) (L : List Int), e = .returned v ∧ W'.ownsRow w.heap.size 3 1 v L.length (L.map (Value.int .i64)) ∧ L.Pairwise (· < ·) ∧ (∀ k, k ∈ L ↔ k ∈ chL (kcs cs cs.length)) ∧ Below w.heap.size w W' := by
  subst hv
  have hro : Fence.wide.round = none := rfl
  have h15 : Fence.wide.fn 15 := trivial
  have h20 : Fence.wide.fn 20 := trivial
  have hwd : Fence.wide.depth = none := rfl
  have hmm := @run_makeMap Try.prog
  refine callsIn_of_wp_marks Try.func14 rfl trivial ?_ hro
  simp only [Try.ntmps14, List.size_toArray, List.length_cons, List.length_nil, Nat.reduceAdd, Nat.reduceSub, Array.replicate_succ, Array.replicate_zero, List.push_toArray, List.append_toArray, List.nil_append, List.cons_append]
  gi_wp2_with (gi_at_call 15; refine (each_in Fence.wide _ h15 hro _ _ _ _ rfl _).mono ?_; rintro e w' ⟨rfl, rfl⟩)
  have b4 := (Boxed.new (w.alloc (.map #[] 0)) 50 (.map (some w.heap.size))).alloc (.cells #[.slice A' m' cap'] 49)
  have bL := Blk.new ((w.alloc (.map #[] 0)).alloc (.cells #[.map (some w.heap.size)] 50)) 49 [.slice A' m' cap']
  simp only [World.size_alloc] at b4 bL
  have hM0 : (((w.alloc (.map #[] 0)).alloc (.cells #[.map (some w.heap.size)] 50)).alloc (.cells #[.slice A' m' cap'] 49)).ownsMap Try.prog 3 unitR w.heap.size 0 (.map []) :=
    ((World.ownsMap_made w Try.prog 3 unitR).kept (World.grownBy_alloc _ _ none) (by simp)).kept (World.grownBy_alloc _ _ none) (by simp)
  obtain ⟨W0, hW0⟩ : ∃ W0, W0 = ((w.alloc (.map #[] 0)).alloc (.cells #[.map (some w.heap.size)] 50)).alloc (.cells #[.slice A' m' cap'] 49) := ⟨_, rfl⟩
  have hsz : W0.heap.size = w.heap.size + 1 + 1 + 1 := by rw [hW0]; simp only [World.size_alloc]
  have hB0 : Below w.heap.size w W0 := by
    rw [hW0]
    exact (((Below.refl _ w).alloc (Nat.le_refl _) _).alloc (by simp) _).alloc (by simp; omega) _
  rw [← hW0] at b4 bL hM0 ⊢
  clear hW0
  refine wpIn_rangeFunc_ownH hro (by decide) (gf := 20) (lb := #[.pointer (some ⟨w.heap.size + 1 + 1, 0, none⟩)]) rfl h20 (enters_of Try.func20 (by kernel_rfl) rfl)
    (hseq W0 (w.heap.size + 1 + 1) hB0 bL) Kp_t (Kp_b (by omega)) (Below.refl _ _) (fun _ => rfl)
    (fun pre W => (Boxed W (w.heap.size + 1) 50 (.map (some w.heap.size)) ∧ (∃ D, W.ownsMap Try.prog 3 unitR w.heap.size pre.length D ∧ KV D (chL pre))) ∧ Below w.heap.size w W)
    (fun _ _ _ => False)
    (OwnFrom.and (OwnFrom.and (Own.from (boxed_own _ _ _) _) (fun pre W W' row hs hg hr => by obtain ⟨D, h1, h2⟩ := hs; exact ⟨D, h1.kept hg (fun e => by have := (hr _ e.symm).1; omega), h2⟩)) (ownFrom_below (Nat.le_refl _) (by omega)))
    (fun _ _ _ _ _ hs _ _ => hs)
    ⟨⟨b4, _, hM0, KV.nil⟩, hB0⟩
    (fun x a' W => ∃ Bx, w.heap.size + 1 < Bx ∧ Blk W Bx 32 [.bool x.2.send, .int .i64 x.2.ch, .int .i64 x.2.vl, .int .i64 x.2.ok] ∧ a' = { tmps := #[.slice A' m' cap', undef, .slice none 0 0, .pointer (some ⟨w.heap.size + 1, 0, none⟩), undef, .pointer (some ⟨Bx, 0, none⟩), .map (some w.heap.size), .slice A' m' cap', .func (.func 20) #[] #[.pointer (some ⟨w.heap.size + 1 + 1, 0, none⟩)], .int .i64 (x.1 : Int), .agg #[.bool x.2.send, .int .i64 x.2.ch, .int .i64 x.2.vl, .int .i64 x.2.ok], undef, undef, undef, undef, undef, undef, undef, undef, undef], defers := [] })
    (fun x a' _ X Y row hs hg hr => by obtain ⟨Bx, h1, h2, h3⟩ := hs; exact ⟨Bx, h1, blk_own Bx _ (fun (_ : Unit) => _) () X Y row h2 hg (fun r e => (hr r e).2), h3⟩)
    ?assign ?body ?done ?stop
  case assign =>
    rintro l pre ⟨k, c⟩ W K ⟨⟨b1, D, b2, b3⟩, hB1⟩ hK
    simp only [encK, Cs.val]
    gi_wp2
    exact hK _ _ ((KeepsOthers.alloc _ _).from _) ⟨(Below.refl _ W).alloc hB1.size _, Kt.alloc _ _ _⟩ ⟨⟨b1.alloc _, D, b2.kept (World.grownBy_alloc _ _ none) (by simp), b3⟩, hB1.alloc hB1.size _⟩ ⟨W.heap.size, b1.lt, Blk.new W _ _, rfl⟩
  case body =>
    rintro l pre ⟨k, c⟩ a' W hlw ⟨r, hr⟩ ⟨⟨b1, D, b2, b3⟩, hB1⟩ ⟨Bx, hBx, bX, rfl⟩ hlt
    have c1 := b1.cell
    have x1 : W.cell? ⟨Bx, 1, none⟩ = some (.int .i64 c.ch) := bX.cell 1
    cases hq : (c.ch != -1) with
    | false =>
      have hno := hid (chL_no (x := (k, c)) pre hq)
      have b2' := b2.mono (n' := (pre ++ [(k, c)]).length) (by simp)
      gi_wp2
      exact ⟨KeepsFrom.refl _ _, ⟨Below.refl _ _, Kt.refl _ _⟩, ⟨b1, D, by simpa using b2', by rw [hno.out]; exact b3⟩, hB1⟩
    | true =>
      have hyes := hid (chL_yes (x := (k, c)) pre hq)
      have hkey := Maps.keyOf_int_mk Try.underlying3 c.wf
      gi_wp2_with (gi_at_mapUpdate; refine wpListIn_mapUpdate_own _ rfl _ _ _ 50 rfl 3 51 (Maps.int_keyed Try.underlying3) Try.underlying50 unitR w.heap.size pre.length D rfl b2 (by unfold maxLen; omega) _ _ _ rfl rfl hkey (.agg []) [] rfl ?_; intro w1 hown1 hgrow1)
      have hkt : Kt KT W w1 := fun j cc t fz hj ht => hgrow1.block j (heap_lt hj) (fun e => by
        cases e
        obtain ⟨es, clock, hb, _⟩ := b2
        rw [hb] at hj; cases hj)
      have hbm : Below w.heap.size W w1 := (Below.refl _ W).grown hgrow1 hB1.size (fun j e => by cases e; exact Nat.le_refl _)
      have b1' : Boxed w1 (w.heap.size + 1) 50 (.map (some w.heap.size)) := b1.kept hgrow1 (by intro e; injection e; omega)
      exact ⟨KeepsFrom.of_grownBy hgrow1 (fun j e => by cases e; omega), ⟨hbm, hkt⟩, ⟨b1', _, by simpa using hown1, by rw [hyes.out]; exact b3.put b2.isMap c.ch _⟩, hB1.trans hbm⟩
  case done =>
    rintro D ys W hD rfl ⟨⟨b1, D2, b2, b3⟩, hB1⟩ hK
    have c1 := b1.cell
    have hR := rising_at w.heap.size _ D2 unitR W b2 (Nat.le_trans (owns_size b2) (by rw [kcs_len]; unfold maxLen; omega)) (by have := owns_size b2; rw [kcs_len] at this; omega)
    have hf19 : Fence.wide.fn 19 := trivial
    gi_wp2_with (gi_at_call 19; refine (callsIn_wide.2 hR).mono ?_; rintro e W2 ⟨v2, ss, rfl, hperm, hrow, hnil, hb2⟩)
    have hK' := (hb2.block D (heap_lt hK)).trans hK
    obtain ⟨q1, q2⟩ := b3.sorted (b2.tidy (Maps.int_keyed Try.underlying3)) hperm
    have hlen : (ss.mergeSort leI).length = ss.length := List.length_mergeSort _
    have hrow2 : W2.ownsRow w.heap.size 3 1 v2 (ss.mergeSort leI).length ((ss.mergeSort leI).map (Value.int .i64)) := by
      rw [hlen]; exact own_lower hrow hB1.size
    have hBB := hB1.trans (hb2.mono hB1.size)
    obtain ⟨A2, n2, c2, rfl⟩ : ∃ A n c, v2 = .slice A n c := by
      rcases hrow2.2 with ⟨rfl, _⟩ | ⟨g, cap, cur, rfl, _⟩ <;> exact ⟨_, _, _, rfl⟩
    refine ⟨by simp, .inl ⟨_, _, rfl, run_takeDeferred hK', ?_⟩⟩
    exact ⟨_, results_tmp rfl _ _ _, _, _, rfl, ownsRow_putObj hrow2 _ hK' rfl, q1, q2, hBB.trans (belowK_b (w := w) (Nat.le_refl _) _ D _ _ (by omega) hK' rfl rfl)⟩
  case stop =>
    rintro D c pre W _ _ h _
    exact h.elim
/-- Of one site. -/
theorem order1_at {w : World} {sb : Nat} {A : Option Addr} {cap : Nat} {d : Bool} {cs : List Cs} (h : CSl w.heap.size w A cs) (hs : Blk w sb 24 [.slice A cs.length cap, .bool d]) (hl : cs.length ≤ 1000) (hcap : cs.length ≤ cap) :
    Calls Try.prog 14 #[.slice (some ⟨sb, 0, none⟩) 1 1] w fun e W' => ∃ (v : Value) (L : List Int), e = .returned v ∧ W'.ownsRow w.heap.size 3 1 v L.length (L.map (Value.int .i64)) ∧ L.Pairwise (· < ·) ∧ (∀ k, k ∈ L ↔ k ∈ chL (kcs cs cs.length)) ∧ Below w.heap.size w W' :=
  callsIn_wide.1 (Order_in rfl cs hl (fun W Bn hb bL => each1_stops 4 w.heap.size Bn sb A cap d cs hl hcap W hb.size ⟨bL, hs.same (hb.block _ hs.lt), h.below hb⟩))
/-- Of none. -/
theorem order0_at (w : World) : Calls Try.prog 14 #[.slice none 0 0] w fun e W' => ∃ v : Value, e = .returned v ∧ W'.ownsRow w.heap.size 3 1 v 0 [] ∧ Below w.heap.size w W' := by
  refine (callsIn_wide.1 (Order_in (w := w) rfl [] (by simp) (fun W Bn hb bL => none1_stops 4 w.heap.size Bn W bL))).mono ?_
  rintro e W' ⟨v, L, rfl, h1, _, h3, h4⟩
  have : L = [] := by
    cases L with
    | nil => rfl
    | cons a r => have := (h3 a).1 List.mem_cons_self; cases this
  subst this
  exact ⟨v, rfl, h1, h4⟩
end Go.Proofs.Ytabcodjalacdjad.LocksCode
