
/- What OrderFair's and OrderMost's alive shows. -/
import Derived.Test.YtabcodjalacdjaaOrderPick
import Derived.Test.YtabcodjalacdjaaOrderTook
import Derived.Test.YtabcodjalacdjaaOrderPure
import Derived.Test.YtabcodjalacdjaaSame08
namespace Go.Proofs.Ytabcodjalacdjaa.OrderCode
open Go Go.RowKit Go.Proofs.Ytabcodjalacdjaa.Obj Go.Proofs.Ytabcodjalacdjaa.Row Go.Proofs.YtabcodjalacdjaaW.PrintWords Go.Proofs.YtabcodjalacdjaaW.PrintMore
set_option linter.unusedVariables false
set_option maxRecDepth 100000
theorem small_upTo (n : Nat) (h : n ≤ 6) : Small (upTo n) := by
  intro x hx
  obtain ⟨m, hm, rfl⟩ := List.mem_map.1 hx
  exact ⟨m, rfl, by have := List.mem_range.1 hm; omega⟩
theorem Small.took {L : List Int} {k : Int} (h : Small L) (hk : k ∈ L) : Small (tookL L k) := fun x hx => h x ((tookL_perm hk).mem_iff.1 hx)
theorem OrdAt.only {S : Nat → Prop} {w w' : World} {o : Nat} {L : List Int} (h : OrdAt w o L) (ho : Only S w w') (hs : ¬ S o) : OrdAt w' o L := h.same (ho.block _ h.lt hs)
set_option maxHeartbeats 20000000 in
theorem alive_at (w : World) : Calls Try.prog 6 #[] w fun e w' => e = .returned (.bool true) ∧ Below w.heap.size w w' := by
  go_enter Try.func6, Try.ntmps6
  go_wp2_with (fail)
  refine (new_at 3 (by decide) (by decide) w).mono ?_
  rintro e w1 ⟨rfl, hb1, h1⟩
  go_wp2_with (fail)
  refine (new_out 0 _ (by decide)).mono ?_
  rintro e w2 ⟨rfl, hw⟩
  obtain rfl : w1 = w2 := hw.symm
  go_wp2_with (fail)
  have hp := pick_at (s := 6) h1 (show (6 : Nat) < 2 ^ 64 by decide) (small_upTo 3 (by decide))
  rw [show (((6 : Nat)) : Int) = 6 from rfl, show pickV (upTo 3) 6 = 1 by decide, show pickB (upTo 3) 6 = true by decide] at hp
  refine hp.mono ?_
  rintro e w3 ⟨rfl, hb3⟩
  have h3 := h1.below hb3
  have k3 := hb1.trans (hb3.mono hb1.size)
  clear h1 hb1 hb3 hp
  go_wp2_with (fail)
  refine (took_yes h3 (k := 1) (by decide)).mono ?_
  rintro e w4 ⟨rfl, h4, o4⟩
  have k4 := o4.below k3 k3.size (fun k _ h => Nat.le_of_eq h.symm)
  clear h3 k3 o4
  rw [show tookL (upTo 3) 1 = [0, 2, 1] by decide] at h4
  go_wp2_with (fail)
  refine (list_at h4).mono ?_
  rintro e w5 ⟨v, rfl, ho5, hb5⟩
  obtain ⟨A, c, rfl⟩ := own_form ho5
  have hN5 : Nums w5 .i64 A [0, 2, 1] := own_nums ho5
  have h5 := h4.below hb5
  have k5 := k4.trans (hb5.mono k4.size)
  clear h4 k4 hb5 ho5
  go_wp2_with (fail)
  have hp := pick_at (s := 6) h5 (show (6 : Nat) < 2 ^ 64 by decide) (Small.took (L := upTo 3) (k := 1) (small_upTo 3 (by decide)) (by decide))
  rw [show (((6 : Nat)) : Int) = 6 from rfl, show pickV [0, 2, 1] 6 = 2 by decide, show pickB [0, 2, 1] 6 = true by decide] at hp
  refine hp.mono ?_
  rintro e w6 ⟨rfl, hb6⟩
  have h6 := h5.below hb6
  have k6 := k5.trans (hb6.mono k5.size)
  have hN6 := hN5.below hb6
  clear h5 k5 hb6 hN5 hp
  go_wp2_with (fail)
  have hp := pick_at (s := 0) h6 (show (0 : Nat) < 2 ^ 64 by decide) (Small.took (L := upTo 3) (k := 1) (small_upTo 3 (by decide)) (by decide))
  rw [show (((0 : Nat)) : Int) = 0 from rfl, show pickV [0, 2, 1] 0 = 0 by decide, show pickB [0, 2, 1] 0 = false by decide] at hp
  refine hp.mono ?_
  rintro e w7 ⟨rfl, hb7⟩
  have h7 := h6.below hb7
  have k7 := k6.trans (hb7.mono k6.size)
  have hN7 := hN6.below hb7
  clear h6 k6 hb7 hN6 hp
  have hN8 : Nums (w7.alloc (.cells #[.int .i64 0, .int .i64 2, .int .i64 1] 3)) .i64 A [0, 2, 1] := hN7.below ((Below.refl _ w7).alloc (Nat.le_refl _) _)
  have hK8 : Nums (w7.alloc (.cells #[.int .i64 0, .int .i64 2, .int .i64 1] 3)) .i64 (some ⟨w7.heap.size, 0, none⟩) [0, 2, 1] := ⟨fun i hi => by
    have hb := Blk.new w7 3 [.int .i64 0, .int .i64 2, .int .i64 1]
    refine ⟨_, rfl, ?_⟩
    rw [Go.Proofs.Ytabcodjalacdjaa.Obj.addr_add0]
    have := hb.cell i
    rw [this]
    match i, hi with
    | 0, _ => rfl
    | 1, _ => rfl
    | 2, _ => rfl⟩
  have h8 : OrdAt (w7.alloc (.cells #[.int .i64 0, .int .i64 2, .int .i64 1] 3)) w.heap.size [0, 2, 1] := h7.below ((Below.refl _ w7).alloc (Nat.le_refl _) _)
  have k8 : Below w.heap.size w (w7.alloc (.cells #[.int .i64 0, .int .i64 2, .int .i64 1] 3)) := k7.alloc k7.size _
  have hS := Same08.same_at A (some ⟨w7.heap.size, 0, none⟩) c 3 [0, 2, 1] [0, 2, 1] _ hN8 hK8 (by decide)
  have hdd : decide (([0, 2, 1] : List Int) = [0, 2, 1]) = true := by decide
  rw [hdd] at hS
  clear hN7 h7 k7 hN8 hK8
  go_wp2_with (fail)
  refine hS.mono ?_
  rintro e w10 ⟨rfl, m, rfl⟩
  generalize hw9 : w7.alloc (.cells #[.int .i64 0, .int .i64 2, .int .i64 1] 3) = w9 at *
  clear hS
  have hA := age_at (h8.drewN m) 0
  rw [show ageV [0, 2, 1] 0 = 2 by decide] at hA
  go_wp2_with (fail)
  refine hA.mono ?_
  rintro e w11 ⟨rfl, m2, rfl⟩
  go_wp2_with (fail)
  refine (took_no (h8.drewN (m + m2)) (k := 3) (by decide)).mono ?_
  rintro e w12 ⟨rfl, m3, rfl⟩
  go_wp2_with (fail)
  go_ret
  exact ⟨rfl, ⟨k8.os, k8.tape, k8.output, k8.size, k8.block⟩⟩
end Go.Proofs.Ytabcodjalacdjaa.OrderCode
