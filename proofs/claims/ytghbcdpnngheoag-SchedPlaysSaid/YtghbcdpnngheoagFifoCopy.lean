
/- fifo.Copy makes another row, that is the same; Set; what no row answers. -/
import Derived.Test.YtghbcdpnngheoagFifoOps
import Derived.Laws.Tables
import Derived.Laws.Rows
namespace Go.Proofs.Ytghbcdpnngheoag.FifoCode
open Go Go.RowKit Go.Proofs.Ytghbcdpnngheoag.Obj
set_option maxRecDepth 100000
set_option linter.unusedVariables false
theorem fc_len (A : List Int) (fr n most : Nat) (h : A.length = 32) : (fifoCells A fr n most).length = 35 := by simp [fifoCells, h]
theorem fc_one (A : List Int) (fr n most : Nat) : (fifoCells A fr n most).toArray.all (·.oneCell') = true := by simp [fifoCells, Value.oneCell']
theorem Only.of_row (w : World) (o : Obj) (cs : Array Value) : Only (fun _ => False) w ((w.alloc o).setRow w.heap.size cs) :=
  ⟨rfl, rfl, rfl, by simp, fun k hk _ => by
    have : ((w.alloc o).setRow w.heap.size cs).heap[k]? = (w.alloc o).heap[k]? := by
      unfold World.setRow
      simp only [Array.getElem?_modify]
      rw [if_neg (by omega)]
    rw [this]; exact Below.heap_alloc _ _ _ hk⟩
set_option maxHeartbeats 1000000 in
theorem copy_at {w : World} {p most : Nat} {L : List Int} (h : FifoAt w p most L) : Calls Try.prog 77 #[.pointer (some ⟨p,0,none⟩)] w fun e w' => e = .returned (.pointer (some ⟨w.heap.size, 0, none⟩)) ∧ FifoAt w' w.heap.size most L ∧ Only (fun _ => False) w w' ∧ w.heap.size < w'.heap.size := by
  obtain ⟨A, fr, h1, h2⟩ := h
  have hl := fc_len A fr L.length most h2.len
  have ho := fc_one A fr L.length most
  generalize hcs : fifoCells A fr L.length most = cs at *
  have hcsH := hid hcs
  have h1H := hid h1
  clear hcs h1
  go_enter Try.func77, Try.ntmps77
  have hi : (Try.prog.info? 121).map (·.size) = some cs.toArray.size := by
    rw [List.size_toArray, hl]; kernel_rfl
  have hiH := hid hi
  have hlH := hid hl
  have hoH := hid ho
  clear hi hl ho
  go_wp2_with (first | (refine wpList_load_row rfl 121 (.tmp 7) rfl p rfl 121 cs.toArray (0, 0) _ h1H.out Try.underlying121 rfl hiH.out ?_) | ((refine wpList_store_row rfl 121 (.tmp 3) (.tmp 8) rfl w.heap.size cs.toArray rfl rfl 121 _ (Go.heap_alloc_new w _) hiH.out (Eq.trans (by rfl) hlH.out.symm) hoH.out ?_)))
  all_goals go_ret
  all_goals
    refine ⟨rfl, ⟨A, fr, ?_, h2⟩, ?_, by simp⟩
    · rw [hcsH.out]
      exact setRow_heap _ _ _ _ _ _ (Go.heap_alloc_new w _)
    · exact Only.of_row _ _ _
end Go.Proofs.Ytghbcdpnngheoag.FifoCode
