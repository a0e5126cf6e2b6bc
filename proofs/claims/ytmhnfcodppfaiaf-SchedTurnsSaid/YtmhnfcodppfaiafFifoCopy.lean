
/- fifo.Copy makes another row, that is the same; Set; what no row answers. -/
import Derived.Test.YtmhnfcodppfaiafFifoOps
import Derived.Laws.Tables
import Derived.Laws.Rows
namespace Go.Proofs.Ytmhnfcodppfaiaf.FifoCode
open Go Go.RowKit Go.Proofs.Ytmhnfcodppfaiaf.Obj
set_option maxRecDepth 100000
set_option linter.unusedVariables false
theorem fc_len (A : List Int) (fr n most : Nat) (h : A.length = 32) : (fifoCells A fr n most).length = 35 := by simp [fifoCells, h]
theorem fc_one (A : List Int) (fr n most : Nat) : (fifoCells A fr n most).toArray.all (·.oneCell') = true := by simp [fifoCells, Value.oneCell']
theorem Only.of_row (w : World) (o : Obj) (cs : Array Value) : Only (fun _ => False) w ((w.alloc o).setRow w.heap.size cs) :=
  ⟨rfl, rfl, rfl, by simp, fun k hk _ => by
    have : ((w.alloc o).setRow w.heap.size cs).heap[k]? = (w.alloc o).heap[k]? := by
      unfold World.setRow
      simp only [Array.getElem?_modify]
      rw [if_neg (by omega)]
    rw [this]; exact Below.heap_alloc _ _ _ hk⟩
end Go.Proofs.Ytmhnfcodppfaiaf.FifoCode
