/- A row of the call's own and the library's sort: what the sort asks of the row, and what the row holds behind it, at whatever values of one cell. No condition. -/
import Derived.Test.YtpfbdpeohlohoaaHBase
import Derived.Test.YtpfbdpeohlohoaaHShelf
import Derived.Sort.OwnSorted
namespace Go.Proofs.Ytpfbdpeohlohoaa.H
open Go.RowKit Go.Sort Go.Proofs.YtpfbdpeohlohoaaW.PrintWords Go.Proofs.YtpfbdpeohlohoaaW.PrintLast Go.Proofs.YtpfbdpeohlohoaaW.PrintMore
set_option linter.unusedVariables false
section
variable {α : Type} [Inhabited α] {enc : α → Value} {w : World} {g n cap q : Nat} {os : Array Obj} {cur : Array Value} {e : TypeId}
theorem sw_holds {d : Array α} (hb : w.heap[g]? = some (.cells cur e (0, 0))) (ht : cur.toList.take d.size = d.toList.map enc) : Holds enc w g 0 d := by
  intro j hj
  refine ⟨?_, by simp [World.frozen?, hb]⟩
  have h1 : (cur.toList.take d.size)[j]? = (d.toList.map enc)[j]? := by rw [ht]
  rw [List.getElem?_take_of_lt hj] at h1
  simp only [World.cell?, hb, Nat.zero_add]
  simp only [Option.isSome_none, Bool.false_eq_true, if_false]
  rw [← Array.getElem?_toList, h1]
  simp [hj]
theorem sw_heap (d : Array α) (hb : w.heap[g]? = some (.cells cur e (0, 0))) : (sortWorld enc w g 0 q d os).heap[g]? = some (.cells (putCells enc 0 d cur) e (0, 0)) := by
  have hg : g < w.heap.size := (Array.getElem?_eq_some_iff.1 hb).1
  unfold sortWorld
  rw [heap_grow_old _ _ (by simpa using hg)]
  simp [putRow, mapBlock, Sort.ahead, Array.getElem?_modify, hb, onCells]
theorem sw_grown (d : Array α) : w.grownBy (sortWorld enc w g 0 q d os) (some g) := by
  refine ⟨rfl, rfl, rfl, by simp [sortWorld], fun k hk hne => ?_⟩
  unfold sortWorld
  rw [heap_grow_old _ _ (by simpa using hk)]
  have : g ≠ k := fun e => hne (by rw [e])
  simp [putRow, mapBlock, Sort.ahead, Array.getElem?_modify, this]
theorem sw_take (cur : Array Value) (d : Array α) (h : d.size ≤ cur.size) : (putCells enc 0 d cur).toList.take d.size = d.toList.map enc := by
  apply List.ext_getElem?
  intro j
  by_cases hj : j < d.size
  · rw [List.getElem?_take_of_lt hj, Array.getElem?_toList]
    simp [putCells, hj, show j < cur.size by omega]
  · rw [List.getElem?_take_eq_none (by omega), List.getElem?_eq_none (by simp; omega)]
/-- Behind the sort the same slice owns what the row holds now. -/
theorem sw_own {base : Nat} (d : Array α) (hn : d.size = n) (hbase : base ≤ g) (hb : w.heap[g]? = some (.cells cur e (0, 0))) (h1 : n ≤ cap) (h2 : cap ≤ maxLen) (h3 : cur.size = cap * 1) :
    (sortWorld enc w g 0 q d os).ownsRow base e 1 (.slice (some ⟨g, 0, none⟩) n cap) n (d.toList.map enc) :=
  ⟨by simp [hn], .inr ⟨g, cap, _, rfl, hbase, sw_heap d hb, h1, h2, by simp [putCells, h3], by rw [Nat.mul_one, ← hn]; exact sw_take cur d (by omega)⟩⟩
end
end Go.Proofs.Ytpfbdpeohlohoaa.H
