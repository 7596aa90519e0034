/- Arguments opened: a slice of numbers. No condition. -/
import Derived.Test.YtmekcfkfkpbfeaaHOpenR
import Derived.ChangeSlices
namespace Go.Proofs.Ytmekcfkfkpbfeaa.H
open Go.ChangeShapes Go.WideShapes Go.ChangeAt Go.RowKit Go.Deep
open Go.Proofs.YtmekcfkfkpbfeaaW.PrintWords Go.Proofs.YtmekcfkfkpbfeaaW.PrintLast Go.Proofs.YtmekcfkfkpbfeaaW.PrintMore
set_option linter.unusedVariables false
set_option linter.unusedSimpArgs false
set_option maxRecDepth 100000 in
theorem open_nums {H : Type} {enc : TypeId × Value → H} {w : World} {base : Nat} {held : Bool} {fuel : Nat} {cs : List Value} {x : DataW H × List MemPlace} (h : DataW.trod enc Try.prog w base (fun _ => true) held fuel 27 cs = some x) : ∃ A c xs, cs = [.slice A xs.length c] ∧ xs.length ≤ c ∧ Kd.C KI w A xs.length xs := by
  have c3 : Try.prog.cellsOf 3 = 1 := by kernel_rfl
  rcases open_ints Try.underlying27 Try.underlying3 c3 h with ⟨rfl, _⟩ | ⟨a, l, c, zs, rfl, _, hl, hm, hz, _, hcell, _⟩
  · exact ⟨none, 0, [], rfl, Nat.le_refl _, rfl, by simp, fun h => by simp at h⟩
  · have hzl : l ≤ zs.length := by simp at hz; omega
    have hzt : (zs.take l).length = l := by rw [List.length_take]; omega
    refine ⟨some a, c, zs.take l, by rw [hzt], by rw [hzt]; exact hl, ?_⟩
    rw [hzt]
    refine Kd.C_of_reads (d := (0 : Int)) ⟨hzt, ?_, fun hp => ⟨a, rfl, fun i hi => ?_⟩⟩
    · have : c ≤ 2 ^ 63 - 1 := hm
      omega
    · rw [hcell i (by omega)]
      congr 2
      rw [List.getD_eq_getElem?_getD, List.getD_eq_getElem?_getD, List.getElem?_take, if_pos hi]
end Go.Proofs.Ytmekcfkfkpbfeaa.H
