/- Arguments opened: rows of numbers, an ideal. No condition. -/
import Derived.Test.YtmekcfkfkpbfeaaHOpen
import Derived.Deep.Matrix
namespace Go.Proofs.Ytmekcfkfkpbfeaa.H
open Go.ChangeShapes Go.WideShapes Go.ChangeAt Go.RowKit Go.Deep
open Go.Proofs.YtmekcfkfkpbfeaaW.PrintWords Go.Proofs.YtmekcfkfkpbfeaaW.PrintLast Go.Proofs.YtmekcfkfkpbfeaaW.PrintMore
set_option linter.unusedVariables false
set_option linter.unusedSimpArgs false
section
variable {H : Type} {enc : TypeId × Value → H} {w : World} {base : Nat} {held : Bool}
set_option maxRecDepth 100000 in
theorem open_rows {fuel : Nat} {cs : List Value} {x : DataW H × List MemPlace} (h : DataW.trod enc Try.prog w base (fun _ => true) held fuel 24 cs = some x) : ∃ A c xs, cs = [.slice A xs.length c] ∧ xs.length ≤ c ∧ Kd.C KL w A xs.length xs := by
  have c27 : Try.prog.cellsOf 27 = 1 := by kernel_rfl
  have c3 : Try.prog.cellsOf 3 = 1 := by kernel_rfl
  rcases open_int_rows Try.underlying24 Try.underlying27 Try.underlying3 c27 c3 h with ⟨rfl, _⟩ | ⟨a, len, cap, A, L, C, Z, rfl, _, hl, hm, _, hx⟩
  · exact ⟨none, 0, [], rfl, Nat.le_refl _, rfl, by simp, fun h => by simp at h⟩
  · have hlen : ((List.range len).map fun r => (Z r).take (L r)).length = len := by simp
    refine ⟨some a, cap, (List.range len).map fun r => (Z r).take (L r), by rw [hlen], by rw [hlen]; exact hl, rfl, ?_, fun _ => ⟨a, rfl, fun j p hj => ?_⟩⟩
    · rw [hlen]
      have : cap ≤ 2 ^ 63 - 1 := hm
      omega
    · rw [List.getElem?_map] at hj
      obtain ⟨i, hi, rfl⟩ := Option.map_eq_some_iff.1 hj
      obtain ⟨hi2, e⟩ := List.getElem?_eq_some_iff.1 hi
      rw [List.length_range] at hi2
      rw [List.getElem_range] at e
      subst e
      obtain ⟨h1, h2, h3, h4, h5, h6, h7⟩ := hx j (by omega)
      have hz : ((Z j).take (L j)).length = L j := by rw [List.length_take]; omega
      refine ⟨[.slice (A j) (L j) (C j)], rfl, ⟨A j, C j, by rw [hz], by rw [hz]; exact h2, ?_⟩, fun i u hu => ?_⟩
      · rw [hz]
        refine Kd.C_of_reads (d := (0 : Int)) ⟨hz, ?_, fun hp => ?_⟩
        · have : C j ≤ 2 ^ 63 - 1 := h3
          omega
        · cases hA : A j with
          | none =>
            have := h6 hA
            omega
          | some a' =>
            refine ⟨a', rfl, fun c hc => ?_⟩
            rw [(h7 a' hA).2 c (by omega)]
            congr 2
            rw [List.getD_eq_getElem?_getD, List.getD_eq_getElem?_getD, List.getElem?_take, if_pos hc]
      · match i, hu with
        | 0, hu =>
          have e : j * KL.sz + 0 = j := by show j * 1 + 0 = j; omega
          rw [e, h1]
          exact hu
        | i + 1, hu => simp at hu
set_option maxRecDepth 100000 in
theorem open_ideal {fuel : Nat} {cs : Array Value} {x : DataW H × List MemPlace} (hs : cs.size = 2) (h : DataW.trod enc Try.prog w base (fun _ => true) held fuel 40 cs.toList = some x) : ∃ n A c xs, cs = #[.int .i64 n, .slice A xs.length c] ∧ xs.length ≤ c ∧ Kd.C KL w A xs.length xs := by
  have c24 : Try.prog.cellsOf 24 = 1 := by kernel_rfl
  have c3 : Try.prog.cellsOf 3 = 1 := by kernel_rfl
  obtain ⟨c0, c1, rfl⟩ := Go.Joins.array2 hs
  obtain ⟨y0, y1, n, _, _, h0, h1⟩ := trod_struct2 Try.underlying40 h
  simp only [c3, c24] at h0 h1
  obtain ⟨a0, e0, _, _⟩ := DataW.trod_int Try.underlying3 h0
  obtain ⟨A, c, xs, e1, hl, hC⟩ := open_rows h1
  simp at e0 e1
  subst e0 e1
  exact ⟨a0, A, c, xs, rfl, hl, hC⟩
end
end Go.Proofs.Ytmekcfkfkpbfeaa.H
