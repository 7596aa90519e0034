/- Arguments opened: arrays of four bytes, rows of them. No condition. -/
import Derived.Test.YtmekcfkfkpbfeaaK7
import Derived.Test.YtmekcfkfkpbfeaaRows
import Derived.Laws.IdiomArrays
import Derived.Lib.SmallJoins
import Derived.Deep.Matrix
import Derived.WalkKit
import Derived.ProofKit
import Derived.OpenShut
import Derived.ChangeOld
import Derived.Below
import Derived.SizedLaws
namespace Go.Proofs.Ytmekcfkfkpbfeaa.H
open Go.ChangeShapes Go.WideShapes Go.ChangeAt Go.RowKit Go.Deep
set_option linter.unusedVariables false
set_option linter.unusedSimpArgs false
theorem okWide_array {P : Program} {t e : TypeId} {n : Nat} {w : World} {r : Reach} {base : Nat} {v : Value} (ht : P.underlying t = some (.array n e)) (h : Value.okWide P w r base t v) : ∃ cs : Array Value, v = .agg cs ∧ cs.size = P.cellsOf t := by
  simp only [Value.okWide, ht] at h
  obtain ⟨cs, h1, h2, _⟩ := h
  exact ⟨cs, h1, h2⟩
section
variable {H : Type} {enc : TypeId × Value → H} {w : World} {base : Nat} {spare : Nat → Bool} {held : Bool}
theorem u8_bounds {n : Int} (h : (Lit.int .u8 n).wf = true) : 0 ≤ n ∧ n ≤ 255 := by
  simp [Lit.wf, IntKind.min, IntKind.max, IntKind.signed, IntKind.bits] at h
  omega
theorem list4 {α : Type} {l : List α} (h : l.length = 4) : ∃ a b c d, l = [a, b, c, d] := by
  match l, h with
  | [a, b, c, d], _ => exact ⟨a, b, c, d, rfl⟩
theorem open_arr8 {fuel : Nat} {cs : List Value} {x : DataW H × List MemPlace} (h : DataW.trod enc Try.prog w base spare held fuel 23 cs = some x) : ∃ m : M4, B8 m ∧ cs = enc8 m := by
  have hu : Try.prog.underlying 23 = some (.array 4 5) := Try.underlying23
  have hc5 : Try.prog.cellsOf 5 = 1 := by kernel_rfl
  have hc23 : Try.prog.cellsOf 23 = 4 := by kernel_rfl
  obtain ⟨xs, m, _, _, hl, _, _⟩ := DataW.trod_array hu h
  rw [hc23] at hl
  obtain ⟨c0, c1, c2, c3, rfl⟩ := list4 hl
  obtain ⟨y0, y1, y2, y3, n, _, h0, h1, h2, h3⟩ := trod_array4 hu hc5 h
  obtain ⟨a0, e0, _, b0⟩ := DataW.trod_int Try.underlying5 h0
  obtain ⟨a1, e1, _, b1⟩ := DataW.trod_int Try.underlying5 h1
  obtain ⟨a2, e2, _, b2⟩ := DataW.trod_int Try.underlying5 h2
  obtain ⟨a3, e3, _, b3⟩ := DataW.trod_int Try.underlying5 h3
  simp only [List.cons.injEq, and_true] at e0 e1 e2 e3
  subst e0 e1 e2 e3
  exact ⟨(a0, a1, a2, a3), ⟨u8_bounds b0, u8_bounds b1, u8_bounds b2, u8_bounds b3⟩, rfl⟩
theorem open_arr88 {fuel : Nat} {cs : List Value} {x : DataW H × List MemPlace} (h : DataW.trod enc Try.prog w base spare held fuel 55 cs = some x) : ∃ y z : M4, B8 y ∧ B8 z ∧ cs = enc8 y ++ enc8 z := by
  have hu : Try.prog.underlying 55 = some (.array 2 23) := Try.underlying55
  have hc23 : Try.prog.cellsOf 23 = 4 := by kernel_rfl
  have hc55 : Try.prog.cellsOf 55 = 8 := by kernel_rfl
  obtain ⟨xs, m, _, _, hl, hxl, hx⟩ := DataW.trod_array hu h
  rw [hc55] at hl
  rw [hc23] at hx
  have h0 := hx 0 (by omega)
  have h1 := hx 1 (by omega)
  rw [List.getElem?_eq_getElem (by omega)] at h0 h1
  obtain ⟨y, hy, e0⟩ := open_arr8 h0
  obtain ⟨z, hz, e1⟩ := open_arr8 h1
  refine ⟨y, z, hy, hz, ?_⟩
  rw [← e0, ← e1]
  have e2 : (cs.drop (1 * 4)).take 4 = cs.drop 4 := by
    rw [List.take_of_length_le]
    rw [List.length_drop]
    omega
  rw [e2]
  simp
theorem cells_get {a : Addr} {n : Nat} {cs : List Value} (h : w.cells? base a n = some cs) (i : Nat) (hi : i < n) : w.cell? (a.add i) = cs[i]? := by
  unfold World.cells? at h
  split at h
  · have := mapM_some_get h i i (by simp [hi])
    exact this
  · cases h
theorem open_rows8 {fuel : Nat} {cs : List Value} {x : DataW H × List MemPlace} (h : DataW.trod enc Try.prog w base spare held fuel 22 cs = some x) : ∃ A c xs, cs = [.slice A xs.length c] ∧ Rows8 w A xs := by
  rcases open_slice Try.underlying22 h with ⟨rfl, rfl⟩ | ⟨a, len, cap, m, n, D, Pl, rfl, hb, hl, hm, hmm, rfl, hx⟩
  · exact ⟨none, 0, [], rfl, by simp, by simp, fun j x hj => by simp at hj⟩
  · have hc23 : Try.prog.cellsOf 23 = 4 := by kernel_rfl
    rw [hc23] at hx
    have hlm : len ≤ m := by rw [hmm]; split <;> omega
    obtain ⟨f, hf⟩ := choose_lt (n := len) (α := M4) (p := fun i m4 => B8 m4 ∧ w.cell? (a.add (i * 4)) = some (.int .u8 m4.1) ∧ w.cell? (a.add (i * 4 + 1)) = some (.int .u8 m4.2.1) ∧ w.cell? (a.add (i * 4 + 2)) = some (.int .u8 m4.2.2.1) ∧ w.cell? (a.add (i * 4 + 3)) = some (.int .u8 m4.2.2.2)) (fun i hi => by
      obtain ⟨cs', h1, h2⟩ := hx i (by omega)
      obtain ⟨m4, hB, rfl⟩ := open_arr8 h2
      have g0 := cells_get h1 0 (by omega)
      have g1 := cells_get h1 1 (by omega)
      have g2 := cells_get h1 2 (by omega)
      have g3 := cells_get h1 3 (by omega)
      rw [Addr.add_add] at g0 g1 g2 g3
      exact ⟨m4, hB, g0, g1, g2, g3⟩)
    refine ⟨some a, cap, (List.range len).map f, by simp, ?_, ?_, ?_⟩
    · intro x hx
      obtain ⟨i, hi, rfl⟩ := List.mem_map.1 hx
      exact (hf i (List.mem_range.1 hi)).1
    · have : cap ≤ 2 ^ 63 - 1 := hm
      simp
      omega
    · intro j x hj
      rw [List.getElem?_map] at hj
      obtain ⟨i, hi, rfl⟩ := Option.map_eq_some_iff.1 hj
      obtain ⟨hi2, e⟩ := List.getElem?_eq_some_iff.1 hi
      rw [List.length_range] at hi2
      rw [List.getElem_range] at e
      subst e
      obtain ⟨_, g0, g1, g2, g3⟩ := hf j hi2
      have hlt := World.block_lt_of_cell? w _ g1
      have hblk : ∀ k, (a.add k).block = a.block := fun k => by unfold Addr.add; split <;> rfl
      rw [hblk] at hlt
      exact ⟨a, rfl, hlt, g0, g1, g2, g3⟩
end
end Go.Proofs.Ytmekcfkfkpbfeaa.H
