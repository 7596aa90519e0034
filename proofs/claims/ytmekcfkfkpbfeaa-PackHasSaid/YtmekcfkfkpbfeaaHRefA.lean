/- The reference's Minimal in plain Lean: rows with their headers. Contracts of Divides, Same, Before for drawn regions. -/
import Derived.Test.YtmekcfkfkpbfeaaS1
import Derived.Deep.Slices
namespace Go.Proofs.Ytmekcfkfkpbfeaa.H
open Go.RowKit Go.Proofs.YtmekcfkfkpbfeaaW.PrintWords Go.Proofs.YtmekcfkfkpbfeaaW.PrintLast Go.Proofs.YtmekcfkfkpbfeaaW.PrintMore
open Go.Proofs.Ytmekcfkfkpbfeaa.Ga Go.Proofs.Ytmekcfkfkpbfeaa.S
set_option linter.unusedVariables false
set_option linter.unusedSimpArgs false
/-- A row with its header: where it lies, its capacity, its numbers. -/
abbrev HD := Option Addr × Nat × List Int
def encT (t : HD) : Value := .slice t.1 t.2.2.length t.2.1
theorem encT_one (t : HD) : (encT t).oneCell' = true := rfl
abbrev KT : Kd HD := Kd.scalar encT encT_one
instance : Inhabited HD := ⟨(none, 0, [])⟩
/-- The header says no more than there is. -/
def RowOk (w : World) (t : HD) : Prop := t.2.2.length ≤ t.2.1 ∧ t.2.2.length < 1000000 ∧ Kd.C KI w t.1 t.2.2.length t.2.2
theorem RowOk.below {w w1 : World} {t : HD} (h : RowOk w t) (hb : Below w.heap.size w w1) : RowOk w1 t := ⟨h.1, h.2.1, Kd.C_below h.2.2 hb⟩
/-- Lists of rows as they lie: their headers. -/
theorem heads_of {w : World} {A : Option Addr} {xs : List (List Int)} (h : Kd.C KL w A xs.length xs) (hs : ∀ x ∈ xs, x.length < 1000000) : ∃ ts : List HD, ts.map (fun t => t.2.2) = xs ∧ (∀ t ∈ ts, RowOk w t) ∧ ∀ (i : Nat) (t : HD), ts[i]? = some t → ∃ ad, A = some ad ∧ w.cell? (ad.add i) = some (encT t) := by
  have hx : ∀ i, i < xs.length → ∃ t : HD, t.2.2 = xs.getD i [] ∧ RowOk w t ∧ ∃ ad, A = some ad ∧ w.cell? (ad.add i) = some (encT t) := by
    intro i hi
    obtain ⟨ad, A0, c0, e, hc, hl, hr⟩ := at_L1 h (i : Int) (by omega) (by omega)
    rw [Int.toNat_natCast] at hc
    have e2 : rd_L1 xs (i : Int) = xs.getD i [] := by unfold rd_L1; rw [Int.toNat_natCast]
    rw [e2] at hc hl hr
    have hm : xs.getD i [] ∈ xs := by
      rw [List.getD_eq_getElem?_getD, List.getElem?_eq_getElem hi]
      exact List.getElem_mem hi
    exact ⟨(A0, c0, xs.getD i []), rfl, ⟨hl, hs _ hm, hr⟩, ad, e, hc⟩
  obtain ⟨f, hf⟩ := Go.Deep.choose_lt hx
  refine ⟨(List.range xs.length).map f, ?_, ?_, ?_⟩
  · apply List.ext_getElem?
    intro i
    by_cases hi : i < xs.length
    · rw [List.getElem?_map, List.getElem?_map, List.getElem?_range hi, List.getElem?_eq_getElem hi]
      simp only [Option.map_some]
      rw [(hf i hi).1, List.getD_eq_getElem?_getD, List.getElem?_eq_getElem hi]
      rfl
    · rw [List.getElem?_eq_none (by simpa using hi), List.getElem?_eq_none (by omega)]
  · intro t ht
    obtain ⟨i, hi, rfl⟩ := List.mem_map.1 ht
    exact (hf i (List.mem_range.1 hi)).2.1
  · intro i t ht
    rw [List.getElem?_map] at ht
    obtain ⟨j, hj, rfl⟩ := Option.map_eq_some_iff.1 ht
    obtain ⟨hj2, e⟩ := List.getElem?_eq_some_iff.1 hj
    rw [List.getElem_range] at e
    subst e
    exact (hf i (by simpa using hj2)).2.2
/-- And back. -/
theorem C_of_heads {w : World} {A : Option Addr} {ts : List HD} (hC : Kd.C KT w A ts.length ts) (hr : ∀ t ∈ ts, RowOk w t) : Kd.C KL w A (ts.map (fun t => t.2.2)).length (ts.map (fun t => t.2.2)) := by
  rw [List.length_map]
  obtain ⟨h1, h2, h3⟩ := hC
  refine ⟨by rw [List.length_map], h2, fun hp => ?_⟩
  obtain ⟨ad, e, h4⟩ := h3 hp
  refine ⟨ad, e, fun j x hj => ?_⟩
  rw [List.getElem?_map] at hj
  obtain ⟨t, ht, rfl⟩ := Option.map_eq_some_iff.1 hj
  obtain ⟨cs, hlen, hk, hcs⟩ := h4 j t ht
  have ho := hr t (List.mem_of_getElem? ht)
  refine ⟨cs, hlen, ?_, hcs⟩
  have e2 : cs = [encT t] := hk
  subst e2
  exact ⟨t.1, t.2.1, rfl, ho.1, ho.2.2⟩
/-- Divides at rows, in a drawn region. -/
theorem div_q (x y : HD) (w : World) (n : Nat) (hx : RowOk w x) (hy : RowOk w y) (hl : x.2.2.length ≤ y.2.2.length) (b : Bool) (hb : divL x.2.2 y.2.2 = b) :
    Calls Try.prog 53 #[encT x, encT y] (w.drewN n) fun e w'' => e = .returned (.bool b) ∧ ∃ m, w'' = w.drewN m := by
  obtain ⟨K, hK⟩ := (divides_ev x.2.2 y.2.2 hl hy.2.1).rounds
  rw [hb] at hK
  refine Calls.quiet_of ((woggleref04_Divides.calls K x.1 x.2.1 x.2.2 y.1 y.2.1 y.2.2 b _ (Kd.C_drewN hx.2.2 _) hx.1 (Kd.C_drewN hy.2.2 _) hy.1 hK).mono ?_)
  rintro e w' ⟨rfl, h⟩
  exact ⟨rfl, h.out⟩
theorem same_q (x y : HD) (w : World) (n : Nat) (hx : RowOk w x) (hy : RowOk w y) (b : Bool) (hb : decide (x.2.2 = y.2.2) = b) :
    Calls Try.prog 50 #[encT x, encT y] (w.drewN n) fun e w'' => e = .returned (.bool b) ∧ ∃ m, w'' = w.drewN m := by
  obtain ⟨K, hK⟩ := (same_ev x.2.2 y.2.2 hx.2.1 hy.2.1).rounds
  rw [hb] at hK
  refine Calls.quiet_of ((woggleref01_Same.calls K x.1 x.2.1 x.2.2 y.1 y.2.1 y.2.2 b _ (Kd.C_drewN hx.2.2 _) hx.1 (Kd.C_drewN hy.2.2 _) hy.1 hK).mono ?_)
  rintro e w' ⟨rfl, h⟩
  exact ⟨rfl, h.out⟩
theorem bef_q (x y : HD) (w : World) (n : Nat) (hx : RowOk w x) (hy : RowOk w y) (b : Bool) (hb : bef x.2.2 y.2.2 = b) :
    Calls Try.prog 56 #[encT x, encT y] (w.drewN n) fun e w'' => e = .returned (.bool b) ∧ ∃ m, w'' = w.drewN m := by
  obtain ⟨K, hK⟩ := (before_ev x.2.2 y.2.2 hx.2.1 hy.2.1).rounds
  rw [hb] at hK
  refine Calls.quiet_of ((woggleref01_Before.calls K x.1 x.2.1 x.2.2 y.1 y.2.1 y.2.2 b _ (Kd.C_drewN hx.2.2 _) hx.1 (Kd.C_drewN hy.2.2 _) hy.1 hK).mono ?_)
  rintro e w' ⟨rfl, h⟩
  exact ⟨rfl, h.out⟩
/-! ### The reference in plain Lean -/
/-- Row k strikes row i out. -/
def strikes (ts : List HD) (i k : Nat) : Bool := decide (k ≠ i) && (divL (ts.getD k default).2.2 (ts.getD i default).2.2 && (!decide ((ts.getD k default).2.2 = (ts.getD i default).2.2) || decide (k < i)))
def keptTo (ts : List HD) (i k : Nat) : Bool := (List.range k).all fun k => !strikes ts i k
/-- How many of the first rows are ahead of a row. -/
def posT (out : List HD) (t : HD) : Nat := (out.takeWhile fun x => bef x.2.2 t.2.2).length
def insT (out : List HD) (t : HD) : List HD := (out.take (posT out t) ++ [t]) ++ out.drop (posT out t)
def refTo (ts : List HD) (i : Nat) : List HD := (List.range i).foldl (fun out i => if keptTo ts i ts.length = true then insT out (ts.getD i default) else out) []
theorem keptTo_succ (ts : List HD) (i k : Nat) : keptTo ts i (k + 1) = (keptTo ts i k && !strikes ts i k) := by
  unfold keptTo
  rw [List.range_succ, List.all_append]
  simp
theorem refTo_succ (ts : List HD) (i : Nat) : refTo ts (i + 1) = if keptTo ts i ts.length = true then insT (refTo ts i) (ts.getD i default) else refTo ts i := by
  unfold refTo
  rw [List.range_succ, List.foldl_append]
  rfl
theorem posT_le (out : List HD) (t : HD) : posT out t ≤ out.length := by
  unfold posT
  exact (List.takeWhile_sublist _).length_le
theorem mem_insT (out : List HD) (t x : HD) : x ∈ insT out t ↔ x = t ∨ x ∈ out := by
  unfold insT
  rw [List.mem_append, List.mem_append, List.mem_singleton]
  conv => rhs; rw [← List.take_append_drop (posT out t) out, List.mem_append]
  constructor
  · rintro ((h | h) | h)
    · exact .inr (.inl h)
    · exact .inl h
    · exact .inr (.inr h)
  · rintro (h | (h | h))
    · exact .inl (.inr h)
    · exact .inl (.inl h)
    · exact .inr h
theorem insT_length (out : List HD) (t : HD) : (insT out t).length = out.length + 1 := by
  unfold insT
  have := posT_le out t
  simp
  omega
theorem refTo_mem (ts : List HD) : ∀ i, i ≤ ts.length → ∀ x ∈ refTo ts i, x ∈ ts
  | 0, _, x, h => by simp [refTo] at h
  | i + 1, hi, x, h => by
    rw [refTo_succ] at h
    split at h
    · rcases (mem_insT _ _ _).1 h with rfl | h
      · rw [List.getD_eq_getElem?_getD, List.getElem?_eq_getElem (by omega)]
        exact List.getElem_mem _
      · exact refTo_mem ts i (by omega) x h
    · exact refTo_mem ts i (by omega) x h
theorem refTo_length (ts : List HD) : ∀ i, (refTo ts i).length ≤ i
  | 0 => Nat.le_refl _
  | i + 1 => by
    rw [refTo_succ]
    have := refTo_length ts i
    split
    · rw [insT_length]; omega
    · omega
end Go.Proofs.Ytmekcfkfkpbfeaa.H
