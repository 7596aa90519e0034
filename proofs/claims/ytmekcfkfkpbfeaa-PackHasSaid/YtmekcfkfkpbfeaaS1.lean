/- What the printed functions come to, from some number of rounds on: equal lists, divisibility, membership, valid ideals. No condition but the model's bounds. -/
import Derived.Test.YtmekcfkfkpbfeaaM1
import Derived.Test.YtmekcfkfkpbfeaaGa1
import Derived.Test.YtmekcfkfkpbfeaaGa2
import Derived.Test.YtmekcfkfkpbfeaaGa3
namespace Go.Proofs.Ytmekcfkfkpbfeaa.S
open Go.Proofs.Ytmekcfkfkpbfeaa.H Go.Proofs.Ytmekcfkfkpbfeaa.M Go.Proofs.Ytmekcfkfkpbfeaa.Ga
open Go.RowKit Go.Proofs.YtmekcfkfkpbfeaaW.PrintWords Go.Proofs.YtmekcfkfkpbfeaaW.PrintLast Go.Proofs.YtmekcfkfkpbfeaaW.PrintMore
set_option linter.unusedVariables false
set_option linter.unusedSimpArgs false
theorem w64 {x : Int} (h : -9223372036854775808 ≤ x) (h2 : x ≤ 9223372036854775807) : wrap64 x = x := by unfold wrap64; omega
theorem Ev.to {α : Type} {g : Nat → Option α} {r q : α} (h : Ev g r) (e : r = q) : Ev g q := e ▸ h
theorem rd_at (l : List Int) (i : Nat) (h : i < l.length) : rd l (i : Int) = l[i] := by
  unfold rd
  rw [Int.toNat_natCast, List.getD_eq_getElem?_getD, List.getElem?_eq_getElem h]
  rfl
theorem rd1_at (l : List (List Int)) (i : Nat) (h : i < l.length) : rd_L1 l (i : Int) = l[i] := by
  unfold rd_L1
  rw [Int.toNat_natCast, List.getD_eq_getElem?_getD, List.getElem?_eq_getElem h]
  rfl
theorem rd2_at (l : List (List (List Int))) (i : Nat) (h : i < l.length) : rd_L2 l (i : Int) = l[i] := by
  unfold rd_L2
  rw [Int.toNat_natCast, List.getD_eq_getElem?_getD, List.getElem?_eq_getElem h]
  rfl
theorem drop_at {α : Type} (l : List α) (i : Nat) (h : i < l.length) : l.drop i = l[i] :: l.drop (i + 1) := List.drop_eq_getElem_cons h
theorem drop_end {α : Type} (l : List α) (i : Nat) (h : l.length ≤ i) : l.drop i = [] := List.drop_eq_nil_of_le h
/-! ### Lists in order -/
/-- Ahead, lexicographically. -/
def bef : List Int → List Int → Bool
  | x :: xs, y :: ys => if x = y then bef xs ys else decide (x < y)
  | [], _ :: _ => true
  | _, [] => false
theorem before_loop (a b : List Int) (hl : a.length < 1000000) (hb : b.length < 1000000) : ∀ (d i : Nat), i + d = a.length → i ≤ b.length → Ev (fun k => woggleref01_Before.l0 k a b (i : Int)) (bef (a.drop i) (b.drop i))
  | 0, i, h, hi => by
    refine Ev.step (f := fun k => woggleref01_Before.j1 k a b (i : Int) false) (fun k => by simp only [woggleref01_Before.l0]; rw [if_neg (by omega)]) ?_
    refine Ev.step (f := fun _ => some _) (fun k => ?_) (Ev.now _)
    simp only [woggleref01_Before.j1]
    rw [if_neg (by simp), drop_end a i (by omega)]
    by_cases c : i < b.length
    · rw [drop_at b i c, decide_eq_true (by omega)]
      rfl
    · rw [drop_end b i (by omega), decide_eq_false (by omega)]
      rfl
  | d + 1, i, h, hi => by
    by_cases c : i < b.length
    · refine Ev.step (f := fun k => woggleref01_Before.j1 k a b (i : Int) true) (fun k => by simp only [woggleref01_Before.l0]; rw [if_pos (by omega), decide_eq_true (by omega)]) ?_
      rw [drop_at a i (by omega), drop_at b i c]
      by_cases e : a[i] = b[i]
      · have ih := before_loop a b hl hb d (i + 1) (by omega) (by omega)
        refine Ev.step (fun k => ?_) (Ev.to ih (by rw [bef, if_pos e]))
        simp only [woggleref01_Before.j1]
        rw [if_pos trivial, if_pos (by omega), if_pos (by omega), if_pos (by omega), rd_at a i (by omega), rd_at b i c, if_pos e, w64 (by omega) (by omega)]
        rfl
      · refine Ev.step (f := fun _ => some _) (fun k => ?_) (Ev.to (Ev.now (decide (a[i] < b[i]))) (by rw [bef, if_neg e]))
        simp only [woggleref01_Before.j1]
        rw [if_pos trivial, if_pos (by omega), if_pos (by omega), if_pos (by omega), rd_at a i (by omega), rd_at b i c, if_neg e]
    · refine Ev.step (f := fun k => woggleref01_Before.j1 k a b (i : Int) false) (fun k => by simp only [woggleref01_Before.l0]; rw [if_pos (by omega), decide_eq_false (by omega)]) ?_
      refine Ev.step (f := fun _ => some _) (fun k => ?_) (Ev.now _)
      simp only [woggleref01_Before.j1]
      rw [if_neg (by simp), drop_end b i (by omega), decide_eq_false (by omega), drop_at a i (by omega)]
      rfl
theorem before_ev (a b : List Int) (hl : a.length < 1000000) (hb : b.length < 1000000) : Ev (fun k => woggleref01_Before.f k a b) (bef a b) := before_loop a b hl hb a.length 0 (by omega) (Nat.zero_le _)
theorem bef_tri : ∀ (a b : List Int), (!bef a b && !bef b a) = decide (a = b)
  | [], [] => rfl
  | [], _ :: _ => rfl
  | _ :: _, [] => rfl
  | x :: xs, y :: ys => by
    unfold bef
    by_cases e : x = y
    · subst e
      rw [if_pos rfl, if_pos rfl, bef_tri xs ys]
      simp
    · rw [if_neg e, if_neg (fun h => e h.symm)]
      have : ¬ (x :: xs = y :: ys) := fun h => e (List.cons.inj h).1
      rw [decide_eq_false this]
      by_cases c : x < y
      · rw [decide_eq_true c]; rfl
      · rw [decide_eq_false c, decide_eq_true (by omega)]; rfl
theorem same_ev (a b : List Int) (hl : a.length < 1000000) (hb : b.length < 1000000) : Ev (fun k => woggleref01_Same.f k a b) (decide (a = b)) := by
  rw [← bef_tri]
  refine Ev.bind (before_ev a b hl hb) ?_
  cases h : bef a b with
  | true => exact Ev.congr (fun k => by rw [if_pos rfl]; rfl) (Ev.now _)
  | false =>
    refine Ev.congr (fun k => by rw [if_neg (by simp)]) (Ev.bind (before_ev b a hb hl) (Ev.now _))
theorem sameLists_loop (x y : List (List Int)) (hl : x.length = y.length) (hx : x.length < 1000000) (ha : ∀ a ∈ x, a.length < 1000000) (hb : ∀ a ∈ y, a.length < 1000000) : ∀ (d i : Nat), i + d = x.length → Ev (fun k => woggleref01_SameLists.l0 k x y (i : Int)) (decide (x.drop i = y.drop i))
  | 0, i, h => by
    rw [drop_end x i (by omega), drop_end y i (by omega)]
    exact Ev.step (f := fun _ => some _) (fun k => by simp only [woggleref01_SameLists.l0]; rw [if_neg (by omega)]; simp) (Ev.now _)
  | d + 1, i, h => by
    have hi : i < x.length := by omega
    have hj : i < y.length := by omega
    rw [drop_at x i hi, drop_at y i hj]
    refine Ev.step (fun k => by simp only [woggleref01_SameLists.l0]; rw [if_pos (by omega), if_pos (by omega), if_pos (by omega), rd1_at x i hi, rd1_at y i hj, w64 (by omega) (by omega)]) ?_
    refine Ev.bind (same_ev x[i] y[i] (ha _ (List.getElem_mem hi)) (hb _ (List.getElem_mem hj))) ?_
    by_cases e : x[i] = y[i]
    · refine Ev.congr (f := fun k => woggleref01_SameLists.l0 k x y ((i + 1 : Nat) : Int)) (fun k => by rw [if_pos (by simpa using e)]; rfl) (Ev.to (sameLists_loop x y hl hx ha hb d (i + 1) (by omega)) ?_)
      rw [e, decide_eq_decide]
      exact ⟨fun h => by rw [h], fun h => (List.cons.inj h).2⟩
    · refine Ev.congr (fun k => by rw [if_neg (by simpa using e)]) (Ev.to (Ev.now false) ?_)
      rw [decide_eq_false (fun h => e (List.cons.inj h).1)]
theorem sameLists_ev (x y : List (List Int)) (hx : x.length < 1000000) (ha : ∀ a ∈ x, a.length < 1000000) (hb : ∀ a ∈ y, a.length < 1000000) : Ev (fun k => woggleref01_SameLists.f k x y) (decide (x = y)) := by
  unfold woggleref01_SameLists.f
  by_cases hl : (x.length : Int) = (y.length : Int)
  · refine Ev.congr (fun k => by rw [if_pos hl]; rfl) (sameLists_loop x y (by omega) hx ha hb x.length 0 (by omega))
  · refine Ev.congr (fun k => by rw [if_neg hl]) (Ev.to (Ev.now false) ?_)
    rw [decide_eq_false]
    rintro rfl
    exact hl rfl
/-! ### Divisibility and membership -/
/-- Divides, number by number. -/
def divL (a c : List Int) : Bool := (List.range a.length).all fun i => decide (a.getD i 0 ≤ c.getD i 0)
theorem divides_loop (a c : List Int) (hl : a.length ≤ c.length) (hc : c.length < 1000000) : ∀ (d i : Nat), i + d = a.length → Ev (fun k => woggleref04_Divides.l0 k a c (i : Int)) ((List.range' i d).all fun i => decide (a.getD i 0 ≤ c.getD i 0))
  | 0, i, h => Ev.step (f := fun _ => some _) (fun k => by simp only [woggleref04_Divides.l0]; rw [if_neg (by omega)]; rfl) (Ev.now _)
  | d + 1, i, h => by
    have hi : i < a.length := by omega
    rw [List.range'_succ, List.all_cons]
    have e1 : a.getD i 0 = a[i] := by rw [List.getD_eq_getElem?_getD, List.getElem?_eq_getElem hi]; rfl
    have e2 : c.getD i 0 = c[i] := by rw [List.getD_eq_getElem?_getD, List.getElem?_eq_getElem (by omega)]; rfl
    rw [e1, e2]
    by_cases e : a[i] ≤ c[i]
    · refine Ev.step (fun k => ?_) (Ev.to (divides_loop a c hl hc d (i + 1) (by omega)) (by rw [decide_eq_true e, Bool.true_and]))
      simp only [woggleref04_Divides.l0]
      rw [if_pos (by omega), if_pos (by omega), if_pos (by omega), rd_at a i hi, rd_at c i (by omega), if_neg (by omega), w64 (by omega) (by omega)]
      rfl
    · refine Ev.step (f := fun _ => some _) (fun k => ?_) (Ev.to (Ev.now false) (by rw [decide_eq_false e, Bool.false_and]))
      simp only [woggleref04_Divides.l0]
      rw [if_pos (by omega), if_pos (by omega), if_pos (by omega), rd_at a i hi, rd_at c i (by omega), if_pos (by omega)]
theorem divides_ev (a c : List Int) (hl : a.length ≤ c.length) (hc : c.length < 1000000) : Ev (fun k => woggleref04_Divides.f k a c) (divL a c) := by
  have h := divides_loop a c hl hc a.length 0 (by omega)
  unfold divL
  rw [List.range_eq_range']
  exact h
theorem has_loop (g : List (List Int)) (m : List Int) (hg : g.length < 1000000) (hm : m.length < 1000000) (hl : ∀ a ∈ g, a.length ≤ m.length) : ∀ (d i : Nat), i + d = g.length → Ev (fun k => woggleref04_Has.l0 k g m (i : Int)) ((g.drop i).any fun a => divL a m)
  | 0, i, h => by
    rw [drop_end g i (by omega)]
    exact Ev.step (f := fun _ => some _) (fun k => by simp only [woggleref04_Has.l0]; rw [if_neg (by omega)]; rfl) (Ev.now _)
  | d + 1, i, h => by
    have hi : i < g.length := by omega
    rw [drop_at g i hi, List.any_cons]
    refine Ev.step (fun k => by simp only [woggleref04_Has.l0]; rw [if_pos (by omega), if_pos (by omega), rd1_at g i hi, w64 (by omega) (by omega)]) ?_
    refine Ev.bind (divides_ev g[i] m (hl _ (List.getElem_mem hi)) hm) ?_
    by_cases e : divL g[i] m = true
    · rw [e]
      exact Ev.congr (fun k => by rw [if_pos rfl]; rfl) (Ev.now _)
    · rw [Bool.not_eq_true] at e
      rw [e, Bool.false_or]
      exact Ev.congr (fun k => by rw [if_neg (by simp)]; rfl) (has_loop g m hg hm hl d (i + 1) (by omega))
theorem has_ev (g : List (List Int)) (m : List Int) (hg : g.length < 1000000) (hm : m.length < 1000000) (hl : ∀ a ∈ g, a.length ≤ m.length) : Ev (fun k => woggleref04_Has.f k g m) (g.any fun a => divL a m) := has_loop g m hg hm hl g.length 0 (by omega)
/-! ### Valid ideals -/
theorem in_is (v low high : Int) : woggleref04_in.f v low high = some (decide (low ≤ v ∧ v ≤ high)) := by
  unfold woggleref04_in.f
  by_cases c : v ≥ low
  · rw [if_pos c]
    by_cases d : v ≤ high
    · rw [decide_eq_true d, decide_eq_true ⟨c, d⟩]
    · rw [decide_eq_false d, decide_eq_false (fun h => d h.2)]
  · rw [if_neg c, decide_eq_false (fun h => c h.1)]
def in6 (l : List Int) : Bool := l.all fun y => decide (0 ≤ y ∧ y ≤ 6)
/-- The reference's valid monomial. -/
def monoL (n : Int) (l : List Int) : Bool := in6 l && decide ((l.length : Int) = n)
theorem mono_loop (n : Int) (l : List Int) (hl : l.length < 1000000000000000) : ∀ (d i : Nat), i + d = l.length → Ev (fun k => woggleref04_Monomial.l0 k n l (i : Int)) (in6 (l.drop i) && decide ((l.length : Int) = n))
  | 0, i, h => by
    rw [drop_end l i (by omega)]
    exact Ev.step (f := fun _ => some _) (fun k => by simp only [woggleref04_Monomial.l0]; rw [if_neg (by omega)]; rfl) (Ev.now _)
  | d + 1, i, h => by
    have hi : i < l.length := by omega
    unfold in6
    rw [drop_at l i hi, List.all_cons]
    refine Ev.step (f := fun k => if decide (0 ≤ l[i] ∧ l[i] ≤ 6) = true then woggleref04_Monomial.l0 k n l ((i + 1 : Nat) : Int) else some false) (fun k => by simp only [woggleref04_Monomial.l0]; rw [if_pos (by omega), if_pos (by omega), in_is, Option.bind_some, rd_at l i hi, w64 (by omega) (by omega)]; rfl) ?_
    by_cases e : 0 ≤ l[i] ∧ l[i] ≤ 6
    · rw [decide_eq_true e]
      exact Ev.congr (fun k => by rw [if_pos rfl]) (Ev.to (mono_loop n l hl d (i + 1) (by omega)) (by unfold in6; rfl))
    · rw [decide_eq_false e]
      exact Ev.congr (fun k => by rw [if_neg (by simp)]) (Ev.to (Ev.now false) (by simp))
theorem mono_ev (n : Int) (l : List Int) (hl : l.length < 1000000000000000) : Ev (fun k => woggleref04_Monomial.f k n l) (monoL n l) := mono_loop n l hl l.length 0 (by omega)
theorem mono_good (n : Int) (h1 : 1 ≤ n) (l : List Int) : monoL n l = good n l := by
  unfold monoL good
  rw [Bool.and_comm]
  by_cases e : (l.length : Int) = n
  · rw [decide_eq_true e, Bool.true_and, Bool.true_and, Bool.eq_iff_iff, okL_iff l (by omega)]
    unfold in6
    simp [List.all_eq_true]
  · rw [decide_eq_false e]; rfl
/-- Of several lists of generators: too long, else the number of variables, else a monomial that is not valid. -/
def idE (n : Int) (gs : List (List (List Int))) : Int := if gs.any (fun g => decide (12 < g.length)) = true then 3 else if n < 1 ∨ 4 < n then 1 else if gs.all (fun g => g.all (good n)) = true then 0 else 1
theorem ideal_l2 (n : Int) (h1 : 1 ≤ n) (gs : List (List (List Int))) (hgs : gs.length < 1000000) (hg : ∀ g ∈ gs, g.length < 1000000 ∧ ∀ l ∈ g, l.length < 1000000000000000) (a : Nat) (ha : a < gs.length) (r : Int) (ih : Ev (fun k => woggleref04_Ideal.l1 k n gs ((a + 1 : Nat) : Int)) r) :
    ∀ (d i : Nat), i + d = gs[a].length → Ev (fun k => woggleref04_Ideal.l2 k n gs (a : Int) (i : Int)) (if (gs[a].drop i).all (good n) = true then r else 1)
  | 0, i, h => by
    rw [drop_end _ i (by omega)]
    refine Ev.step (fun k => ?_) (Ev.to ih (by simp))
    simp only [woggleref04_Ideal.l2]
    rw [if_pos (by omega), if_pos (by omega), rd2_at gs a ha, if_neg (by omega), w64 (by omega) (by omega)]
    rfl
  | d + 1, i, h => by
    have hm := hg _ (List.getElem_mem ha)
    have hi : i < gs[a].length := by omega
    rw [drop_at _ i hi, List.all_cons]
    refine Ev.step (fun k => by simp only [woggleref04_Ideal.l2]; rw [if_pos (by omega), if_pos (by omega), rd2_at gs a ha, if_pos (by omega), if_pos (by omega), rd1_at _ i hi, w64 (x := (i : Int) + 1) (by omega) (by omega)]) ?_
    refine Ev.bind (mono_ev n _ (hm.2 _ (List.getElem_mem hi))) ?_
    rw [mono_good n h1]
    cases e : good n gs[a][i] with
    | true =>
      rw [Bool.true_and]
      exact Ev.congr (fun k => by rw [if_pos rfl]; rfl) (ideal_l2 n h1 gs hgs hg a ha r ih d (i + 1) (by omega))
    | false =>
      exact Ev.congr (fun k => by rw [if_neg (by simp)]) (Ev.to (Ev.now 1) (by simp))
theorem ideal_l1 (n : Int) (h1 : 1 ≤ n) (gs : List (List (List Int))) (hgs : gs.length < 1000000) (hg : ∀ g ∈ gs, g.length < 1000000 ∧ ∀ l ∈ g, l.length < 1000000000000000) :
    ∀ (d i : Nat), i + d = gs.length → Ev (fun k => woggleref04_Ideal.l1 k n gs (i : Int)) (if (gs.drop i).all (fun g => g.all (good n)) = true then 0 else 1)
  | 0, i, h => by
    rw [drop_end _ i (by omega)]
    exact Ev.step (f := fun _ => some _) (fun k => by simp only [woggleref04_Ideal.l1]; rw [if_neg (by omega)]) (Ev.to (Ev.now 0) (by simp))
  | d + 1, i, h => by
    have hi : i < gs.length := by omega
    rw [drop_at _ i hi, List.all_cons]
    have h2 := ideal_l2 n h1 gs hgs hg i hi _ (ideal_l1 n h1 gs hgs hg d (i + 1) (by omega)) gs[i].length 0 (by omega)
    refine Ev.step (fun k => by simp only [woggleref04_Ideal.l1]; rw [if_pos (by omega)]; rfl) (Ev.to h2 ?_)
    rw [List.drop_zero]
    cases e : gs[i].all (good n) with
    | true => rw [if_pos rfl, Bool.true_and]
    | false => rw [if_neg (by simp), Bool.false_and, if_neg (by simp)]
theorem ideal_l0 (n : Int) (gs : List (List (List Int))) (hgs : gs.length < 1000000) (hg : ∀ g ∈ gs, g.length < 1000000 ∧ ∀ l ∈ g, l.length < 1000000000000000) :
    ∀ (d i : Nat), i + d = gs.length → Ev (fun k => woggleref04_Ideal.l0 k n gs (i : Int)) (if (gs.drop i).any (fun g => decide (12 < g.length)) = true then 3 else if n < 1 ∨ 4 < n then 1 else if gs.all (fun g => g.all (good n)) = true then 0 else 1)
  | 0, i, h => by
    rw [drop_end _ i (by omega)]
    by_cases hn : n < 1 ∨ 4 < n
    · refine Ev.step (f := fun _ => some _) (fun k => by simp only [woggleref04_Ideal.l0]; rw [if_neg (by omega), in_is, Option.bind_some, decide_eq_false (by omega), if_neg (by simp)]) (Ev.to (Ev.now 1) (by simp [hn]))
    · have h1 := ideal_l1 n (by omega) gs hgs hg gs.length 0 (by omega)
      refine Ev.step (fun k => by simp only [woggleref04_Ideal.l0]; rw [if_neg (by omega), in_is, Option.bind_some, decide_eq_true (by omega), if_pos rfl]; rfl) (Ev.to h1 ?_)
      rw [List.drop_zero, List.any_nil, if_neg (c := false = true) (by simp), if_neg hn]
  | d + 1, i, h => by
    have hi : i < gs.length := by omega
    rw [drop_at _ i hi, List.any_cons]
    by_cases c : 12 < gs[i].length
    · refine Ev.step (f := fun _ => some _) (fun k => by simp only [woggleref04_Ideal.l0]; rw [if_pos (by omega), if_pos (by omega), rd2_at gs i hi, if_pos (by omega)]) (Ev.to (Ev.now 3) ?_)
      rw [decide_eq_true c, Bool.true_or, if_pos rfl]
    · rw [decide_eq_false c, Bool.false_or]
      refine Ev.step (fun k => ?_) (ideal_l0 n gs hgs hg d (i + 1) (by omega))
      simp only [woggleref04_Ideal.l0]
      rw [if_pos (by omega), if_pos (by omega), rd2_at gs i hi, if_neg (by omega), w64 (by omega) (by omega)]
      rfl
theorem ideal_ev (n : Int) (gs : List (List (List Int))) (hgs : gs.length < 1000000) (hg : ∀ g ∈ gs, g.length < 1000000 ∧ ∀ l ∈ g, l.length < 1000000000000000) : Ev (fun k => woggleref04_Ideal.f k n gs) (idE n gs) := ideal_l0 n gs hgs hg gs.length 0 (by omega)
theorem idE_one (n : Int) (l : List (List Int)) : idE n [l] = readE n l := by
  unfold idE readE
  simp
end Go.Proofs.Ytmekcfkfkpbfeaa.S
