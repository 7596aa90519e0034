/- Plain laws: PackHas. -/
import Derived.Test.YtmekcfkfkpbfeaaS6
import Derived.Test.YtmekcfkfkpbfeaaS4
import Derived.Test.YtmekcfkfkpbfeaaHHasL
namespace Go.Proofs.Ytmekcfkfkpbfeaa.S
open Go.Proofs.Ytmekcfkfkpbfeaa.H Go.Proofs.Ytmekcfkfkpbfeaa.M Go.Proofs.Ytmekcfkfkpbfeaa.Ga
open Go.RowKit Go.Proofs.YtmekcfkfkpbfeaaW.PrintWords Go.Proofs.YtmekcfkfkpbfeaaW.PrintLast Go.Proofs.YtmekcfkfkpbfeaaW.PrintMore
set_option linter.unusedVariables false
set_option linter.unusedSimpArgs false
theorem ofL_overL (m x : List Int) (h : x.length = m.length) : ofL (overL m x) = overM (ofL m) (ofL x) := by
  have hh : ∀ i, rd (overL m x) i = mx 0 (rd x i - rd m i) := by
    intro i
    unfold rd overL
    simp only [List.getD_eq_getElem?_getD, List.getElem?_zipWith]
    by_cases hi : i.toNat < x.length
    · rw [List.getElem?_eq_getElem hi, List.getElem?_eq_getElem (by omega)]
      rfl
    · rw [List.getElem?_eq_none (by omega), List.getElem?_eq_none (by omega)]
      rfl
  unfold ofL overM
  simp only [hh]
theorem oneE_good {n : Int} {m : List Int} (h1 : 1 ≤ n) (h : oneE n m = true) : (m.length : Int) = n ∧ ∀ y ∈ m, 0 ≤ y ∧ y ≤ 6 := by
  unfold oneE at h
  rw [Bool.and_eq_true, decide_eq_true_iff] at h
  exact ⟨h.1, (okL_iff m (by omega)).1 h.2⟩
theorem has_law (n : Int) (A : Option Addr) (c : Nat) (xs : List (List Int)) (A1 : Option Addr) (c1 : Nat) (y : List Int) (w : World) (hr : Kd.C KL w A xs.length xs) (hc : xs.length ≤ c) (hy : Kd.C KI w A1 y.length y) (hcy : y.length ≤ c1) :
    Calls Try.prog 8 #[.agg #[.int .i64 n, .slice A xs.length c], .slice A1 y.length c1] w fun e w' => e = .returned (.bool true) ∧ Below w.heap.size w w' := by
  obtain ⟨K0, hls⟩ := (lists_ev xs).rounds
  have hfl := fewL_len xs
  generalize fewL xs = ys at hls hfl
  have hcu := cut_is y
  have hml : (y.take 5).length ≤ 5 := by rw [List.length_take]; omega
  generalize y.take 5 = m at hcu hml
  obtain ⟨K1, h18⟩ := (ideal_ev n [ys] (by simp) (fun x hx => by
    rw [List.mem_singleton] at hx
    subst hx
    exact ⟨by omega, fun l hl => by have := hfl.2 l hl; omega⟩)).rounds
  rw [idE_one] at h18
  by_cases hE : readE n ys = 0
  · obtain ⟨hl, h1, h4, hg⟩ := readE_ok hE
    have hG : GoodL n ys := hg
    obtain ⟨K2, h32⟩ := (mono_ev n m (by omega)).rounds
    rw [mono_good n h1] at h32
    rw [hE] at h18
    cases ho : oneE n m with
    | false =>
      have h32' : woggleref04_Monomial.f K2 n m = some false := by rw [h32]; exact congrArg some ho
      have e1 : pack_Has.f n ys m = some (false, 1) := by unfold pack_Has.f; rw [if_pos hE, if_neg (by rw [ho]; decide)]
      have e2 : pack_Over.f n ys m = some ([], 1) := by unfold pack_Over.f; rw [if_pos hE, if_neg (by rw [ho]; decide)]
      exact has_mono n A c xs A1 c1 y w hr hc hy hcy K0 ys hls m hcu K1 K2 e1 e2 h18 h32'
    | true =>
      have h32' : woggleref04_Monomial.f K2 n m = some true := by rw [h32]; exact congrArg some ho
      obtain ⟨hmn, hmy⟩ := oneE_good h1 ho
      have hV := V6_ofL hmy
      have hOG : G4 n ((ys.map ofL).map (overM (ofL m))) := g4_map (g4_of hG) (fun x h => over_V6 hV h) (fun x _ h => over_ext hV h)
      have hrr : minL n (ys.map (overL m)) = (least divs ((ys.map ofL).map (overM (ofL m)))).map (toL n) := by
        unfold minL
        rw [List.map_map, List.map_map]
        congr 2
        exact List.map_congr_left fun x hx => ofL_overL m x (by have := (hG x hx).1; omega)
      have hog : GoodL n (minL n (ys.map (overL m))) := by rw [hrr]; exact good_of h1 h4 (hOG.least divs)
      have hol : (minL n (ys.map (overL m))).length ≤ ys.length := by
        have := minL_length (k := n) (l := ys.map (overL m))
        rwa [List.length_map] at this
      obtain ⟨K3, e1⟩ := same_self h4 hog (by omega)
      have e2 := has_f h1 h4 hG hl hmn hmy
      have e3 := over_f h1 h4 hG hl hmn hmy
      rw [← hrr] at e3
      obtain ⟨K4, e4⟩ := has_ok h1 h4 hG (by omega) hmn
      exact has_good n A c xs A1 c1 y w hr hc hy hcy K0 ys hls m hcu K1 K2 K4 K3 _ _ e2 e3 h18 h32' e4 e1
        (fun A c A1 c1 W h h' => refOver_calls n h1 h4 A c ys A1 c1 m W h h' (fun x hx => hG x hx) hmn hmy (by omega))
  · have e1 : pack_Has.f n ys m = some (false, readE n ys) := by unfold pack_Has.f; rw [if_neg hE]
    have e2 : pack_Over.f n ys m = some ([], readE n ys) := by unfold pack_Over.f; rw [if_neg hE]
    exact has_bad n A c xs A1 c1 y w hr hc hy hcy K0 ys hls m hcu K1 _ hE e1 e2 h18
end Go.Proofs.Ytmekcfkfkpbfeaa.S
