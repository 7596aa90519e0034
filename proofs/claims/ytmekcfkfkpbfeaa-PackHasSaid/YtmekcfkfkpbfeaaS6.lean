/- Plain laws: PackMinimals. -/
import Derived.Test.YtmekcfkfkpbfeaaS3
import Derived.Test.YtmekcfkfkpbfeaaHMins
namespace Go.Proofs.Ytmekcfkfkpbfeaa.S
open Go.Proofs.Ytmekcfkfkpbfeaa.H Go.Proofs.Ytmekcfkfkpbfeaa.M Go.Proofs.Ytmekcfkfkpbfeaa.Ga
open Go.RowKit Go.Proofs.YtmekcfkfkpbfeaaW.PrintWords Go.Proofs.YtmekcfkfkpbfeaaW.PrintLast Go.Proofs.YtmekcfkfkpbfeaaW.PrintMore
set_option linter.unusedVariables false
set_option linter.unusedSimpArgs false
theorem cut_is (l : List Int) : wogglelaw04_cut.f l = some (l.take 5) := by
  unfold wogglelaw04_cut.f
  rw [Option.bind_some]
  have e : (mn (l.length : Int) 5 = 5 ∧ 5 ≤ l.length) ∨ (mn (l.length : Int) 5 = l.length ∧ l.length ≤ 5) := by
    unfold mn
    split <;> omega
  rcases e with ⟨e, h⟩ | ⟨e, h⟩
  · rw [e, if_pos (by omega), if_pos (by omega), if_pos (by simp; omega)]
    rfl
  · rw [e, if_pos (by omega), if_pos (by omega), Int.toNat_natCast, List.take_of_length_le (Nat.le_refl _), if_pos (by simp; omega), List.take_of_length_le h]
    rfl
/-- What lists keeps. -/
def fewL (x : List (List Int)) : List (List Int) := (x.take 13).map fun l => l.take 5
theorem lists_loop (x : List (List Int)) : ∀ (d i : Nat), i + d = (x.take 13).length → Ev (fun k => wogglelaw04_lists.l0 k x (((x.take 13).take i).map fun l => l.take 5) (i : Int)) (fewL x)
  | 0, i, h => by
    have e1 : (x.take 13).take i = x.take 13 := List.take_of_length_le (by omega)
    rw [List.length_take] at h
    rw [e1]
    refine Ev.step (f := fun _ => some _) (fun k => ?_) (Ev.now (fewL x))
    simp only [wogglelaw04_lists.l0]
    by_cases c : (i : Int) < (x.length : Int)
    · rw [if_pos c, if_neg (by omega)]
      rfl
    · rw [if_neg c]
      rfl
  | d + 1, i, h => by
    have h' := h
    rw [List.length_take] at h
    have hi : i < x.length := by omega
    refine Ev.step (fun k => ?_) (lists_loop x d (i + 1) (by omega))
    simp only [wogglelaw04_lists.l0]
    rw [if_pos (by omega), if_pos (by omega), if_pos (by omega), rd1_at x i hi, cut_is, Option.bind_some, if_pos (by rw [List.length_map, List.length_take]; omega), w64 (by omega) (by omega)]
    have hil : i < (x.take 13).length := by rw [List.length_take]; omega
    have e5 : (x.take 13).take (i + 1) = (x.take 13).take i ++ [(x.take 13)[i]] := List.take_succ_eq_append_getElem hil
    rw [e5, List.map_append]
    simp
theorem lists_ev (x : List (List Int)) : Ev (fun k => wogglelaw04_lists.f k x) (fewL x) := lists_loop x (x.take 13).length 0 (by omega)
theorem fewL_len (x : List (List Int)) : (fewL x).length ≤ 13 ∧ ∀ l ∈ fewL x, l.length ≤ 5 := by
  unfold fewL
  refine ⟨by rw [List.length_map, List.length_take]; omega, fun l hl => ?_⟩
  obtain ⟨y, _, rfl⟩ := List.mem_map.1 hl
  rw [List.length_take]
  omega
theorem mn_comm1 (x : Int) : mn 1 x = mn x 1 := by unfold mn; split <;> split <;> omega
theorem ofL_radL (y : List Int) : ofL (radL y) = radM (ofL y) := by
  have h : ∀ i, rd (radL y) i = mn (rd y i) 1 := by
    intro i
    unfold rd radL
    rw [List.getD_eq_getElem?_getD, List.getD_eq_getElem?_getD, List.getElem?_map]
    cases y[i.toNat]? with
    | none => rfl
    | some v => exact mn_comm1 v
  unfold ofL radM
  simp only [h]
theorem minimals (n : Int) (A : Option Addr) (c : Nat) (xs : List (List Int)) (w : World) (hr : Kd.C KL w A xs.length xs) (hc : xs.length ≤ c) :
    Calls Try.prog 4 #[.agg #[.int .i64 n, .slice A xs.length c]] w fun e w' => e = .returned (.bool true) ∧ Below w.heap.size w w' := by
  obtain ⟨K0, hls⟩ := (lists_ev xs).rounds
  have hfl := fewL_len xs
  generalize fewL xs = ys at hls hfl
  obtain ⟨K1, h18⟩ := (ideal_ev n [ys] (by simp) (fun x hx => by
    rw [List.mem_singleton] at hx
    subst hx
    exact ⟨by omega, fun l hl => by have := hfl.2 l hl; omega⟩)).rounds
  rw [idE_one] at h18
  by_cases hE : readE n ys = 0
  · obtain ⟨hl, h1, h4, hg⟩ := readE_ok hE
    have hG : GoodL n ys := hg
    have hgm := minL_good h1 h4 hG
    have hRG : G4 n ((ys.map ofL).map radM) := g4_map (g4_of hG) (fun x h => rad_V6 h) (fun x _ h => rad_ext h)
    have hrr : minL n (ys.map radL) = (least divs ((ys.map ofL).map radM)).map (toL n) := by
      unfold minL
      rw [List.map_map, List.map_map]
      congr 2
      exact List.map_congr_left fun y _ => ofL_radL y
    have hrg : GoodL n (minL n (ys.map radL)) := by rw [hrr]; exact good_of h1 h4 (hRG.least divs)
    have hrl : (minL n (ys.map radL)).length ≤ ys.length := by
      have := minL_length (k := n) (l := ys.map radL)
      rwa [List.length_map] at this
    have hml := minL_length (k := n) (l := ys)
    obtain ⟨K2, e1⟩ := same_self h4 hgm (by omega)
    obtain ⟨K3, e2⟩ := same_self h4 hrg (by omega)
    have e3 := min_f h1 h4 hG hl
    have e4 : pack_Radical.f n ys = some (minL n (ys.map radL), 0) := by
      unfold pack_Radical.f
      rw [if_pos hE, hrr]
    rw [hE] at h18
    exact minimals_good n A c xs w hr hc K0 ys hls K1 trivial (minL n ys) (minL n (ys.map radL)) K2 K3 e3 e4 h18 e1 e2
      (fun A c W h => refMinimal_calls n h1 h4 A c ys W h (fun x hx => (hG x hx).1) (by omega))
      (fun A c W h => refRad_calls n h1 h4 A c ys W h (fun x hx => (hG x hx).1) (by omega))
  · have e1 : pack_Minimal.f n ys = some ([], readE n ys) := by unfold pack_Minimal.f; rw [if_neg hE]
    have e2 : pack_Radical.f n ys = some ([], readE n ys) := by unfold pack_Radical.f; rw [if_neg hE]
    exact minimals_bad n A c xs w hr hc K0 ys hls K1 _ hE e1 e2 h18
end Go.Proofs.Ytmekcfkfkpbfeaa.S
