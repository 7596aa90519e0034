/- TugLeast: Split's and Even's sides have the differences that they return, Even's and Differencing's are no less than Split's, and no sides have less than Split's. No condition. -/
import Derived.Test.YtpfbdpeohlohoaaLTugLeast1
import Derived.Test.YtpfbdpeohlohoaaS6
namespace Go.Proofs.Ytpfbdpeohlohoaa.Pure
open Go.RowKit Go.Proofs.Ytpfbdpeohlohoaa.LTugLeast Go.Proofs.YtpfbdpeohlohoaaW.PrintWords Go.Proofs.YtpfbdpeohlohoaaW.PrintLast
open Go.Proofs.Ytpfbdpeohlohoaa.S Go.Proofs.Ytpfbdpeohlohoaa.M Go.Proofs.Ytpfbdpeohlohoaa.H Go.Proofs.Ytpfbdpeohlohoaa.Ga
/-- The sides that the law makes of its second input. -/
def msd (x1 : List Int) (i : Nat) : Int := if 0 < i ∧ i < x1.length then x1.getD i 0 % 2 else 0
theorem sum1_take {e : List Int} (he : Bin e) : ∀ i, 0 ≤ sum1 (e.take i) ∧ sum1 (e.take i) ≤ (i : Int)
  | 0 => by simp [sum1]
  | i + 1 => by
    have ih := sum1_take he i
    by_cases c : i < e.length
    · have hx := he e[i] (List.getElem_mem c)
      have : sum1 (e.take i ++ [e[i]]) = sum1 (e.take i) + e[i] := by
        generalize e.take i = a
        induction a with
        | nil => simp [sum1]
        | cons x a ih => simp only [List.cons_append, sum1, ih]; omega
      rw [List.take_succ_eq_append_getElem c, this]
      omega
    · rw [List.take_of_length_le (by omega)] at ih ⊢
      omega
theorem sum1_snoc (a : List Int) (y : Int) : sum1 (a ++ [y]) = sum1 a + y := by
  induction a with
  | nil => simp [sum1]
  | cons x a ih => simp only [List.cons_append, sum1, ih]; omega
theorem least_loop (x1 l : List Int) (x6 : Int) (e : List Int) (hs : Sm l) (hx1 : x1.length < 1000000000000000) (hw : ∀ x ∈ x1, 0 ≤ x ∧ x ≤ 255) (he : Bin e) (hel : e.length = l.length) (hc : okc true (cnt e)) (hL : Least false l x6) : ∀ (d i : Nat), i + d = l.length → Ev (fun k => wogglelaw05_TugLeast.l0 k x1 l x6 e (sum1 (e.take i)) ((List.range i).map (msd x1)) (i : Int)) true
  | 0, i, h => by
    have hlen := hs.1
    have hi : i = l.length := by omega
    rw [List.take_of_length_le (by omega), hi]
    have hb : Bin ((List.range l.length).map (msd x1)) := fun x hx => by
      obtain ⟨j, _, rfl⟩ := List.mem_map.1 hx
      unfold msd
      split <;> omega
    have hbl : ((List.range l.length).map (msd x1)).length = l.length := by simp
    have hq := cnt_sum1 e
    have hc2 : cnt e = 0 ∨ cnt e = 1 ∨ cnt e = -1 := hc rfl
    have hsum := sum1_take he e.length
    rw [List.take_of_length_le (Nat.le_refl _)] at hsum
    have hle := hL.2 _ _ (reach_of l _ hb hbl) (fun h => by simp at h)
    refine Ev.step (f := fun k => (woggleref05_Difference.f k l ((List.range l.length).map (msd x1))).bind fun t138 => (some (decide (t138 ≥ x6)))) (fun k => ?_) (Ev.bind (rdiff_ev l _ hs hb (by omega)) ?_)
    · simp only [wogglelaw05_TugLeast.l0]
      rw [if_neg (by omega), w64 (x := 2 * sum1 e) (by omega) (by omega), w64 (x := (l.length : Int) - 2 * sum1 e) (by omega) (by omega), if_pos (by omega), if_pos (by omega)]
    · exact Ev.congr (f := fun _ => some true) (fun k => by rw [decide_eq_true (show dif l ((List.range l.length).map (msd x1)) ≥ x6 from hle)]) (Ev.now _)
  | d + 1, i, h => by
    have hlen := hs.1
    have ih := least_loop x1 l x6 e hs hx1 hw he hel hc hL d (i + 1) (by omega)
    have hb := sum1_take he i
    have hx := he e[i] (List.getElem_mem (by omega))
    rw [List.take_succ_eq_append_getElem (show i < e.length by omega), sum1_snoc, List.range_succ, List.map_append] at ih
    refine Ev.step (fun k => ?_) ih
    simp only [wogglelaw05_TugLeast.l0]
    rw [if_pos (by omega), if_pos (by omega), if_pos (by omega), rd_at e i (by omega), w64 (x := sum1 (e.take i) + e[i]) (by omega) (by omega), w64 (x := (i : Int) + 1) (by omega) (by omega)]
    by_cases c1 : 0 < i
    · rw [if_pos (by omega)]
      by_cases c2 : i < x1.length
      · have hy := hw x1[i] (List.getElem_mem c2)
        rw [if_pos (by omega), if_pos (by simp; omega), rd_at x1 i c2, w64 (x := x1[i]) (by omega) (by omega), Int.tmod_eq_emod_of_nonneg (by omega)]
        have e2 : msd x1 i = x1[i] % 2 := by
          unfold msd
          rw [if_pos ⟨c1, c2⟩, List.getD_eq_getElem?_getD, List.getElem?_eq_getElem c2, Option.getD_some]
        simp only [List.map_cons, List.map_nil, e2]
        rfl
      · rw [if_neg (by omega), if_pos (by simp; omega)]
        have e2 : msd x1 i = 0 := by
          unfold msd
          rw [if_neg (by omega)]
        simp only [List.map_cons, List.map_nil, e2]
        rfl
    · rw [if_neg (by omega), if_pos (by simp; omega)]
      have e2 : msd x1 i = 0 := by
        unfold msd
        rw [if_neg (by omega)]
      simp only [List.map_cons, List.map_nil, e2]
      rfl
theorem TugLeast : wogglelaw05_TugLeast.Pure := by
  intro l0 l1 h1 h2 h3 h4 h5 h6
  apply Ev.rounds
  unfold wogglelaw05_TugLeast.f
  have hw : ∀ x ∈ l0, 0 ≤ x ∧ x ≤ 65535 := fun x hx => rng_u16 (h3 x hx)
  have hw1 : ∀ x ∈ l1, 0 ≤ x ∧ x ≤ 255 := fun x hx => rng_u8 (h6 x hx)
  obtain ⟨m1, m2, m3⟩ := madeL_ok l0 14 (by omega) hw
  refine Ev.bind (made_ev l0 14 (by omega) (by omega) hw) ?_
  generalize madeL l0 14 = l at *
  have c1 := m1.1
  have hs := m1.sm (by omega)
  have b1 : bad l 14 = 0 := bad_ok.2 ⟨by omega, m1⟩
  obtain ⟨o, d1, d2⟩ := Differencing_ev l (by omega)
  obtain ⟨o1, o2, o3, o4⟩ := d2 b1
  rw [if_pos b1] at d1
  have s1 := split_ev l (by omega)
  have s2 := evens_ev l (by omega)
  rw [if_pos b1] at s1 s2
  obtain ⟨a1, a2, a3, a4, a5, a6⟩ := fnd_all l c1
  obtain ⟨e1, e2, e3, e4, e5, e6, e7⟩ := fnd_even l c1
  refine Ev.bind s1 (Ev.bind s2 (Ev.bind d1 ?_))
  simp only [if_true]
  have q1 : sidB l.length (fnd pAll l).2 = true := decide_eq_true ⟨a3, a4, c1, a5⟩
  have q2 : sidB l.length (fnd pEven l).2 = true := decide_eq_true ⟨e3, e4, c1, e5⟩
  have r1 : (fnd pAll l).1 ≤ (fnd pEven l).1 := by
    rw [e2]
    exact a1.2 _ _ (reach_of l _ e3 e4) (fun h => by simp at h)
  have r2 : (fnd pAll l).1 ≤ kvf (l.length - 1) l := by
    rw [← o4]
    exact a1.2 _ _ (reach_of l _ o1 o2) (fun h => by simp at h)
  refine Ev.bind (rsides_check_ev l.length _ (by omega)) ?_
  refine Ev.congr (fun k => by rw [if_pos q1]) (Ev.bind (rsides_check_ev l.length _ (by omega)) ?_)
  refine Ev.congr (fun k => by rw [if_pos q2]) (Ev.bind (rdiff_ev l _ hs a3 (by omega)) ?_)
  refine Ev.congr (fun k => by rw [if_pos a2.symm]) (Ev.bind (rdiff_ev l _ hs e3 (by omega)) ?_)
  refine Ev.congr (f := fun k => wogglelaw05_TugLeast.j0 k l1 l (fnd pAll l).1 (fnd pEven l).2 false) (fun k => by rw [if_pos e2.symm, if_neg (by omega), if_neg (by omega)]; simp [tug_lives.f]) ?_
  refine Ev.step (f := fun k => wogglelaw05_TugLeast.l0 k l1 l (fnd pAll l).1 (fnd pEven l).2 0 [] 0) (fun k => by simp only [wogglelaw05_TugLeast.j0]; rw [if_neg (by simp)]) ?_
  exact least_loop l1 l (fnd pAll l).1 (fnd pEven l).2 hs (by omega) hw1 e3 e4 e6 a1 l.length 0 (by omega)
end Go.Proofs.Ytpfbdpeohlohoaa.Pure
