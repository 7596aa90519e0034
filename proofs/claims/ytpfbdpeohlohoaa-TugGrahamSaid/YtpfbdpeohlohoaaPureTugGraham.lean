/- TugGraham: the bound is no greater than the least load, that no greater than the greedy one, and that is within Graham's bound of it. No condition. -/
import Derived.Test.YtpfbdpeohlohoaaLTugGraham1
import Derived.Test.YtpfbdpeohlohoaaS3
import Derived.Test.YtpfbdpeohlohoaaS8
import Derived.Test.YtpfbdpeohlohoaaS9
namespace Go.Proofs.Ytpfbdpeohlohoaa.Pure
open Go.RowKit Go.Proofs.Ytpfbdpeohlohoaa.LTugGraham Go.Proofs.YtpfbdpeohlohoaaW.PrintWords Go.Proofs.YtpfbdpeohlohoaaW.PrintLast
open Go.Proofs.Ytpfbdpeohlohoaa.S Go.Proofs.Ytpfbdpeohlohoaa.M Go.Proofs.Ytpfbdpeohlohoaa.H Go.Proofs.Ytpfbdpeohlohoaa.Ga
theorem TugGraham : wogglelaw05_TugGraham.Pure := by
  intro l0 a1 h1 h2 h3 h5
  apply Ev.rounds
  unfold wogglelaw05_TugGraham.f
  have w2 := rng_u8 h5
  have hw : ∀ x ∈ l0, 0 ≤ x ∧ x ≤ 65535 := fun x hx => rng_u16 (h3 x hx)
  obtain ⟨m1, m2, m3⟩ := madeL_ok l0 8 (by omega) hw
  refine Ev.bind (made_ev l0 8 (by omega) (by omega) hw) ?_
  generalize madeL l0 8 = l at *
  have c1 := m1.1
  have hs := m1.sz (by omega)
  have b1 : bad l 14 = 0 := bad_ok.2 ⟨by omega, m1⟩
  have b3 : bad l 10 = 0 := bad_ok.2 ⟨by omega, m1⟩
  obtain ⟨K, hK, hK2, hK3⟩ : ∃ K : Nat, wrap64 (Int.tmod (wrap64 a1) 4 + 1) = (K : Int) ∧ 1 ≤ K ∧ K ≤ 4 := by
    rw [w64 (x := a1) (by omega) (by omega), Int.tmod_eq_emod_of_nonneg (by omega)]
    exact ⟨(a1 % 4 + 1).toNat, by rw [w64 (by omega) (by omega)]; omega, by omega, by omega⟩
  have y1 : whyB l 10 (K : Int) = 0 := whyB_ok.2 ⟨b3, by omega, by omega⟩
  have y2 : whyB l 14 (K : Int) = 0 := whyB_ok.2 ⟨b1, by omega, by omega⟩
  rw [hK]
  obtain ⟨o, t1, f1⟩ := Teams_ev l (K : Int) (by omega)
  have F := f1 y1
  rw [if_pos y1] at t1
  have g1 := Greedy_ev l (K : Int) (by omega)
  rw [if_pos y2] at g1
  have d1 := Bound_ev l (K : Int) (by omega)
  rw [if_pos y2] at d1
  rw [Int.toNat_natCast] at F t1 g1
  obtain ⟨v1, v2, v3⟩ := gall_spec l hs c1 K (by omega)
  have hL := F.least
  have q1 : bval l (K : Int) ≤ ld K l o := bval_le l K hs c1 (by omega) hL
  have q2 : ld K l o ≤ vmx (grs K (dsort l)) := by rw [← v3]; exact hL.2 _ v1
  obtain ⟨⟨T, u1, u2⟩, _⟩ := hL.perm (dsort_perm l).symm
  have q3 := graham (by omega) hK3 (dsort l).length (dsort l) T rfl (fun x hx => by have := m1.2 x ((dsort_perm l).mem_iff.1 hx); omega) (dsort_desc l) u1
  rw [u2] at q3
  have hub : ld K l o ≤ 1000000 * 8 := by
    have := lsum_bound (m1.sm (by omega)) l.length
    rw [List.take_of_length_le (Nat.le_refl _)] at this
    have h1 : ld K l o ≤ lsum l := mxk_least (by omega) (fun t ht => by
      rw [← tl_sum F.1]
      have : ∀ k : Nat, t < k → tl l o (t : Int) ≤ sumk (fun t => tl l o (t : Int)) k := fun k => by
        induction k with
        | zero => intro h; omega
        | succ k ih =>
          intro h
          have hn := fun t : Int => tl_nonneg (l := l) (T := o) (t := t) (fun p hp => (hs.2 p hp).1)
          have hsn : ∀ k, 0 ≤ sumk (fun t : Nat => tl l o (t : Int)) k := fun k => by
            induction k with
            | zero => exact Int.le_refl 0
            | succ k ih => have := hn (k : Int); simp only [sumk]; omega
          simp only [sumk]
          by_cases e : t = k
          · subst e; have := hsn t; omega
          · have := ih (by omega); have := hn (k : Int); omega
      exact this K ht)
    omega
  have hnn : 0 ≤ ld K l o := mxk_nonneg _ _
  have hub2 : vmx (grs K (dsort l)) ≤ 200000000 := by
    have e : vmx (grs K (dsort l)) ≤ 3 * (K : Int) * vmx (grs K (dsort l)) := by
      have h0 : 0 ≤ vmx (grs K (dsort l)) := by omega
      have : 1 * vmx (grs K (dsort l)) ≤ 3 * (K : Int) * vmx (grs K (dsort l)) := Int.mul_le_mul_of_nonneg_right (by omega) h0
      omega
    have e2 : (4 * (K : Int) - 1) * ld K l o ≤ 15 * (1000000 * 8) := Int.mul_le_mul (by omega) hub hnn (by omega)
    omega
  have x1 : 0 ≤ 3 * (K : Int) * vmx (grs K (dsort l)) ∧ 3 * (K : Int) * vmx (grs K (dsort l)) ≤ 15 * (1000000 * 8) := by
    have e2 : (4 * (K : Int) - 1) * ld K l o ≤ 15 * (1000000 * 8) := Int.mul_le_mul (by omega) hub hnn (by omega)
    exact ⟨Int.mul_nonneg (by omega) (by omega), by omega⟩
  have x2 : 0 ≤ (4 * (K : Int) - 1) * ld K l o ∧ (4 * (K : Int) - 1) * ld K l o ≤ 15 * (1000000 * 8) := ⟨Int.mul_nonneg (by omega) hnn, Int.mul_le_mul (by omega) hub hnn (by omega)⟩
  refine Ev.bind t1 (Ev.bind g1 (Ev.bind d1 ?_))
  simp only [if_true]
  refine Ev.bind (isteams_ev l o K (by omega) (by omega) (by omega) F.1) ?_
  simp only [if_true]
  refine Ev.bind (isteams_ev l _ K (by omega) (by omega) (by omega) v1) ?_
  simp only [if_true]
  refine Ev.bind (load_ev l o K hs F.1 (by omega)) ?_
  simp only [if_true]
  refine Ev.bind (load_ev l _ K hs v1 (by omega)) ?_
  rw [w64 (x := 3 * (K : Int)) (by omega) (by omega), w64 (x := 4 * (K : Int)) (by omega) (by omega), w64 (x := 4 * (K : Int) - 1) (by omega) (by omega), w64 (x := 3 * (K : Int) * vmx (grs K (dsort l))) (by omega) (by omega), w64 (x := (4 * (K : Int) - 1) * ld K l o) (by omega) (by omega)]
  exact Ev.congr (f := fun _ => some true) (fun k => by rw [if_pos v3, if_pos q1, if_pos q2, if_pos q3]; simp [tug_lives.f]) (Ev.now _)
end Go.Proofs.Ytpfbdpeohlohoaa.Pure
