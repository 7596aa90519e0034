/- TugSides: Differencing's sides are sides with the difference that it returns; with at most four pulls it is the least. No condition. -/
import Derived.Test.YtpfbdpeohlohoaaLTugSides1
import Derived.Test.YtpfbdpeohlohoaaS6
namespace Go.Proofs.Ytpfbdpeohlohoaa.Pure
open Go.RowKit Go.Proofs.Ytpfbdpeohlohoaa.LTugSides Go.Proofs.YtpfbdpeohlohoaaW.PrintWords Go.Proofs.YtpfbdpeohlohoaaW.PrintLast
open Go.Proofs.Ytpfbdpeohlohoaa.S Go.Proofs.Ytpfbdpeohlohoaa.M Go.Proofs.Ytpfbdpeohlohoaa.H Go.Proofs.Ytpfbdpeohlohoaa.Ga
theorem TugSides : wogglelaw05_TugSides.Pure := by
  intro l0 h1 h2 h3
  apply Ev.rounds
  unfold wogglelaw05_TugSides.f
  have hw : ∀ x ∈ l0, 0 ≤ x ∧ x ≤ 65535 := fun x hx => rng_u16 (h3 x hx)
  obtain ⟨m1, m2, m3⟩ := madeL_ok l0 14 (by omega) hw
  refine Ev.bind (made_ev l0 14 (by omega) (by omega) hw) ?_
  generalize madeL l0 14 = l at *
  have c1 := m1.1
  have hs := m1.sm (by omega)
  have b1 : bad l 14 = 0 := bad_ok.2 ⟨by omega, m1⟩
  obtain ⟨o, d1, d2⟩ := Differencing_ev l (by omega)
  obtain ⟨o1, o2, o3, o4⟩ := d2 b1
  rw [if_pos b1] at d1
  refine Ev.bind d1 ?_
  simp only [if_true]
  have q : sidB l.length o = true := by
    unfold sidB
    exact decide_eq_true ⟨o1, o2, c1, o3⟩
  refine Ev.bind (rsides_check_ev l.length o (by omega)) ?_
  refine Ev.congr (fun k => by rw [if_pos q]) (Ev.bind (rdiff_ev l o hs o1 (by omega)) ?_)
  refine Ev.congr (f := fun k => wogglelaw05_TugSides.j0 k l false) (fun k => by rw [if_pos o4]; simp [tug_lives.f]) ?_
  obtain ⟨n, hn, hn2, hn3⟩ : ∃ n : Nat, mn (l.length : Int) 4 = (n : Int) ∧ n ≤ l.length ∧ n ≤ 4 ∧ 0 < n := by
    rw [mn_is]
    by_cases c : (4 : Int) < (l.length : Int)
    · exact ⟨4, by rw [if_pos c]; rfl, by omega, by omega, by omega⟩
    · exact ⟨l.length, by rw [if_neg c], by omega, by omega, by omega⟩
  have hlen : (l.take n).length = n := by rw [List.length_take]; omega
  have k1 : Ok (l.take n) := ⟨by omega, fun p hp => m1.2 p (List.mem_of_mem_take hp)⟩
  have b2 : bad (l.take n) 14 = 0 := bad_ok.2 ⟨by omega, k1⟩
  obtain ⟨o', g1, g2⟩ := Differencing_ev (l.take n) (by omega)
  rw [if_pos b2] at g1
  have s1 := split_ev (l.take n) (by omega)
  rw [if_pos b2] at s1
  have e : (fnd pAll (l.take n)).1 = kvf ((l.take n).length - 1) (l.take n) := by
    have hp := dsort_perm (l.take n)
    refine Least.unique (fnd_all (l.take n) (by omega)).1 ⟨?_, fun a c r _ => ?_⟩
    · obtain ⟨x1, x2, x3, x4⟩ := g2 b2
      exact ⟨sg (l.take n) o', cnt o', reach_of _ _ x1 x2, (fun h => by simp at h), x4⟩
    · rw [kvf_perm _ hp.symm (by omega)]
      exact kv_le _ (dsort (l.take n)) (by rw [dsort_length]; omega) (by omega) (fun p hp2 => by have := k1.2 p (hp.mem_iff.1 hp2); omega) (dsort_desc _) a c (r.perm hp.symm)
  refine Ev.step (f := fun k => (tug_Split.f k (l.take n)).bind fun bt116 => ((tug_Differencing.f k (l.take n)).bind fun bt121 => (if bt116.2.2 = 0 then (if bt121.2.2 = 0 then (some (bt116.1 == bt121.1)) else (some false)) else (some false)))) (fun k => by
    simp only [wogglelaw05_TugSides.j0]
    rw [if_neg (by simp), hn, if_pos (by omega), if_pos (by omega), Int.toNat_natCast, Option.bind_some]) ?_
  refine Ev.bind s1 (Ev.bind g1 ?_)
  refine Ev.congr (f := fun _ => some true) (fun k => ?_) (Ev.now _)
  simp only [if_true]
  rw [e]
  simp
end Go.Proofs.Ytpfbdpeohlohoaa.Pure
