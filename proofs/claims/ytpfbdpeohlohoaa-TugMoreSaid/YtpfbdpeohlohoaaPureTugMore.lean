/- TugMore: one pull more moves the least difference by no more than it, and never makes the least load less. No condition. -/
import Derived.Test.YtpfbdpeohlohoaaLTugMore1
import Derived.Test.YtpfbdpeohlohoaaS3
import Derived.Test.YtpfbdpeohlohoaaS4
namespace Go.Proofs.Ytpfbdpeohlohoaa.Pure
open Go.RowKit Go.Proofs.Ytpfbdpeohlohoaa.LTugMore Go.Proofs.YtpfbdpeohlohoaaW.PrintWords Go.Proofs.YtpfbdpeohlohoaaW.PrintLast
open Go.Proofs.Ytpfbdpeohlohoaa.S Go.Proofs.Ytpfbdpeohlohoaa.M Go.Proofs.Ytpfbdpeohlohoaa.H Go.Proofs.Ytpfbdpeohlohoaa.Ga
theorem TugMore : wogglelaw05_TugMore.Pure := by
  intro l0 a1 a2 h1 h2 h3 h4 h5
  apply Ev.rounds
  unfold wogglelaw05_TugMore.f
  have w1 := rng_u16 h4
  have w2 := rng_u8 h5
  have hw : ∀ x ∈ l0, 0 ≤ x ∧ x ≤ 65535 := fun x hx => rng_u16 (h3 x hx)
  obtain ⟨m1, m2, m3⟩ := madeL_ok l0 8 (by omega) hw
  refine Ev.bind (made_ev l0 8 (by omega) (by omega) hw) ?_
  generalize madeL l0 8 = l at *
  have c1 := m1.1
  have hl2 : (l ++ [a1 + 1]).length = l.length + 1 := by simp
  have k1 : Ok (l ++ [a1 + 1]) := ⟨by omega, fun p hp => by
    rcases List.mem_append.1 hp with hp | hp
    · exact m1.2 p hp
    · simp at hp; omega⟩
  have b1 : bad l 14 = 0 := bad_ok.2 ⟨by omega, m1⟩
  have b2 : bad (l ++ [a1 + 1]) 14 = 0 := bad_ok.2 ⟨by omega, k1⟩
  have b3 : bad l 10 = 0 := bad_ok.2 ⟨by omega, m1⟩
  have b4 : bad (l ++ [a1 + 1]) 10 = 0 := bad_ok.2 ⟨by omega, k1⟩
  obtain ⟨K, hK, hK2, hK3⟩ : ∃ K : Int, wrap64 (Int.tmod (wrap64 a2) 4 + 1) = K ∧ 1 ≤ K ∧ K ≤ 4 := by
    rw [w64 (x := a2) (by omega) (by omega), Int.tmod_eq_emod_of_nonneg (by omega)]
    exact ⟨a2 % 4 + 1, w64 (by omega) (by omega), by omega, by omega⟩
  have y1 := whyB_ok.2 ⟨b3, hK2, hK3⟩
  have y2 := whyB_ok.2 ⟨b4, hK2, hK3⟩
  rw [hK, w64 (x := a1) (by omega) (by omega), w64 (x := a1 + 1) (by omega) (by omega)]
  simp only [Option.bind_some, List.nil_append]
  simp only [if_pos (show ([] : List Int).length + l.length < 17592186044416 by simp; omega), if_pos (show l.length < 17592186044416 by omega)]
  obtain ⟨o1, t1, f1⟩ := Teams_ev l K (by omega)
  obtain ⟨o2, t2, f2⟩ := Teams_ev (l ++ [a1 + 1]) K (by omega)
  have s1 := split_ev l (by omega)
  have s2 := split_ev (l ++ [a1 + 1]) (by omega)
  rw [if_pos b1] at s1
  rw [if_pos b2] at s2
  rw [if_pos y1] at t1
  rw [if_pos y2] at t2
  have d1 := (fnd_all l (by omega)).1
  have d2 := (fnd_all (l ++ [a1 + 1]) (by omega)).1
  have e1 := (fnd_all l (by omega))
  have dm := d1.more (p := a1 + 1) (by omega) d2
  have lm := (f1 y1).least.more (p := a1 + 1) (by omega) (f2 y2).least
  have g1 := Least.range d1 (m1.sm (by omega))
  have g2 := Least.range d2 (k1.sm (by omega))
  refine Ev.bind s1 (Ev.bind s2 (Ev.bind t1 (Ev.bind t2 ?_)))
  simp only [if_true]
  rw [w64 (x := (fnd pAll l).1 - (fnd pAll (l ++ [a1 + 1])).1) (by omega) (by omega), w64 (x := (fnd pAll (l ++ [a1 + 1])).1 - (fnd pAll l).1) (by omega) (by omega)]
  have q : mx ((fnd pAll l).1 - (fnd pAll (l ++ [a1 + 1])).1) ((fnd pAll (l ++ [a1 + 1])).1 - (fnd pAll l).1) ≤ a1 + 1 := by unfold mx; split <;> omega
  exact Ev.congr (f := fun _ => some true) (fun k => by rw [if_pos q, if_pos lm]; simp [tug_lives.f]) (Ev.now _)
end Go.Proofs.Ytpfbdpeohlohoaa.Pure
