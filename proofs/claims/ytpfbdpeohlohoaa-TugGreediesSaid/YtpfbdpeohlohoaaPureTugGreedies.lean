/- TugGreedies: Greedy and Bound answer as the reference, or with the error that the document names. No condition. -/
import Derived.Test.YtpfbdpeohlohoaaLTugGreedies1
import Derived.Test.YtpfbdpeohlohoaaS11
namespace Go.Proofs.Ytpfbdpeohlohoaa.Pure
open Go.RowKit Go.Proofs.Ytpfbdpeohlohoaa.LTugGreedies Go.Proofs.YtpfbdpeohlohoaaW.PrintWords Go.Proofs.YtpfbdpeohlohoaaW.PrintLast
open Go.Proofs.Ytpfbdpeohlohoaa.S Go.Proofs.Ytpfbdpeohlohoaa.M Go.Proofs.Ytpfbdpeohlohoaa.H Go.Proofs.Ytpfbdpeohlohoaa.Ga
theorem TugGreedies : wogglelaw05_TugGreedies.Pure := by
  intro l0 K h1 h2 h3 h4
  apply Ev.rounds
  unfold wogglelaw05_TugGreedies.f
  simp only [cut_is, Option.bind_some]
  have hl : (l0.take 15).length < 1000000 := by rw [List.length_take]; omega
  generalize l0.take 15 = l at *
  have g := Greedy_ev l K hl
  have b := Bound_ev l K hl
  refine Ev.bind g (Ev.bind b (Ev.bind (why_ev l 14 K hl) ?_))
  by_cases c : whyB l 14 K = 0
  · obtain ⟨c1, c2, c3⟩ := whyB_ok.1 c
    obtain ⟨c4, c5⟩ := bad_ok.1 c1
    have hs := c5.sz (by omega)
    obtain ⟨v1, v2, v3⟩ := gall_spec l hs c5.1 K.toNat (by omega)
    have r1 := rGreedy_ev l hs c5.1 K.toNat (by omega) (by omega)
    have r2 := load_ev l _ K.toNat hs v1 (by omega)
    have r3 := rBound_ev l K.toNat c5 (by omega) (by omega) (by omega)
    rw [Int.toNat_of_nonneg (by omega)] at r1 r2 r3
    simp only [if_pos c]
    refine Ev.bind r1 (Ev.bind r2 ?_)
    refine Ev.congr (fun k => by rw [if_pos v3.symm]) (Ev.bind (same_ev _ (by have := v1.1; omega)) ?_)
    simp only [if_true]
    refine Ev.bind r3 ?_
    exact Ev.congr (f := fun _ => some true) (fun k => by simp [tug_lives.f]) (Ev.now _)
  · simp only [if_neg c]
    exact Ev.congr (f := fun _ => some true) (fun k => by simp [tug_lives.f]) (Ev.now _)
end Go.Proofs.Ytpfbdpeohlohoaa.Pure
