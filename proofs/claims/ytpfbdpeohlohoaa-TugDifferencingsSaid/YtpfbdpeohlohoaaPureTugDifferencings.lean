/- TugDifferencings: Differencing answers as the reference, or with the error that the document names. No condition. -/
import Derived.Test.YtpfbdpeohlohoaaLTugDifferencings1
import Derived.Test.YtpfbdpeohlohoaaS7
namespace Go.Proofs.Ytpfbdpeohlohoaa.Pure
open Go.RowKit Go.Proofs.Ytpfbdpeohlohoaa.LTugDifferencings Go.Proofs.YtpfbdpeohlohoaaW.PrintWords Go.Proofs.YtpfbdpeohlohoaaW.PrintLast
open Go.Proofs.Ytpfbdpeohlohoaa.S Go.Proofs.Ytpfbdpeohlohoaa.M Go.Proofs.Ytpfbdpeohlohoaa.H Go.Proofs.Ytpfbdpeohlohoaa.Ga
theorem TugDifferencings : wogglelaw05_TugDifferencings.Pure := by
  intro l0 h1 h2 h3
  apply Ev.rounds
  unfold wogglelaw05_TugDifferencings.f
  simp only [cut_is, Option.bind_some]
  have hl : (l0.take 15).length < 1000000 := by rw [List.length_take]; omega
  generalize l0.take 15 = l at *
  by_cases c : bad l 14 = 0
  · obtain ⟨h4, h5⟩ := bad_ok.1 c
    obtain ⟨r, r1, r2, r3⟩ := Differencing_both l h5 (by omega)
    refine Ev.bind r1 (Ev.bind (pulls_ev l 14 hl) ?_)
    refine Ev.congr (fun k => by rw [if_pos c]) (Ev.bind r2 ?_)
    simp only [if_true]
    refine Ev.bind (same_ev r.2 (by omega)) ?_
    exact Ev.congr (f := fun _ => some true) (fun k => by simp [tug_lives.f]) (Ev.now _)
  · obtain ⟨o, d1, _⟩ := Differencing_ev l hl
    rw [if_neg c] at d1
    refine Ev.bind d1 (Ev.bind (pulls_ev l 14 hl) ?_)
    simp only [if_neg c]
    exact Ev.congr (f := fun _ => some true) (fun k => by simp [tug_lives.f]) (Ev.now _)
end Go.Proofs.Ytpfbdpeohlohoaa.Pure
