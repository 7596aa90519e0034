/- TugSplits: Split and Even return the least difference and the first sides with it, or the errors that the document names. No condition. -/
import Derived.Test.YtpfbdpeohlohoaaLTugSplits1
import Derived.Test.YtpfbdpeohlohoaaS3
namespace Go.Proofs.Ytpfbdpeohlohoaa.Pure
open Go.RowKit Go.Proofs.Ytpfbdpeohlohoaa.LTugSplits Go.Proofs.YtpfbdpeohlohoaaW.PrintWords Go.Proofs.YtpfbdpeohlohoaaW.PrintLast
open Go.Proofs.Ytpfbdpeohlohoaa.S Go.Proofs.Ytpfbdpeohlohoaa.M Go.Proofs.Ytpfbdpeohlohoaa.H Go.Proofs.Ytpfbdpeohlohoaa.Ga
theorem TugSplits : wogglelaw05_TugSplits.Pure := by
  intro l0 h1 h2 h3
  apply Ev.rounds
  unfold wogglelaw05_TugSplits.f
  simp only [cut_is, Option.bind_some]
  have hl : (l0.take 15).length < 1000000 := by rw [List.length_take]; omega
  generalize l0.take 15 = l at *
  refine Ev.bind (split_ev l hl) (Ev.bind (evens_ev l hl) (Ev.bind (pulls_ev l 14 hl) ?_))
  by_cases c : bad l 14 = 0
  · have ho := bad_ok.1 c
    simp only [if_pos c]
    have b1 := best_ev false l ho.2 (by omega)
    have b2 := best_ev true l ho.2 (by omega)
    obtain ⟨a1, a2, a3, a4, a5, a6⟩ := fnd_all l ho.2.1
    obtain ⟨e1, e2, e3, e4, e5, e6, e7⟩ := fnd_even l ho.2.1
    have b1' : Ev (fun k => ref_Best.f k l false) ((fnd pAll l).2, (fnd pAll l).1) := Ev.to b1 a6
    have b2' : Ev (fun k => ref_Best.f k l true) ((fnd pEven l).2, (fnd pEven l).1) := Ev.to b2 e7
    refine Ev.bind b1' (Ev.bind b2' ?_)
    simp only [if_true]
    refine Ev.bind (same_ev _ (by rw [a4]; exact hl)) ?_
    simp only [if_true]
    refine Ev.bind (same_ev _ (by rw [e4]; exact hl)) ?_
    simp only [if_true]
    exact Ev.now true
  · simp only [if_neg c]
    refine Ev.congr (f := fun _ => some true) (fun k => ?_) (Ev.now _)
    simp only [if_true, List.length_nil]
    rw [if_pos (by unfold wrap64; decide)]
    rfl
end Go.Proofs.Ytpfbdpeohlohoaa.Pure
