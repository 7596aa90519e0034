/- TugWays: Ways returns the number of sides with a difference, or the error that the document names. No condition. -/
import Derived.Test.YtpfbdpeohlohoaaLTugWays1
import Derived.Test.YtpfbdpeohlohoaaS3
namespace Go.Proofs.Ytpfbdpeohlohoaa.Pure
open Go.RowKit Go.Proofs.Ytpfbdpeohlohoaa.LTugWays Go.Proofs.YtpfbdpeohlohoaaW.PrintWords Go.Proofs.YtpfbdpeohlohoaaW.PrintLast
open Go.Proofs.Ytpfbdpeohlohoaa.S Go.Proofs.Ytpfbdpeohlohoaa.M Go.Proofs.Ytpfbdpeohlohoaa.H Go.Proofs.Ytpfbdpeohlohoaa.Ga
theorem TugWays : wogglelaw05_TugWays.Pure := by
  intro l0 d h1 h2 h3 h4
  apply Ev.rounds
  unfold wogglelaw05_TugWays.f
  simp only [cut_is, Option.bind_some]
  have hl : (l0.take 15).length < 1000000 := by rw [List.length_take]; omega
  generalize l0.take 15 = l at *
  refine Ev.bind (ways_ev l d hl) (Ev.bind (pulls_ev l 14 hl) ?_)
  by_cases c : bad l 14 = 0
  · have ho := bad_ok.1 c
    rw [if_pos c]
    simp only [if_pos c]
    by_cases c2 : d < 0
    · rw [if_pos c2, decide_eq_true c2]
      refine Ev.step (f := fun k => wogglelaw05_TugWays.j1 k d l 0 1 1) (fun k => by simp [wogglelaw05_TugWays.j0]) ?_
      exact Ev.step (f := fun _ => some true) (fun k => by simp [wogglelaw05_TugWays.j1, tug_lives.f]) (Ev.now _)
    · rw [if_neg c2, decide_eq_false c2]
      refine Ev.step (f := fun k => wogglelaw05_TugWays.j1 k d l (S.ways l d) 0 0) (fun k => by simp [wogglelaw05_TugWays.j0, c]) ?_
      refine Ev.step (f := fun k => (woggleref05_Ways.f k l d).bind fun t107 => (if S.ways l d = t107 then ((tug_lives.f).bind fun t108 => (some t108)) else (some false))) (fun k => by simp [wogglelaw05_TugWays.j1]) ?_
      refine Ev.bind (rways_ev l d ho.2 (by omega)) ?_
      exact Ev.congr (f := fun _ => some true) (fun k => by simp [tug_lives.f]) (Ev.now _)
  · rw [if_neg c]
    simp only [if_neg c]
    refine Ev.step (f := fun k => wogglelaw05_TugWays.j1 k d l 0 (bad l 14) (bad l 14)) (fun k => by simp [wogglelaw05_TugWays.j0]) ?_
    exact Ev.step (f := fun _ => some true) (fun k => by simp [wogglelaw05_TugWays.j1, tug_lives.f, c]) (Ev.now _)
end Go.Proofs.Ytpfbdpeohlohoaa.Pure
