/- TugDifferences: Difference returns the difference of sides, or the error that the document names, for all numbers. No condition. -/
import Derived.Test.YtpfbdpeohlohoaaLTugDifferences1
import Derived.Test.YtpfbdpeohlohoaaS3
namespace Go.Proofs.Ytpfbdpeohlohoaa.Pure
open Go.RowKit Go.Proofs.Ytpfbdpeohlohoaa.LTugDifferences Go.Proofs.YtpfbdpeohlohoaaW.PrintWords Go.Proofs.YtpfbdpeohlohoaaW.PrintLast
open Go.Proofs.Ytpfbdpeohlohoaa.S Go.Proofs.Ytpfbdpeohlohoaa.M Go.Proofs.Ytpfbdpeohlohoaa.H Go.Proofs.Ytpfbdpeohlohoaa.Ga
theorem TugDifferences : wogglelaw05_TugDifferences.Pure := by
  intro l0 s0 h1 h2 h3 h4 h5 h6
  apply Ev.rounds
  unfold wogglelaw05_TugDifferences.f
  have e0 : 0 ≤ mn (s0.length : Int) 15 ∧ mn (s0.length : Int) 15 ≤ (s0.length : Int) ∧ mn (s0.length : Int) 15 ≤ 15 := by rw [mn_is]; split <;> omega
  have e1 : ([] : List Int).length + (s0.take (mn (s0.length : Int) 15).toNat).length < 17592186044416 := by rw [List.length_take]; simp; omega
  simp only [cut_is, Option.bind_some]
  simp only [if_pos e0.1, if_pos e0.2.1, if_pos e1, Option.bind_some, List.nil_append]
  have hl : (l0.take 15).length < 1000000 := by rw [List.length_take]; omega
  have hs : (s0.take (mn (s0.length : Int) 15).toNat).length < 1000000 := by rw [List.length_take]; omega
  generalize l0.take 15 = l at *
  generalize s0.take (mn (s0.length : Int) 15).toNat = s at *
  refine Ev.bind (Difference_ev l s hl hs) (Ev.bind (pulls_ev l 14 hl) ?_)
  by_cases c : bad l 14 = 0
  · have ho := bad_ok.1 c
    simp only [if_pos c]
    refine Ev.bind (rsides_check_ev l.length s hs) ?_
    by_cases c2 : sidB l.length s = true
    · simp only [c2, if_true]
      have hv := c2
      unfold sidB at hv
      rw [decide_eq_true_iff] at hv
      refine Ev.step (f := fun k => wogglelaw05_TugDifferences.j1 k l s (dif l s) 0 0) (fun k => by simp [wogglelaw05_TugDifferences.j0, c]) ?_
      refine Ev.step (f := fun k => (woggleref05_Difference.f k l s).bind fun t115 => (if dif l s = t115 then (if (0 : Int) = 0 then ((tug_lives.f).bind fun t116 => (some t116)) else (some false)) else (some false))) (fun k => by simp only [wogglelaw05_TugDifferences.j1, if_true]) ?_
      refine Ev.bind (rdiff_ev l s (ho.2.sm (by omega)) hv.1 (by omega)) ?_
      exact Ev.congr (f := fun _ => some true) (fun k => by simp [tug_lives.f]) (Ev.now _)
    · have c3 : sidB l.length s = false := by simpa using c2
      simp only [c3]
      refine Ev.step (f := fun k => wogglelaw05_TugDifferences.j1 k l s 0 2 2) (fun k => by simp [wogglelaw05_TugDifferences.j0]) ?_
      exact Ev.step (f := fun _ => some true) (fun k => by simp [wogglelaw05_TugDifferences.j1, tug_lives.f]) (Ev.now _)
  · simp only [if_neg c]
    refine Ev.step (f := fun k => wogglelaw05_TugDifferences.j1 k l s 0 (bad l 14) (bad l 14)) (fun k => by simp [wogglelaw05_TugDifferences.j0]) ?_
    exact Ev.step (f := fun _ => some true) (fun k => by simp [wogglelaw05_TugDifferences.j1, tug_lives.f, c]) (Ev.now _)
end Go.Proofs.Ytpfbdpeohlohoaa.Pure
