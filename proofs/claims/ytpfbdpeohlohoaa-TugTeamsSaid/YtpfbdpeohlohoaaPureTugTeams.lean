/- TugTeams: Teams returns the least load, and the first teams with it, or the error that the document names. No condition. -/
import Derived.Test.YtpfbdpeohlohoaaLTugTeams1
import Derived.Test.YtpfbdpeohlohoaaS3
import Derived.Test.YtpfbdpeohlohoaaS5
namespace Go.Proofs.Ytpfbdpeohlohoaa.Pure
open Go.RowKit Go.Proofs.Ytpfbdpeohlohoaa.LTugTeams Go.Proofs.YtpfbdpeohlohoaaW.PrintWords Go.Proofs.YtpfbdpeohlohoaaW.PrintLast
open Go.Proofs.Ytpfbdpeohlohoaa.S Go.Proofs.Ytpfbdpeohlohoaa.M Go.Proofs.Ytpfbdpeohlohoaa.H Go.Proofs.Ytpfbdpeohlohoaa.Ga
theorem j1_true (l : List Int) (K : Int) (hl : l.length < 1000000) : Ev (fun k => wogglelaw05_TugTeams.j1 k K l) true := by
  obtain ⟨o, h1, h2⟩ := Teams_ev l K hl
  refine Ev.step (f := fun k => (tug_Teams.f k l K).bind fun bt111 => ((wogglelaw05_why.f k l 10 K).bind fun t116 => (if t116 = 0 then ((ref_Teams.f k l K).bind fun t118 => ((woggleref05_Load.f k l t118 K).bind fun t121 => (if bt111.1 = t121 then ((woggleref01_Same.f k bt111.2.1 t118).bind fun t122 => (if t122 = true then (if bt111.2.2 = 0 then ((tug_lives.f).bind fun t123 => (some t123)) else (some false)) else (some false))) else (some false)))) else (if bt111.1 = 0 then (if (bt111.2.1.length : Int) = 0 then (if bt111.2.2 = t116 then ((tug_lives.f).bind fun t117 => (some t117)) else (some false)) else (some false)) else (some false))))) (fun k => by simp only [wogglelaw05_TugTeams.j1]) ?_
  refine Ev.bind h1 (Ev.bind (why_ev l 10 K hl) ?_)
  by_cases c : whyB l 10 K = 0
  · obtain ⟨c1, c2, c3⟩ := whyB_ok.1 c
    obtain ⟨c4, c5⟩ := bad_ok.1 c1
    simp only [if_pos c]
    have hs := c5.sz (by omega)
    obtain ⟨R, r1, r2⟩ := rTeams_ev l K.toNat hs c5.1 (by omega) (by omega)
    have e := (h2 c).unique r2
    subst e
    have r3 := load_ev l o K.toNat hs r2.1 (by omega)
    rw [Int.toNat_of_nonneg (by omega)] at r1 r3
    refine Ev.bind r1 (Ev.bind r3 ?_)
    simp only [if_true]
    refine Ev.bind (same_ev _ (by have := r2.1.1; omega)) ?_
    exact Ev.congr (f := fun _ => some true) (fun k => by simp [tug_lives.f]) (Ev.now _)
  · simp only [if_neg c]
    exact Ev.congr (f := fun _ => some true) (fun k => by simp [tug_lives.f]) (Ev.now _)
theorem TugTeams : wogglelaw05_TugTeams.Pure := by
  intro l0 K h1 h2 h3 h4
  apply Ev.rounds
  unfold wogglelaw05_TugTeams.f
  have e0 : 0 ≤ mn (l0.length : Int) 11 ∧ mn (l0.length : Int) 11 ≤ (l0.length : Int) ∧ mn (l0.length : Int) 11 ≤ 11 := by rw [mn_is]; split <;> omega
  have e1 : ([] : List Int).length + (l0.take (mn (l0.length : Int) 11).toNat).length < 17592186044416 := by rw [List.length_take]; simp; omega
  simp only [Option.bind_some]
  simp only [if_pos e0.1, if_pos e0.2.1, if_pos e1, Option.bind_some, List.nil_append]
  have hl : (l0.take (mn (l0.length : Int) 11).toNat).length < 1000000 := by rw [List.length_take]; omega
  generalize l0.take (mn (l0.length : Int) 11).toNat = l at *
  by_cases c : (l.length : Int) > 7
  · by_cases c2 : (l.length : Int) ≤ 10
    · refine Ev.congr (f := fun k => wogglelaw05_TugTeams.j0 k K l true) (fun k => by rw [if_pos c, decide_eq_true c2]) ?_
      refine Ev.step (fun k => ?_) (j1_true (l.take (7 : Int).toNat) K (by rw [List.length_take]; omega))
      simp only [wogglelaw05_TugTeams.j0]
      rw [if_pos trivial, if_pos (by omega)]
    · refine Ev.congr (f := fun k => wogglelaw05_TugTeams.j0 k K l false) (fun k => by rw [if_pos c, decide_eq_false c2]) ?_
      refine Ev.step (fun k => ?_) (j1_true l K hl)
      simp [wogglelaw05_TugTeams.j0]
  · refine Ev.congr (f := fun k => wogglelaw05_TugTeams.j0 k K l false) (fun k => by rw [if_neg c]) ?_
    refine Ev.step (fun k => ?_) (j1_true l K hl)
    simp [wogglelaw05_TugTeams.j0]
end Go.Proofs.Ytpfbdpeohlohoaa.Pure
