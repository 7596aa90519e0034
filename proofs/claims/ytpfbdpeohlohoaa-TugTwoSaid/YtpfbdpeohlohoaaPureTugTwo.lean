/- TugTwo: twice the least load of two teams is the sum and the least difference; one team bears the sum. No condition. -/
import Derived.Test.YtpfbdpeohlohoaaLTugTwo1
import Derived.Test.YtpfbdpeohlohoaaS3
import Derived.Test.YtpfbdpeohlohoaaS4
namespace Go.Proofs.Ytpfbdpeohlohoaa.Pure
open Go.RowKit Go.Proofs.Ytpfbdpeohlohoaa.LTugTwo Go.Proofs.YtpfbdpeohlohoaaW.PrintWords Go.Proofs.YtpfbdpeohlohoaaW.PrintLast
open Go.Proofs.Ytpfbdpeohlohoaa.S Go.Proofs.Ytpfbdpeohlohoaa.M Go.Proofs.Ytpfbdpeohlohoaa.H Go.Proofs.Ytpfbdpeohlohoaa.Ga
theorem TugTwo : wogglelaw05_TugTwo.Pure := by
  intro l0 h1 h2 h3
  apply Ev.rounds
  unfold wogglelaw05_TugTwo.f
  have hw : ∀ x ∈ l0, 0 ≤ x ∧ x ≤ 65535 := fun x hx => rng_u16 (h3 x hx)
  obtain ⟨m1, m2, m3⟩ := madeL_ok l0 10 (by omega) hw
  refine Ev.bind (made_ev l0 10 (by omega) (by omega) hw) ?_
  generalize madeL l0 10 = l at *
  have c1 := m1.1
  have hs := m1.sm (by omega)
  have h0 : ∀ p ∈ l, 0 ≤ p := fun p hp => (hs.2 p hp).1
  have b1 : bad l 14 = 0 := bad_ok.2 ⟨by omega, m1⟩
  have b3 : bad l 10 = 0 := bad_ok.2 ⟨by omega, m1⟩
  have y1 := whyB_ok.2 ⟨b3, show (1 : Int) ≤ 1 by omega, show (1 : Int) ≤ 4 by omega⟩
  have y2 := whyB_ok.2 ⟨b3, show (1 : Int) ≤ 2 by omega, show (2 : Int) ≤ 4 by omega⟩
  obtain ⟨o1, t1, f1⟩ := Teams_ev l 1 (by omega)
  obtain ⟨o2, t2, f2⟩ := Teams_ev l 2 (by omega)
  have s1 := split_ev l (by omega)
  rw [if_pos b1] at s1
  rw [if_pos y1] at t1
  rw [if_pos y2] at t2
  have d1 := (fnd_all l (by omega)).1
  have g1 := Least.range d1 hs
  have F1 := f1 y1
  have F2 := f2 y2
  have e1 : ld 1 l o1 = lsum l := ld_one h0 F1.1
  have e2 : o1 = List.replicate l.length 0 := (one_team F1.1).2
  have e3 : 2 * ld 2 l o2 = lsum l + (fnd pAll l).1 := LL.two h0 F2.least d1
  have q := lsum_bound hs l.length
  rw [List.take_of_length_le (Nat.le_refl _)] at q
  refine Ev.bind t2 (Ev.bind s1 (Ev.bind t1 ?_))
  simp only [if_true]
  refine Ev.bind (sum_ev l hs) ?_
  rw [show (2 : Int).toNat = 2 from rfl, show (1 : Int).toNat = 1 from rfl, w64 (x := 2 * ld 2 l o2) (by omega) (by omega), w64 (x := lsum l + (fnd pAll l).1) (by omega) (by omega)]
  refine Ev.congr (fun k => by rw [if_pos e3]) (Ev.bind (sum_ev l hs) ?_)
  refine Ev.congr (f := fun k => (woggleref01_Same.f k o1 o1).bind fun t124 => (if t124 = true then ((tug_lives.f).bind fun t125 => (some t125)) else (some false))) (fun k => by rw [if_pos e1, if_pos (by omega), if_pos (by omega), Int.toNat_natCast, ← e2]) ?_
  refine Ev.bind (same_ev o1 (by have := F1.1.1; omega)) ?_
  exact Ev.congr (f := fun _ => some true) (fun k => by simp [tug_lives.f]) (Ev.now _)
end Go.Proofs.Ytpfbdpeohlohoaa.Pure
