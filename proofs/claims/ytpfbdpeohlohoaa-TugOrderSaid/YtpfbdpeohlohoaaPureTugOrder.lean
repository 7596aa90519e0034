/- TugOrder: the order of the pulls does not matter to the five numbers. No condition. -/
import Derived.Test.YtpfbdpeohlohoaaLTugOrder1
import Derived.Test.YtpfbdpeohlohoaaS10
namespace Go.Proofs.Ytpfbdpeohlohoaa.Pure
open Go.RowKit Go.Proofs.Ytpfbdpeohlohoaa.LTugOrder Go.Proofs.YtpfbdpeohlohoaaW.PrintWords Go.Proofs.YtpfbdpeohlohoaaW.PrintLast
open Go.Proofs.Ytpfbdpeohlohoaa.S Go.Proofs.Ytpfbdpeohlohoaa.M Go.Proofs.Ytpfbdpeohlohoaa.H Go.Proofs.Ytpfbdpeohlohoaa.Ga Go.Proofs.Ytpfbdpeohlohoaa.Ge
theorem ok_perm {l l' : List Int} (hp : l.Perm l') (h : Ok l) : Ok l' := ⟨by rw [← hp.length_eq]; exact h.1, fun p hq => h.2 p (hp.mem_iff.2 hq)⟩
theorem order_loop (l y : List Int) (K : Nat) (ho : Ok l) (hl : l.length ≤ 7) (hy : l.Perm y) (hK : 1 ≤ K) (hK2 : K ≤ 4) : ∀ (c : Nat), c ≤ l.length → Ev (fun k => wogglelaw05_TugOrder.l0 k l (K : Int) y (l.drop c).reverse ((c : Int) - 1)) true
  | 0, _ => by
    rw [List.drop_zero]
    have hr : l.Perm l.reverse := (List.reverse_perm l).symm
    obtain ⟨v, v1, v2⟩ := numbers_ev l K ho (by omega) hK hK2
    obtain ⟨v', v3, v4⟩ := numbers_ev y K (ok_perm hy ho) (by rw [← hy.length_eq]; omega) hK hK2
    obtain ⟨v'', v5, v6⟩ := numbers_ev l.reverse K (ok_perm hr ho) (by rw [← hr.length_eq]; omega) hK hK2
    have e1 := v2.perm ho.1 hy v4
    have e2 := v2.perm ho.1 hr v6
    subst e1
    subst e2
    obtain ⟨r1, r2⟩ := v2.range (by omega) ho (by omega)
    refine Ev.step (f := fun k => (wogglelaw05_numbers.f k l (K : Int)).bind fun bt128 => ((wogglelaw05_numbers.f k y (K : Int)).bind fun bt132 => ((wogglelaw05_numbers.f k l.reverse (K : Int)).bind fun bt136 => (if bt128.2 = true then (if bt132.2 = true then (if bt136.2 = true then ((woggleref01_Same.f k bt128.1 bt132.1).bind fun t140 => (if t140 = true then ((woggleref01_Same.f k bt128.1 bt136.1).bind fun t141 => (if t141 = true then ((tug_lives.f).bind fun t142 => (some t142)) else (some false))) else (some false))) else (some false)) else (some false)) else (some false))))) (fun k => by
      simp only [wogglelaw05_TugOrder.l0]
      rw [if_neg (by omega)]) (Ev.bind v1 (Ev.bind v3 (Ev.bind v5 ?_)))
    simp only [if_true]
    refine Ev.bind (same_ev v (by omega)) ?_
    simp only [if_true]
    refine Ev.bind (same_ev v (by omega)) ?_
    exact Ev.congr (f := fun _ => some true) (fun k => by simp [tug_lives.f]) (Ev.now _)
  | c + 1, hc => by
    have ih := order_loop l y K ho hl hy hK hK2 c (by omega)
    have e : (l.drop c).reverse = (l.drop (c + 1)).reverse ++ [l[c]] := by
      rw [List.drop_eq_getElem_cons (by omega), List.reverse_cons]
    rw [e] at ih
    refine Ev.step (fun k => ?_) ih
    simp only [wogglelaw05_TugOrder.l0]
    rw [show ((c + 1 : Nat) : Int) - 1 = (c : Int) by omega, if_pos (by omega), if_pos (by omega), if_pos (by omega), if_pos (by simp; omega), rd_at l c (by omega), w64 (x := (c : Int) - 1) (by omega) (by omega)]
theorem TugOrder : wogglelaw05_TugOrder.Pure := by
  intro l0 a1 a2 h1 h2 h3 h4 h5
  apply Ev.rounds
  unfold wogglelaw05_TugOrder.f
  have w1 := rng_u8 h4
  have w2 := rng_u8 h5
  have hw : ∀ x ∈ l0, 0 ≤ x ∧ x ≤ 65535 := fun x hx => rng_u16 (h3 x hx)
  obtain ⟨m1, m2, m3⟩ := madeL_ok l0 7 (by omega) hw
  refine Ev.bind (made_ev l0 7 (by omega) (by omega) hw) ?_
  generalize madeL l0 7 = l at *
  have hl0 := m1.1
  obtain ⟨K, hK, hK2, hK3⟩ : ∃ K : Nat, wrap64 (Int.tmod (wrap64 a2) 4 + 1) = (K : Int) ∧ 1 ≤ K ∧ K ≤ 4 := by
    rw [w64 (x := a2) (by omega) (by omega), Int.tmod_eq_emod_of_nonneg (by omega)]
    exact ⟨(a2 % 4 + 1).toNat, by rw [w64 (by omega) (by omega)]; omega, by omega, by omega⟩
  obtain ⟨r, hr, hr2⟩ : ∃ r : Nat, Int.tmod (wrap64 a1) (l.length : Int) = (r : Int) ∧ r < l.length := by
    rw [w64 (x := a1) (by omega) (by omega), Int.tmod_eq_emod_of_nonneg (by omega)]
    have q1 := Int.emod_nonneg a1 (show (l.length : Int) ≠ 0 by omega)
    have q2 := Int.emod_lt_of_pos a1 (show (0 : Int) < (l.length : Int) by omega)
    exact ⟨(a1 % (l.length : Int)).toNat, by omega, by omega⟩
  rw [hK, hr]
  have hp : l.Perm (l.drop r ++ l.take r) := by
    have := List.perm_append_comm (l₁ := l.take r) (l₂ := l.drop r)
    rwa [List.take_append_drop] at this
  have hfin := order_loop l (l.drop r ++ l.take r) K m1 m2 hp hK2 hK3 l.length (Nat.le_refl _)
  rw [List.drop_length, List.reverse_nil] at hfin
  refine Ev.congr (fun k => ?_) hfin
  simp only [Option.bind_some, List.nil_append, Int.toNat_natCast]
  rw [if_neg (by omega), if_pos (by omega), if_pos (by omega), if_pos (by simp; omega), if_pos (by simp; omega), w64 (x := (l.length : Int) - 1) (by omega) (by omega)]
end Go.Proofs.Ytpfbdpeohlohoaa.Pure
