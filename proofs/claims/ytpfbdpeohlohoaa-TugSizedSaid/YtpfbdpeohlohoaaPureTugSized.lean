/- TugSized: pulls that are m times as great have numbers that are m times as great. No condition. -/
import Derived.Test.YtpfbdpeohlohoaaLTugSized1
import Derived.Test.YtpfbdpeohlohoaaS10
namespace Go.Proofs.Ytpfbdpeohlohoaa.Pure
open Go.RowKit Go.Proofs.Ytpfbdpeohlohoaa.LTugSized Go.Proofs.YtpfbdpeohlohoaaW.PrintWords Go.Proofs.YtpfbdpeohlohoaaW.PrintLast
open Go.Proofs.Ytpfbdpeohlohoaa.S Go.Proofs.Ytpfbdpeohlohoaa.M Go.Proofs.Ytpfbdpeohlohoaa.H Go.Proofs.Ytpfbdpeohlohoaa.Ga Go.Proofs.Ytpfbdpeohlohoaa.Ge
theorem same_loop (m : Int) (hm : 1 ≤ m ∧ m ≤ 10) (v : List Int) (hl : v.length = 5) (hv : ∀ x ∈ v, 0 ≤ x ∧ x ≤ 14000000) : ∀ (d i : Nat), i + d = v.length → Ev (fun k => wogglelaw05_TugSized.l1 k m v true (v.map (m * ·)) true (i : Int)) true
  | 0, i, h => by
    refine Ev.step (f := fun _ => some true) (fun k => ?_) (Ev.now _)
    simp only [wogglelaw05_TugSized.l1]
    rw [if_neg (by omega)]
    simp [tug_lives.f]
  | d + 1, i, h => by
    have hi : i < v.length := by omega
    have hx := hv v[i] (List.getElem_mem hi)
    have hb : 0 ≤ m * v[i] ∧ m * v[i] ≤ 10 * 14000000 := ⟨Int.mul_nonneg (by omega) hx.1, Int.mul_le_mul hm.2 hx.2 hx.1 (by omega)⟩
    refine Ev.step (fun k => ?_) (same_loop m hm v hl hv d (i + 1) (by omega))
    simp only [wogglelaw05_TugSized.l1]
    rw [if_pos (by omega), if_pos trivial, if_pos (by omega), if_pos (by rw [List.length_map]; omega), rd_at v i hi, rd_at (v.map (m * ·)) i (by rw [List.length_map]; exact hi), List.getElem_map, w64 (x := m * v[i]) (by omega) (by omega), w64 (x := (i : Int) + 1) (by omega) (by omega), beq_self_eq_true]
    rfl
theorem sized_loop (l : List Int) (K : Nat) (m : Int) (hm : 1 ≤ m ∧ m ≤ 10) (ho : Ok l) (hl : l.length ≤ 7) (hw : ∀ p ∈ l, 1 ≤ p ∧ p ≤ 65536) (hK : 1 ≤ K) (hK2 : K ≤ 4) : ∀ (d i : Nat), i + d = l.length → Ev (fun k => wogglelaw05_TugSized.l0 k l (K : Int) ((l.take i).map (m * ·)) m (i : Int)) true
  | 0, i, h => by
    have hbd : ∀ p ∈ l, m ≤ m * p ∧ m * p ≤ 10 * 65536 := fun p hp => by
      have := hw p hp
      refine ⟨?_, Int.mul_le_mul hm.2 this.2 (by omega) (by omega)⟩
      have := Int.mul_le_mul_of_nonneg_left this.1 (show 0 ≤ m by omega)
      omega
    have ho2 : Ok (l.map (m * ·)) := ⟨by rw [List.length_map]; exact ho.1, fun p hp => by
      obtain ⟨q, hq, rfl⟩ := List.mem_map.1 hp
      have := hbd q hq
      omega⟩
    obtain ⟨v, v1, v2⟩ := numbers_ev l K ho (by omega) hK hK2
    obtain ⟨v', v3, v4⟩ := numbers_ev (l.map (m * ·)) K ho2 (by rw [List.length_map]; omega) hK hK2
    have e := v2.scale (by omega) (by omega) ho.1 v4
    obtain ⟨r1, r2⟩ := v2.range (by omega) ho (by omega)
    rw [List.take_of_length_le (by omega)]
    refine Ev.step (f := fun k => (wogglelaw05_numbers.f k l (K : Int)).bind fun bt111 => ((wogglelaw05_numbers.f k (l.map (m * ·)) (K : Int)).bind fun bt115 => (wogglelaw05_TugSized.l1 k m bt111.1 bt111.2 bt115.1 bt115.2 0))) (fun k => by
      simp only [wogglelaw05_TugSized.l0]
      rw [if_neg (by omega)]) (Ev.bind v1 (Ev.bind v3 ?_))
    rw [e]
    exact same_loop m hm v r1 r2 v.length 0 (by omega)
  | d + 1, i, h => by
    have hi : i < l.length := by omega
    have hx := hw l[i] (List.getElem_mem hi)
    have hb : 0 ≤ m * l[i] ∧ m * l[i] ≤ 10 * 65536 := ⟨Int.mul_nonneg (by omega) (by omega), Int.mul_le_mul hm.2 hx.2 (by omega) (by omega)⟩
    have ih := sized_loop l K m hm ho hl hw hK hK2 d (i + 1) (by omega)
    rw [List.take_succ_eq_append_getElem hi, List.map_append] at ih
    refine Ev.step (fun k => ?_) ih
    simp only [wogglelaw05_TugSized.l0]
    rw [if_pos (by omega), if_pos (by omega), if_pos (by simp; omega), rd_at l i hi, w64 (x := m * l[i]) (by omega) (by omega), w64 (x := (i : Int) + 1) (by omega) (by omega)]
    rfl
theorem TugSized : wogglelaw05_TugSized.Pure := by
  intro l0 a1 a2 h1 h2 h3 h4 h5
  apply Ev.rounds
  unfold wogglelaw05_TugSized.f
  have w1 := rng_u8 h4
  have w2 := rng_u8 h5
  have hw : ∀ x ∈ l0, 0 ≤ x ∧ x ≤ 65535 := fun x hx => rng_u16 (h3 x hx)
  obtain ⟨m1, m2, m3⟩ := madeL_ok l0 7 (by omega) hw
  refine Ev.bind (made_ev l0 7 (by omega) (by omega) hw) ?_
  generalize madeL l0 7 = l at *
  obtain ⟨K, hK, hK2, hK3⟩ : ∃ K : Nat, wrap64 (Int.tmod (wrap64 a2) 4 + 1) = (K : Int) ∧ 1 ≤ K ∧ K ≤ 4 := by
    rw [w64 (x := a2) (by omega) (by omega), Int.tmod_eq_emod_of_nonneg (by omega)]
    exact ⟨(a2 % 4 + 1).toNat, by rw [w64 (by omega) (by omega)]; omega, by omega, by omega⟩
  obtain ⟨m, hm, hm2⟩ : ∃ m : Int, wrap64 (Int.tmod (wrap64 a1) 10 + 1) = m ∧ 1 ≤ m ∧ m ≤ 10 := by
    rw [w64 (x := a1) (by omega) (by omega), Int.tmod_eq_emod_of_nonneg (by omega)]
    exact ⟨a1 % 10 + 1, w64 (by omega) (by omega), by omega, by omega⟩
  rw [hK, hm]
  exact sized_loop l K m hm2 m1 m2 m3 hK2 hK3 l.length 0 (by omega)
end Go.Proofs.Ytpfbdpeohlohoaa.Pure
