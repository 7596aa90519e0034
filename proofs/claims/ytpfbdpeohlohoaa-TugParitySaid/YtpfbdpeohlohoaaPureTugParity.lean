/- TugParity: the ways of all differences are 2^(n-1) together; none has a difference of the wrong parity. No condition. -/
import Derived.Test.YtpfbdpeohlohoaaLTugParity1
import Derived.Test.YtpfbdpeohlohoaaS3
namespace Go.Proofs.Ytpfbdpeohlohoaa.Pure
open Go.RowKit Go.Proofs.Ytpfbdpeohlohoaa.LTugParity Go.Proofs.YtpfbdpeohlohoaaW.PrintWords Go.Proofs.YtpfbdpeohlohoaaW.PrintLast
open Go.Proofs.Ytpfbdpeohlohoaa.S Go.Proofs.Ytpfbdpeohlohoaa.M Go.Proofs.Ytpfbdpeohlohoaa.H Go.Proofs.Ytpfbdpeohlohoaa.Ga
def tw (l : List Int) (N : Nat) : Nat → Int
  | 0 => 0
  | D + 1 => tw l N D + wcount l (D : Int) N
theorem tw_zero (l : List Int) : ∀ D, tw l 0 D = 0
  | 0 => rfl
  | D + 1 => by simp only [tw, tw_zero l D, wcount]; rfl
theorem tw_succ (l : List Int) (N : Nat) (h : 0 ≤ dif l (bnr l.length N)) : ∀ D : Nat, tw l (N + 1) D = tw l N D + (if dif l (bnr l.length N) < (D : Int) then 1 else 0)
  | 0 => by rw [if_neg (by omega)]; rfl
  | D + 1 => by
    have := tw_succ l N h D
    simp only [tw, wcount, this]
    by_cases c1 : dif l (bnr l.length N) < (D : Int)
    · rw [if_pos c1, if_neg (by omega), if_pos (by omega)]; omega
    · rw [if_neg c1]
      by_cases c2 : dif l (bnr l.length N) = (D : Int)
      · rw [if_pos c2, if_pos (by omega)]; omega
      · rw [if_neg c2, if_neg (by omega)]; omega
theorem tw_all (l : List Int) (D : Nat) : ∀ N : Nat, (∀ m, m < N → 0 ≤ dif l (bnr l.length m) ∧ dif l (bnr l.length m) < (D : Int)) → tw l N D = (N : Int)
  | 0, _ => tw_zero l D
  | N + 1, h => by
    have h1 := h N (Nat.lt_succ_self N)
    rw [tw_succ l N h1.1 D, tw_all l D N (fun m hm => h m (Nat.lt_succ_of_lt hm)), if_pos h1.2]
    omega
theorem tw_le (l : List Int) (N : Nat) : ∀ D : Nat, 0 ≤ tw l N D ∧ tw l N D ≤ (D : Int) * (N : Int)
  | 0 => by simp [tw]
  | D + 1 => by
    have h1 := tw_le l N D
    have h2 := wcount_le l (D : Int) N
    have e : ((D + 1 : Nat) : Int) * (N : Int) = (D : Int) * (N : Int) + (N : Int) := by rw [Int.natCast_add, Int.add_mul]; omega
    simp only [tw]
    rw [e]
    omega
theorem wcount_none (l : List Int) (d : Int) : ∀ N : Nat, (∀ m, m < N → dif l (bnr l.length m) ≠ d) → wcount l d N = 0
  | 0, _ => rfl
  | N + 1, h => by
    simp only [wcount]
    rw [wcount_none l d N (fun m hm => h m (Nat.lt_succ_of_lt hm)), if_neg (h N (Nat.lt_succ_self N))]
    rfl
theorem dif_facts (l : List Int) (h : ∀ p ∈ l, 0 ≤ p) (m : Nat) : 0 ≤ dif l (bnr l.length m) ∧ dif l (bnr l.length m) ≤ lsum l ∧ (lsum l - dif l (bnr l.length m)) % 2 = 0 := by
  have r := reach_of l (bnr l.length m) (bnr_bin _ _) (bnr_length _ _)
  have h1 := r.parity
  have h2 := r.bound h
  unfold dif ab
  split <;> omega
/-- The loop over the differences. -/
theorem par_loop (l : List Int) (ho : Ok l) (hl : l.length ≤ 10) (hs : lsum l ≤ 200) : ∀ (c d : Nat), (d : Int) + (c : Int) = lsum l + 1 → Ev (fun k => wogglelaw05_TugParity.l1 k l (tw l (2 ^ (l.length - 1)) d) (lsum l) (d : Int)) true
  | 0, d, h => by
    have h0 : ∀ p ∈ l, 0 ≤ p := fun p hp => by have := ho.2 p hp; omega
    have b1 : bad l 14 = 0 := bad_ok.2 ⟨by omega, ho⟩
    have hn := ho.1
    have w := ways_ev l (lsum l + 1) (by omega)
    have hlb := lsum_bound (ho.sm (by omega)) l.length
    rw [List.take_of_length_le (Nat.le_refl _)] at hlb
    rw [if_pos b1, if_neg (by omega)] at w
    have e1 : S.ways l (lsum l + 1) = 0 := wcount_none l _ _ (fun m _ => by have := dif_facts l h0 m; omega)
    have e2 : tw l (2 ^ (l.length - 1)) d = ((2 ^ (l.length - 1) : Nat) : Int) := tw_all l d _ (fun m _ => by have := dif_facts l h0 m; omega)
    rw [e1] at w
    rw [e2]
    refine Ev.step (f := fun k => (tug_Ways.f k l (lsum l + 1)).bind fun bt112 => (if bt112.1 = 0 then (if bt112.2 = 0 then some true else some false) else some false)) (fun k => ?_) (Ev.bind w (Ev.congr (f := fun _ => some true) (fun k => by simp) (Ev.now _)))
    simp only [wogglelaw05_TugParity.l1]
    rw [if_neg (by omega), w64 (x := lsum l + 1) (by omega) (by omega), w64 (x := (l.length : Int) - 1) (by omega) (by omega), show (l.length : Int) - 1 = ((l.length - 1 : Nat) : Int) by omega, shl_is _ (by omega)]
    simp [tug_lives.f]
  | c + 1, d, h => by
    have h0 : ∀ p ∈ l, 0 ≤ p := fun p hp => by have := ho.2 p hp; omega
    have b1 : bad l 14 = 0 := bad_ok.2 ⟨by omega, ho⟩
    have w := ways_ev l (d : Int) (by omega)
    rw [if_pos b1, if_neg (by omega)] at w
    have ih := par_loop l ho hl hs c (d + 1) (by omega)
    have hp := pow_small (l.length - 1) (by omega)
    have hwc := wcount_le l (d : Int) (2 ^ (l.length - 1))
    have htw := tw_le l (2 ^ (l.length - 1)) d
    have hb : (d : Int) * ((2 ^ (l.length - 1) : Nat) : Int) ≤ 201 * 524288 := Int.mul_le_mul (by omega) (by omega) (by omega) (by omega)
    have hlb := lsum_bound (ho.sm (by omega)) l.length
    rw [List.take_of_length_le (Nat.le_refl _)] at hlb
    have e1 : wrap64 (tw l (2 ^ (l.length - 1)) d + S.ways l (d : Int)) = tw l (2 ^ (l.length - 1)) (d + 1) := by
      show wrap64 (tw l (2 ^ (l.length - 1)) d + wcount l (d : Int) (2 ^ (l.length - 1))) = tw l (2 ^ (l.length - 1)) d + wcount l (d : Int) (2 ^ (l.length - 1))
      exact w64 (by omega) (by omega)
    have e2 : (Int.tmod (wrap64 (lsum l - (d : Int))) 2 = 0) ∨ S.ways l (d : Int) = 0 := by
      rw [w64 (x := lsum l - (d : Int)) (by omega) (by omega), Int.tmod_eq_emod_of_nonneg (by omega)]
      by_cases c2 : (lsum l - (d : Int)) % 2 = 0
      · exact .inl c2
      · exact .inr (wcount_none l _ _ (fun m _ => by have := dif_facts l h0 m; omega))
    have e3 : wrap64 ((d : Int) + 1) = ((d + 1 : Nat) : Int) := by rw [w64 (by omega) (by omega)]; rfl
    have e4 : ¬ S.ways l (d : Int) < 0 := by unfold S.ways; omega
    refine Ev.step (f := fun k => (tug_Ways.f k l (d : Int)).bind fun bt110 => (if bt110.2 = 0 then (if bt110.1 < 0 then (some false) else (if (Int.tmod (wrap64 (lsum l - (d : Int))) 2) = 0 then (wogglelaw05_TugParity.l1 k l (wrap64 (tw l (2 ^ (l.length - 1)) d + bt110.1)) (lsum l) (wrap64 ((d : Int) + 1))) else (if bt110.1 = 0 then (wogglelaw05_TugParity.l1 k l (wrap64 (tw l (2 ^ (l.length - 1)) d + bt110.1)) (lsum l) (wrap64 ((d : Int) + 1))) else (some false)))) else (some false))) (fun k => by simp only [wogglelaw05_TugParity.l1]; rw [if_pos (by omega)]) (Ev.bind w ?_)
    refine Ev.congr (fun k => ?_) ih
    dsimp only
    rw [if_pos rfl, if_neg e4, e1, e3]
    rcases e2 with e2 | e2
    · rw [if_pos e2]
    · by_cases c2 : Int.tmod (wrap64 (lsum l - (d : Int))) 2 = 0
      · rw [if_pos c2]
      · rw [if_neg c2, if_pos e2]
theorem par_j1 (l : List Int) (hl : l.length ≤ 10) (hw : ∀ p ∈ l, 1 ≤ p ∧ p ≤ 12) : Ev (fun k => wogglelaw05_TugParity.j1 k l) true := by
  by_cases c : l.length = 0
  · exact Ev.step (f := fun _ => some true) (fun k => by simp only [wogglelaw05_TugParity.j1]; rw [if_pos (by omega)]; simp [tug_lives.f]) (Ev.now _)
  · have ho : Ok l := ⟨by omega, fun p hp => by have := hw p hp; omega⟩
    have hb : ∀ (l : List Int), (∀ p ∈ l, 1 ≤ p ∧ p ≤ 12) → 0 ≤ lsum l ∧ lsum l ≤ 12 * (l.length : Int) := by
      intro l
      induction l with
      | nil => intro _; simp [lsum]
      | cons p t ih =>
        intro h
        have := ih (fun q hq => h q (List.mem_cons_of_mem _ hq))
        have := h p List.mem_cons_self
        simp only [lsum, List.length_cons]
        omega
    have h1 := hb l hw
    refine Ev.step (f := fun k => (woggleref05_Sum.f k l).bind fun t109 => (wogglelaw05_TugParity.l1 k l 0 t109 0)) (fun k => by simp only [wogglelaw05_TugParity.j1]; rw [if_neg (by omega)]) ?_
    exact Ev.bind (sum_ev l (ho.sm (by omega))) (par_loop l ho hl (by omega) (lsum l + 1).toNat 0 (by omega))
theorem par_l0 (l0 : List Int) (hl : l0.length < 100000000000000) (hw : ∀ x ∈ l0, 0 ≤ x ∧ x ≤ 65535) : ∀ (d i : Nat), i + d = (l0.take 10).length → Ev (fun k => wogglelaw05_TugParity.l0 k l0 (((l0.take 10).take i).map (fun x => x % 12 + 1)) (i : Int)) true
  | 0, i, h => by
    have j := par_j1 ((l0.take 10).map (fun x => x % 12 + 1)) (by rw [List.length_map, List.length_take]; omega) (fun p hp => by
      obtain ⟨x, _, rfl⟩ := List.mem_map.1 hp
      omega)
    rw [List.take_of_length_le (by omega)]
    rw [List.length_take] at h
    refine Ev.step (fun k => ?_) j
    simp only [wogglelaw05_TugParity.l0]
    by_cases c : (i : Int) < (l0.length : Int)
    · rw [if_pos c, if_neg (by omega)]
    · rw [if_neg c]
  | d + 1, i, h => by
    have hi : i < (l0.take 10).length := by omega
    have hi2 : i < l0.length ∧ i < 10 := by rw [List.length_take] at hi; omega
    have hx := hw l0[i] (List.getElem_mem hi2.1)
    have e1 : (l0.take 10)[i] = l0[i] := List.getElem_take
    refine Ev.step (fun k => ?_) (par_l0 l0 hl hw d (i + 1) (by omega))
    simp only [wogglelaw05_TugParity.l0]
    rw [if_pos (by omega), if_pos (by omega), if_pos (by omega), if_pos (by simp; omega), rd_at l0 i hi2.1, w64 (x := l0[i]) (by omega) (by omega), Int.tmod_eq_emod_of_nonneg (by omega), w64 (x := l0[i] % 12 + 1) (by omega) (by omega), w64 (x := (i : Int) + 1) (by omega) (by omega), List.take_succ_eq_append_getElem hi, List.map_append, e1]
    rfl
theorem TugParity : wogglelaw05_TugParity.Pure := by
  intro l0 h1 h2 h3
  apply Ev.rounds
  exact par_l0 l0 (by omega) (fun x hx => rng_u16 (h3 x hx)) (l0.take 10).length 0 (by omega)
end Go.Proofs.Ytpfbdpeohlohoaa.Pure
