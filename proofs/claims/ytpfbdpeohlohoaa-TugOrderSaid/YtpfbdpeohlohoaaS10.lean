/- The five numbers that the laws ask of pulls and of a number of teams. No condition. -/
import Derived.Test.YtpfbdpeohlohoaaGe1
import Derived.Test.YtpfbdpeohlohoaaS6
import Derived.Test.YtpfbdpeohlohoaaS8
namespace Go.Proofs.Ytpfbdpeohlohoaa.S
open Go.Proofs.Ytpfbdpeohlohoaa.Ga Go.Proofs.Ytpfbdpeohlohoaa.Ge Go.Proofs.Ytpfbdpeohlohoaa.H Go.Proofs.Ytpfbdpeohlohoaa.M
open Go.RowKit Go.Proofs.YtpfbdpeohlohoaaW.PrintWords Go.Proofs.YtpfbdpeohlohoaaW.PrintLast Go.Proofs.YtpfbdpeohlohoaaW.PrintMore
set_option linter.unusedVariables false
set_option linter.unusedSimpArgs false
theorem mxk_le_sumk (f : Nat → Int) (h : ∀ t, 0 ≤ f t) : ∀ k, 0 ≤ sumk f k ∧ mxk f k ≤ sumk f k
  | 0 => by simp [mxk, sumk]
  | k + 1 => by
    obtain ⟨h1, h2⟩ := mxk_le_sumk f h k
    have := h k
    simp only [mxk, sumk]
    split <;> omega
/-- What the five numbers are. -/
structure Five (l : List Int) (K : Nat) (v : List Int) : Prop where
  ex : ∃ s e d g t, v = [s, e, d, g, t] ∧ Least false l s ∧ Least true l e ∧ d = kvf (l.length - 1) l ∧ g = vmx (grs K (dsort l)) ∧ LL K l t
theorem Five.perm {l l' : List Int} {K : Nat} {v v' : List Int} (h0 : 0 < l.length) (hp : l.Perm l') (h : Five l K v) (h' : Five l' K v') : v = v' := by
  obtain ⟨s, e, d, g, t, rfl, a1, a2, a3, a4, a5⟩ := h.ex
  obtain ⟨s', e', d', g', t', rfl, b1, b2, b3, b4, b5⟩ := h'.ex
  have e1 := (a1.perm hp).unique b1
  have e2 := (a2.perm hp).unique b2
  have e5 := (a5.perm hp).unique b5
  have hl := hp.length_eq
  have e3 : d = d' := by rw [a3, b3, ← hl]; exact kvf_perm _ hp (by omega)
  have e4 : g = g' := by rw [a4, b4, dsort_congr hp]
  subst e1; subst e2; subst e3; subst e4; subst e5
  rfl
theorem map_getD (v : List Int) (m : Int) (t : Nat) : (v.map (m * ·)).getD t 0 = m * v.getD t 0 := by
  simp only [List.getD_eq_getElem?_getD, List.getElem?_map]
  cases v[t]? <;> simp
theorem fm_scale {m : Int} (hm : 0 < m) (v : List Int) (h : 0 < v.length) : fm (v.map (m * ·)) = fm v := by
  obtain ⟨f1, f2, f3⟩ := fm_spec v h
  refine (fm_unique (by simpa using f1) (fun j hj => ?_) (fun j hj => ?_)).symm
  · rw [map_getD, map_getD]
    exact Int.mul_le_mul_of_nonneg_left (f2 j (by simpa using hj)) (by omega)
  · rw [map_getD, map_getD]
    exact Int.mul_lt_mul_of_pos_left (f3 j hj) hm
theorem gst_scale {m : Int} (hm : 0 < m) (v : List Int) (h : 0 < v.length) (p : Int) : gst (v.map (m * ·)) (m * p) = (gst v p).map (m * ·) := by
  unfold gst
  rw [fm_scale hm v h, map_getD, List.map_set, Int.mul_add]
theorem foldl_gst_scale {m : Int} (hm : 0 < m) : ∀ (S v : List Int), 0 < v.length → (S.map (m * ·)).foldl gst (v.map (m * ·)) = (S.foldl gst v).map (m * ·)
  | [], v, _ => rfl
  | p :: S, v, h => by
    rw [List.map_cons, List.foldl_cons, List.foldl_cons, gst_scale hm v h, foldl_gst_scale hm S _ (by rw [gst_length]; exact h)]
theorem vmx_grs_scale {m : Int} (hm : 0 < m) (K : Nat) (hK : 0 < K) (S : List Int) : vmx (grs K (S.map (m * ·))) = m * vmx (grs K S) := by
  have e : grs K (S.map (m * ·)) = (grs K S).map (m * ·) := by
    unfold grs
    rw [← foldl_gst_scale hm S _ (by simpa using hK)]
    simp
  unfold vmx
  rw [e, List.length_map, ← mxk_mul hm]
  exact mxk_congr (fun t _ => map_getD _ _ _)
theorem Five.scale {l : List Int} {K : Nat} {v v' : List Int} {m : Int} (hm : 0 < m) (hK : 0 < K) (h0 : 0 < l.length) (h : Five l K v) (h' : Five (l.map (m * ·)) K v') : v' = v.map (m * ·) := by
  obtain ⟨s, e, d, g, t, rfl, a1, a2, a3, a4, a5⟩ := h.ex
  obtain ⟨s', e', d', g', t', rfl, b1, b2, b3, b4, b5⟩ := h'.ex
  have e1 := (a1.scale hm).unique b1
  have e2 := (a2.scale hm).unique b2
  have e5 := (a5.scale hm).unique b5
  have e3 : m * d = d' := by rw [a3, b3, List.length_map]; exact (kvf_scale hm _ l (by omega)).symm
  have e4 : m * g = g' := by rw [a4, b4, dsort_scale hm, vmx_grs_scale hm K hK]
  subst e1; subst e2; subst e3; subst e4; subst e5
  rfl
theorem LL.range {l : List Int} {K : Nat} {t : Int} (h : LL K l t) (hl : Sm l) : 0 ≤ t ∧ t ≤ 1000000 * (l.length : Int) := by
  obtain ⟨⟨T, h1, h2⟩, _⟩ := h
  have hb := lsum_bound hl l.length
  rw [List.take_of_length_le (Nat.le_refl _)] at hb
  have h3 := mxk_le_sumk (fun t : Nat => tl l T (t : Int)) (fun t => tl_nonneg (fun p hp => (hl.2 p hp).1)) K
  rw [tl_sum h1] at h3
  have h4 := mxk_nonneg (fun t : Nat => tl l T (t : Int)) K
  unfold ld at h2
  omega
theorem Five.range {l : List Int} {K : Nat} {v : List Int} (h : Five l K v) (hK : 0 < K) (hl : Ok l) (hlen : l.length ≤ 14) : v.length = 5 ∧ ∀ x ∈ v, 0 ≤ x ∧ x ≤ 14000000 := by
  obtain ⟨s, e, d, g, t, rfl, a1, a2, a3, a4, a5⟩ := h.ex
  have hs := hl.sm (by omega)
  have r1 := Least.range a1 hs
  have r2 := Least.range a2 hs
  have r5 := LL.range a5 hs
  have hb := lsum_bound hs l.length
  rw [List.take_of_length_le (Nat.le_refl _)] at hb
  have r3 : 0 ≤ d ∧ d ≤ 14000000 := by
    obtain ⟨o, _, d2⟩ := Differencing_ev l (by omega)
    obtain ⟨q1, q2, _, q4⟩ := d2 (bad_ok.2 ⟨by omega, hl⟩)
    have := (reach_of l o q1 q2).bound (fun p hp => (hs.2 p hp).1)
    rw [a3, ← q4]
    unfold dif ab
    split <;> omega
  have r4 : 0 ≤ g ∧ g ≤ 14000000 := by
    have hnn : ∀ p ∈ dsort l, 0 ≤ p := fun p hp => (hs.2 p ((dsort_perm l).mem_iff.1 hp)).1
    have h3 := mxk_le_sumk (fun t : Nat => (grs K (dsort l)).getD t 0) (grs_nonneg hK _ hnn) K
    rw [grs_sum hK, lsum_perm (dsort_perm l)] at h3
    have h4 := mxk_nonneg (fun t : Nat => (grs K (dsort l)).getD t 0) K
    rw [a4]
    unfold vmx
    rw [grs_length]
    omega
  refine ⟨rfl, fun x hx => ?_⟩
  simp at hx
  omega
theorem numbers_ev (l : List Int) (K : Nat) (h : Ok l) (hl : l.length ≤ 10) (hK : 1 ≤ K) (hK2 : K ≤ 4) : ∃ v, Ev (fun k => wogglelaw05_numbers.f k l (K : Int)) (v, true) ∧ Five l K v := by
  have b1 : bad l 14 = 0 := bad_ok.2 ⟨by omega, h⟩
  have b3 : bad l 10 = 0 := bad_ok.2 ⟨by omega, h⟩
  have y1 : whyB l 10 (K : Int) = 0 := whyB_ok.2 ⟨b3, by omega, by omega⟩
  have y2 : whyB l 14 (K : Int) = 0 := whyB_ok.2 ⟨b1, by omega, by omega⟩
  have s1 := split_ev l (by omega)
  have s2 := evens_ev l (by omega)
  rw [if_pos b1] at s1 s2
  obtain ⟨o, d1, d2⟩ := Differencing_ev l (by omega)
  rw [if_pos b1] at d1
  have g1 := Greedy_ev l (K : Int) (by omega)
  rw [if_pos y2, Int.toNat_natCast] at g1
  obtain ⟨T, t1, f1⟩ := Teams_ev l (K : Int) (by omega)
  have F := f1 y1
  rw [if_pos y1] at t1
  rw [Int.toNat_natCast] at F t1
  refine ⟨_, ?_, ⟨_, _, _, _, _, rfl, (fnd_all l h.1).1, (fnd_even l h.1).1, rfl, rfl, F.least⟩⟩
  refine Ev.bind s1 (Ev.bind s2 (Ev.bind d1 (Ev.bind g1 (Ev.bind t1 ?_))))
  exact Ev.congr (f := fun _ => some (_, true)) (fun k => by simp) (Ev.now _)
end Go.Proofs.Ytpfbdpeohlohoaa.S
