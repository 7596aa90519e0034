/- What tug.Bound comes to, and why no load is less. No condition. -/
import Derived.Test.YtpfbdpeohlohoaaS4
import Derived.Test.YtpfbdpeohlohoaaHBound
namespace Go.Proofs.Ytpfbdpeohlohoaa.S
open Go.Proofs.Ytpfbdpeohlohoaa.Ga Go.Proofs.Ytpfbdpeohlohoaa.H Go.Proofs.Ytpfbdpeohlohoaa.M
open Go.RowKit Go.Proofs.YtpfbdpeohlohoaaW.PrintWords Go.Proofs.YtpfbdpeohlohoaaW.PrintLast Go.Proofs.YtpfbdpeohlohoaaW.PrintMore
set_option linter.unusedVariables false
set_option linter.unusedSimpArgs false
theorem Bound_ev (l : List Int) (K : Int) (hl : l.length < 1000000) : Ev (fun k => tug_Bound.f k l K) (if whyB l 14 K = 0 then (bval l K, 0) else (0, whyB l 14 K)) := by
  refine Ev.bind (check_ev l 14 hl) ?_
  by_cases c : whyB l 14 K = 0
  · obtain ⟨h1, h2, h3⟩ := whyB_ok.1 c
    obtain ⟨h4, h5⟩ := bad_ok.1 h1
    rw [if_pos c]
    refine Ev.congr (f := fun _ => some (bval l K, 0)) (fun k => ?_) (Ev.now _)
    rw [if_pos h1, if_neg (by omega), if_neg (by omega), if_pos ⟨fun x hx => by have := h5.2 x hx; omega, h5.1, by omega⟩]
  · rw [if_neg c]
    unfold whyB at c ⊢
    by_cases c1 : bad l 14 = 0
    · rw [if_pos c1] at c ⊢
      by_cases c2 : K < 1
      · rw [if_pos (show K < 1 ∨ K > 4 from .inl c2)]
        exact Ev.congr (fun k => by rw [if_pos c1, if_pos c2]) (Ev.now _)
      · have c3 : K > 4 := by
          apply Classical.byContradiction
          intro h
          rw [if_neg (by omega)] at c
          exact c rfl
        rw [if_pos (show K < 1 ∨ K > 4 from .inr c3)]
        exact Ev.congr (fun k => by rw [if_pos c1, if_neg c2, if_pos c3]) (Ev.now _)
    · rw [if_neg c1]
      exact Ev.congr (fun k => by rw [if_neg c1]) (Ev.now _)
theorem tl_take : ∀ (S T : List Int) (t : Int) (m : Nat), tl S (T.take m) t = tl (S.take m) (T.take m) t
  | [], T, t, m => by simp
  | p :: S, [], t, m => by cases m <;> simp [tl]
  | p :: S, x :: T, t, 0 => by simp [tl]
  | p :: S, x :: T, t, m + 1 => by simp only [List.take_succ_cons, tl, tl_take S T t m]
def ones (n : Nat) : List Int := List.replicate n 1
theorem ones_sum : ∀ n, lsum (ones n) = (n : Int)
  | 0 => rfl
  | n + 1 => by
    have := ones_sum n
    unfold ones at *
    rw [List.replicate_succ, lsum, this]
    omega
theorem ones_bound : ∀ (n : Nat) (T : List Int) (t : Int), tl (ones n) T t ≤ (n : Int)
  | 0, T, t => by simp [ones, tl]
  | n + 1, [], t => by simp [ones, List.replicate_succ, tl]; omega
  | n + 1, x :: T, t => by
    have := ones_bound n T t
    unfold ones at *
    rw [List.replicate_succ]
    simp only [tl]
    split <;> omega
theorem one_in : ∀ (S T : List Int) (t : Int), T.length = S.length → (∀ p ∈ S, 0 ≤ p) → S.Pairwise (fun a b => b ≤ a) → 1 ≤ tl (ones S.length) T t → S.getD (S.length - 1) 0 ≤ tl S T t
  | [], T, t, h, _, _, h1 => by
    have := ones_bound 0 T t
    simp at h1
    omega
  | p :: S, [], t, h, _, _, _ => absurd h (by simp)
  | p :: S, x :: T, t, h, h0, hd, h1 => by
    have hd2 := List.pairwise_cons.1 hd
    have hS : ∀ q ∈ S, 0 ≤ q := fun q hq => h0 q (List.mem_cons_of_mem _ hq)
    have hnn := tl_nonneg (T := T) (t := t) hS
    have e : tl (ones (p :: S).length) (x :: T) t = (if x = t then 1 else 0) + tl (ones S.length) T t := by
      unfold ones
      rw [List.length_cons, List.replicate_succ]
      rfl
    rw [e] at h1
    simp only [tl]
    by_cases c : S.length = 0
    · have : S = [] := List.length_eq_zero_iff.1 c
      subst this
      have := ones_bound 0 T t
      by_cases cx : x = t
      · rw [if_pos cx]; simp at *; omega
      · rw [if_neg cx] at h1
        simp at h1
        omega
    · have e2 : (p :: S).getD ((p :: S).length - 1) 0 = S.getD (S.length - 1) 0 := by
        rw [show (p :: S).length - 1 = (S.length - 1) + 1 by simp; omega, List.getD_cons_succ]
      have hlast : S.getD (S.length - 1) 0 ∈ S := by
        rw [List.getD_eq_getElem?_getD, List.getElem?_eq_getElem (by omega), Option.getD_some]
        exact List.getElem_mem _
      rw [e2]
      by_cases cx : x = t
      · rw [if_pos cx]
        have := hd2.1 _ hlast
        omega
      · rw [if_neg cx] at h1 ⊢
        have := one_in S T t (by simpa using h) hS hd2.2 (by omega)
        omega
theorem two_in : ∀ (S T : List Int) (t : Int), T.length = S.length → (∀ p ∈ S, 0 ≤ p) → S.Pairwise (fun a b => b ≤ a) → 2 ≤ tl (ones S.length) T t → S.getD (S.length - 2) 0 + S.getD (S.length - 1) 0 ≤ tl S T t
  | [], T, t, h, _, _, h1 => by
    have := ones_bound 0 T t
    simp at h1
    omega
  | p :: S, [], t, h, _, _, _ => absurd h (by simp)
  | p :: S, x :: T, t, h, h0, hd, h1 => by
    have hd2 := List.pairwise_cons.1 hd
    have hS : ∀ q ∈ S, 0 ≤ q := fun q hq => h0 q (List.mem_cons_of_mem _ hq)
    have e : tl (ones (p :: S).length) (x :: T) t = (if x = t then 1 else 0) + tl (ones S.length) T t := by
      unfold ones
      rw [List.length_cons, List.replicate_succ]
      rfl
    rw [e] at h1
    have hb := ones_bound S.length T t
    simp only [tl]
    by_cases cx : x = t
    · rw [if_pos cx] at h1 ⊢
      have hS1 : 0 < S.length := by omega
      have h2 := one_in S T t (by simpa using h) hS hd2.2 (by omega)
      have e2 : (p :: S).getD ((p :: S).length - 1) 0 = S.getD (S.length - 1) 0 := by
        rw [show (p :: S).length - 1 = (S.length - 1) + 1 by simp; omega, List.getD_cons_succ]
      have e3 : (p :: S).getD ((p :: S).length - 2) 0 ≤ p := by
        by_cases c1 : S.length = 1
        · rw [show (p :: S).length - 2 = 0 by simp; omega]
          simp
        · rw [show (p :: S).length - 2 = (S.length - 2) + 1 by simp; omega, List.getD_cons_succ, List.getD_eq_getElem?_getD, List.getElem?_eq_getElem (by omega), Option.getD_some]
          exact hd2.1 _ (List.getElem_mem _)
      rw [e2]
      omega
    · rw [if_neg cx] at h1 ⊢
      have hS2 : 2 ≤ S.length := by omega
      have h2 := two_in S T t (by simpa using h) hS hd2.2 (by omega)
      rw [show (p :: S).length - 1 = (S.length - 1) + 1 by simp; omega, show (p :: S).length - 2 = (S.length - 2) + 1 by simp; omega, List.getD_cons_succ, List.getD_cons_succ]
      omega
theorem fall_is (l : List Int) : fall l = dsort l := rfl
/-- No load is less than the bound. -/
theorem bval_le (l : List Int) (K : Nat) (hl : Sz l) (h0 : 0 < l.length) (hK : 0 < K) {n : Int} (h : LL K l n) : bval l (K : Int) ≤ n := by
  obtain ⟨⟨T, h1, h2⟩, _⟩ := h.perm (dsort_perm l).symm
  have hS0 : ∀ p ∈ dsort l, 0 ≤ p := fun p hp => (hl.2 p ((dsort_perm l).mem_iff.1 hp)).1
  have hd := dsort_desc l
  have hlen := dsort_length l
  have hsum := ld_sum h1
  rw [h2] at hsum
  have b1 : rd (dsort l) 0 ≤ n := by
    rw [← h2]
    generalize hq : dsort l = S at *
    match S, T, h1 with
    | [], _, _ => simp at hlen; omega
    | p :: S, [], h1 => exact absurd h1.1 (by simp)
    | p :: S, x :: T, h1 =>
      have hx := h1.2 x (by simp)
      have a1 : tl (p :: S) (x :: T) x ≤ ld K (p :: S) (x :: T) := by
        have := mxk_le (f := fun t : Nat => tl (p :: S) (x :: T) (t : Int)) (k := K) (t := x.toNat) (by omega)
        rw [Int.toNat_of_nonneg hx.1] at this
        exact this
      have a2 := tl_nonneg (l := S) (T := T) (t := x) (fun q hq => hS0 q (List.mem_cons_of_mem _ hq))
      simp only [tl, if_true] at a1
      show p ≤ _
      omega
  have b2 : (lsum (dsort l) + (K : Int) - 1) / (K : Int) ≤ n := by
    have hK' : (0 : Int) < (K : Int) := by omega
    have : (lsum (dsort l) + (K : Int) - 1) / (K : Int) < n + 1 := by
      rw [Int.ediv_lt_iff_lt_mul hK', Int.add_mul, Int.one_mul, Int.mul_comm]
      omega
    omega
  have b3 : K < l.length → rd (dsort l) ((K : Int) - 1) + rd (dsort l) (K : Int) ≤ n := by
    intro hKl
    have hT : Val K (ones (K + 1)) (T.take (K + 1)) := ⟨by rw [List.length_take, h1.1, hlen]; simp [ones]; omega, fun x hx => h1.2 x (List.mem_of_mem_take hx)⟩
    obtain ⟨t, ht, ht2⟩ := pigeon (b := 1) hT (by rw [ones_sum]; omega)
    have hl1 : ((dsort l).take (K + 1)).length = K + 1 := by rw [List.length_take, hlen]; omega
    have h3 := two_in ((dsort l).take (K + 1)) (T.take (K + 1)) (t : Int) (by rw [hl1, hT.1]; simp [ones]) (fun p hp => hS0 p (List.mem_of_mem_take hp)) (hd.sublist (List.take_sublist _ _)) (by rw [hl1]; omega)
    rw [← tl_take] at h3
    have h4 := tl_short (dsort l) (T.take (K + 1)) (T.drop (K + 1)) (t : Int) hS0
    rw [List.take_append_drop] at h4
    have h5 : tl (dsort l) T (t : Int) ≤ ld K (dsort l) T := mxk_le (f := fun u : Nat => tl (dsort l) T (u : Int)) (k := K) (t := t) ht
    rw [h2] at h5
    have g : ∀ i, i < K + 1 → ((dsort l).take (K + 1)).getD i 0 = (dsort l).getD i 0 := fun i hi => by
      simp only [List.getD_eq_getElem?_getD, List.getElem?_take]
      rw [if_pos hi]
    rw [hl1, g _ (by omega), g _ (by omega), ← rd_getD, ← rd_getD, show ((K + 1 - 2 : Nat) : Int) = (K : Int) - 1 by omega, show ((K + 1 - 1 : Nat) : Int) = (K : Int) by omega] at h3
    omega
  unfold bval
  rw [fall_is]
  have hmx : ∀ a b : Int, a ≤ n → b ≤ n → mx a b ≤ n := fun a b _ _ => by unfold mx; split <;> omega
  split
  · exact hmx _ _ (hmx _ _ b1 b2) (b3 (by omega))
  · exact hmx _ _ b1 b2
end Go.Proofs.Ytpfbdpeohlohoaa.S
