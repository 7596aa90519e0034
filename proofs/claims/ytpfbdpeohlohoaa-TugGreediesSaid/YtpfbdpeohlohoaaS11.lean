/- What woggleref05.Falling, .Bound and .Greedy come to. No condition. -/
import Derived.Test.YtpfbdpeohlohoaaLTugGreedies1
import Derived.Test.YtpfbdpeohlohoaaS3
import Derived.Test.YtpfbdpeohlohoaaS8
import Derived.Test.YtpfbdpeohlohoaaS9
namespace Go.Proofs.Ytpfbdpeohlohoaa.S
open Go.Proofs.Ytpfbdpeohlohoaa.Ga Go.Proofs.Ytpfbdpeohlohoaa.H Go.Proofs.Ytpfbdpeohlohoaa.M Go.Proofs.Ytpfbdpeohlohoaa.LTugGreedies
open Go.RowKit Go.Proofs.YtpfbdpeohlohoaaW.PrintWords Go.Proofs.YtpfbdpeohlohoaaW.PrintLast Go.Proofs.YtpfbdpeohlohoaaW.PrintMore
set_option linter.unusedVariables false
set_option linter.unusedSimpArgs false
/-! ### Falling -/
theorem fpos_spec (out : List Int) (x : Int) : ∀ k, k ≤ out.length → fpos out x k ≤ k ∧ (∀ i, fpos out x k ≤ i → i < k → out.getD i 0 < x) ∧ (0 < fpos out x k → ¬ out.getD (fpos out x k - 1) 0 < x)
  | 0, _ => ⟨Nat.le_refl 0, fun i _ h => absurd h (Nat.not_lt_zero i), fun h => absurd h (Nat.lt_irrefl 0)⟩
  | k + 1, hk => by
    obtain ⟨h1, h2, h3⟩ := fpos_spec out x k (by omega)
    have e : rd out (k : Int) = out.getD k 0 := rd_getD out k
    by_cases c : rd out (k : Int) < x
    · have e2 : fpos out x (k + 1) = fpos out x k := by simp only [fpos, if_pos c]
      rw [e2]
      refine ⟨by omega, fun i hi hik => ?_, h3⟩
      by_cases ei : i = k
      · subst ei; rw [← e]; exact c
      · exact h2 i hi (by omega)
    · have e2 : fpos out x (k + 1) = k + 1 := by simp only [fpos, if_neg c]
      rw [e2]
      refine ⟨Nat.le_refl _, fun i h1 h2 => by omega, fun _ => ?_⟩
      rw [Nat.add_sub_cancel, ← e]
      exact c
theorem fins_perm (out : List Int) (x : Int) : (fins out x).Perm (x :: out) := by
  unfold fins
  rw [List.append_assoc]
  show (List.take _ out ++ x :: List.drop _ out).Perm _
  refine List.perm_middle.trans ?_
  rw [List.take_append_drop]
theorem fins_desc (out : List Int) (x : Int) (h : out.Pairwise (fun a b => b ≤ a)) : (fins out x).Pairwise (fun a b => b ≤ a) := by
  obtain ⟨p1, p2, p3⟩ := fpos_spec out x out.length (Nat.le_refl _)
  unfold fins
  generalize fpos out x out.length = p at *
  have hg : ∀ i (hi : i < out.length), out.getD i 0 = out[i] := fun i hi => by rw [List.getD_eq_getElem?_getD, List.getElem?_eq_getElem hi]; rfl
  have hlow : ∀ y ∈ out.drop p, y < x := fun y hy => by
    obtain ⟨i, hi, rfl⟩ := List.getElem_of_mem hy
    rw [List.length_drop] at hi
    have := p2 (p + i) (by omega) (by omega)
    rw [hg _ (by omega)] at this
    rw [List.getElem_drop]
    exact this
  have hhigh : ∀ y ∈ out.take p, x ≤ y := fun y hy => by
    obtain ⟨i, hi, rfl⟩ := List.getElem_of_mem hy
    rw [List.length_take] at hi
    rw [List.getElem_take]
    have h4 := p3 (by omega)
    rw [hg _ (by omega)] at h4
    by_cases e : i = p - 1
    · subst e; omega
    · have := List.pairwise_iff_getElem.1 h i (p - 1) (by omega) (by omega) (by omega)
      omega
  rw [List.append_assoc]
  refine List.pairwise_append.2 ⟨h.sublist (List.take_sublist _ _), ?_, fun a ha b hb => ?_⟩
  · refine List.pairwise_append.2 ⟨List.pairwise_singleton _ _, h.sublist (List.drop_sublist _ _), fun a ha b hb => ?_⟩
    simp at ha
    subst ha
    have := hlow b hb
    omega
  · have h5 := hhigh a ha
    rcases List.mem_append.1 hb with hb | hb
    · simp at hb; omega
    · have := hlow b hb; omega
theorem fallTo_spec (l : List Int) : ∀ j, j ≤ l.length → (fallTo l j).Perm (l.take j) ∧ (fallTo l j).Pairwise (fun a b => b ≤ a)
  | 0, _ => ⟨by simp [fallTo], by simp [fallTo]⟩
  | j + 1, h => by
    obtain ⟨h1, h2⟩ := fallTo_spec l j (by omega)
    rw [fallTo_succ l j (by omega)]
    refine ⟨?_, fins_desc _ _ h2⟩
    rw [List.take_succ_eq_append_getElem (by omega), rd_at l j (by omega)]
    exact (fins_perm _ _).trans ((h1.cons _).trans (List.perm_append_singleton _ _).symm)
theorem fallTo_is (l : List Int) : fallTo l l.length = dsort l := by
  obtain ⟨h1, h2⟩ := fallTo_spec l l.length (Nat.le_refl _)
  rw [List.take_of_length_le (Nat.le_refl _)] at h1
  exact (dsort_unique h1 h2).symm
theorem rBound_ev (l : List Int) (K : Nat) (ho : Ok l) (hl : l.length ≤ 14) (hK : 1 ≤ K) (hK2 : K ≤ 4) : Ev (fun k => woggleref05_Bound.f k l (K : Int)) (bval l (K : Int)) := by
  have hs := ho.sm (by omega)
  have hlen := dsort_length l
  have h0 := ho.1
  have hb := lsum_bound hs l.length
  rw [List.take_of_length_le (Nat.le_refl _)] at hb
  have hd : ∀ i : Nat, i < l.length → 0 ≤ rd (dsort l) (i : Int) ∧ rd (dsort l) (i : Int) ≤ 1000000 := fun i hi => by
    rw [rd_at _ i (by omega)]
    exact hs.2 _ ((dsort_perm l).mem_iff.1 (List.getElem_mem _))
  have hK' : (0 : Int) < (K : Int) := by omega
  have q1 : 0 ≤ (lsum l + (K : Int) - 1) / (K : Int) := Int.ediv_nonneg (by omega) (by omega)
  have q2 : (lsum l + (K : Int) - 1) / (K : Int) ≤ lsum l + (K : Int) - 1 := Int.ediv_le_self _ (by omega)
  have q3 : wrap64 (Int.tdiv (wrap64 ((wrap64 (lsum l + (K : Int))) - 1)) (K : Int)) = (lsum l + (K : Int) - 1) / (K : Int) := by
    rw [w64 (x := lsum l + (K : Int)) (by omega) (by omega), w64 (x := lsum l + (K : Int) - 1) (by omega) (by omega), Int.tdiv_eq_ediv_of_nonneg (by omega), w64 (by omega) (by omega)]
  have hf : ref_Falling.f l = some (dsort l) := by
    unfold ref_Falling.f
    rw [if_pos (by omega), fallTo_is]
  unfold bval
  rw [fall_is, lsum_perm (dsort_perm l)]
  refine Ev.congr (f := fun k => (woggleref05_Sum.f k l).bind fun t105 => (if (K : Int) = 0 then (none) else (if ((dsort l).length : Int) > (K : Int) then (if 0 ≤ (wrap64 ((K : Int) - 1)) then (if (wrap64 ((K : Int) - 1)) < ((dsort l).length : Int) then (if 0 ≤ (K : Int) then (if (K : Int) < ((dsort l).length : Int) then (some (mx (mx (rd (dsort l) 0) (wrap64 (Int.tdiv (wrap64 ((wrap64 (t105 + (K : Int))) - 1)) (K : Int)))) (wrap64 ((rd (dsort l) (wrap64 ((K : Int) - 1))) + (rd (dsort l) (K : Int)))))) else (none)) else (none)) else (none)) else (none)) else (some (mx (rd (dsort l) 0) (wrap64 (Int.tdiv (wrap64 ((wrap64 (t105 + (K : Int))) - 1)) (K : Int)))))))) (fun k => by
    unfold woggleref05_Bound.f
    rw [hf, Option.bind_some, if_pos (by omega)]) (Ev.bind (sum_ev l hs) ?_)
  have ew : wrap64 ((K : Int) - 1) = (K : Int) - 1 := w64 (by omega) (by omega)
  by_cases c : (K : Int) < (l.length : Int)
  · have d1 := hd (K - 1) (by omega)
    have d2 := hd K (by omega)
    rw [show ((K - 1 : Nat) : Int) = (K : Int) - 1 by omega] at d1
    have e5 : wrap64 (rd (dsort l) ((K : Int) - 1) + rd (dsort l) (K : Int)) = rd (dsort l) ((K : Int) - 1) + rd (dsort l) (K : Int) := w64 (by omega) (by omega)
    rw [if_pos c]
    refine Ev.congr (f := fun _ => some _) (fun k => ?_) (Ev.now _)
    rw [if_neg (by omega), if_pos (by omega), ew, if_pos (by omega), if_pos (by omega), if_pos (by omega), if_pos (by omega), q3, e5]
  · rw [if_neg c]
    refine Ev.congr (f := fun _ => some _) (fun k => ?_) (Ev.now _)
    rw [if_neg (by omega), if_neg (by omega), q3]
/-! ### Greedy -/
def usd (n : Nat) (done : List Int) : List Bool := (List.range n).map (fun i : Nat => decide ((i : Int) ∈ done))
theorem usd_length (n : Nat) (done : List Int) : (usd n done).length = n := by simp [usd]
theorem usd_rd (n : Nat) (done : List Int) (i : Nat) (h : i < n) : rdOf false (usd n done) (i : Int) = decide ((i : Int) ∈ done) := by
  unfold rdOf usd
  rw [Int.toNat_natCast, List.getD_eq_getElem?_getD, List.getElem?_map, List.getElem?_range h]
  rfl
theorem usd_set (n : Nat) (done : List Int) (q : Nat) (h : q < n) : (usd n done).set q true = usd n (done ++ [(q : Int)]) := by
  apply List.ext_getElem
  · simp [usd]
  · intro i h1 h2
    simp only [usd, List.getElem_set, List.getElem_map, List.getElem_range, List.mem_append, List.mem_singleton]
    by_cases e : q = i
    · subst e; simp
    · rw [if_neg e]
      refine decide_eq_decide.2 ⟨fun h => .inl h, fun h => ?_⟩
      rcases h with h | h
      · exact h
      · omega
/-- p is the first one, in the order of the law, of those below i that are not yet given. -/
def Sel (l done : List Int) (i : Nat) (p : Int) : Prop := (p = -1 ∧ ∀ u : Nat, u < i → (u : Int) ∈ done) ∨ ∃ q : Nat, p = (q : Int) ∧ q < i ∧ (q : Int) ∉ done ∧ ∀ u : Nat, u < i → (u : Int) ∉ done → u = q ∨ glt l (q : Int) (u : Int)
theorem sel_loop (l : List Int) (hl : Sz l) (K : Int) (out load done : List Int) (x8 : Int) (R : List Int) (q : Nat) (hq : q < l.length) (hqd : (q : Int) ∉ done) (hqm : ∀ u : Nat, u < l.length → (u : Int) ∉ done → u = q ∨ glt l (q : Int) (u : Int)) (hR : Ev (fun k => woggleref05_Greedy.l2 k l K out load (usd l.length done) x8 (q : Int) 0 1) R) : ∀ (d i : Nat) (p : Int), i + d = l.length → Sel l done i p → Ev (fun k => woggleref05_Greedy.l1 k l K out load (usd l.length done) x8 p (i : Int)) R
  | 0, i, p, h, hs => by
    have hp : p = (q : Int) := by
      rcases hs with ⟨_, h2⟩ | ⟨q', rfl, h2, h3, h4⟩
      · exact absurd (h2 q (by omega)) hqd
      · rcases hqm q' (by omega) h3 with e | e
        · rw [e]
        · rcases h4 q (by omega) hqd with e2 | e2
          · rw [e2]
          · unfold glt at e e2; omega
    subst hp
    refine Ev.step (fun k => ?_) hR
    simp only [woggleref05_Greedy.l1]
    rw [if_neg (by omega)]
  | d + 1, i, p, h, hs => by
    have hlen := hl.1
    have hi : i < l.length := by omega
    have hw : wrap64 ((i : Int) + 1) = ((i + 1 : Nat) : Int) := by rw [w64 (by omega) (by omega)]; rfl
    have main : ∃ p', Sel l done (i + 1) p' ∧ ∀ k, woggleref05_Greedy.l1 (k + 1) l K out load (usd l.length done) x8 p (i : Int) = woggleref05_Greedy.l1 k l K out load (usd l.length done) x8 p' ((i + 1 : Nat) : Int) := by
      by_cases c : (i : Int) ∈ done
      · refine ⟨p, ?_, fun k => ?_⟩
        · rcases hs with ⟨h1, h2⟩ | ⟨q', h1, h2, h3, h4⟩
          · refine .inl ⟨h1, fun u hu => ?_⟩
            by_cases e : u = i
            · subst e; exact c
            · exact h2 u (by omega)
          · refine .inr ⟨q', h1, by omega, h3, fun u hu hud => ?_⟩
            by_cases e : u = i
            · subst e; exact absurd c hud
            · exact h4 u (by omega) hud
        · simp only [woggleref05_Greedy.l1]
          rw [if_pos (by omega), if_pos (by omega), if_pos (by rw [usd_length]; omega), usd_rd _ _ i hi, if_pos (decide_eq_true c), hw]
      · rcases hs with ⟨h1, h2⟩ | ⟨q', h1, h2, h3, h4⟩
        · refine ⟨(i : Int), .inr ⟨i, rfl, by omega, c, fun u hu hud => ?_⟩, fun k => ?_⟩
          · by_cases e : u = i
            · exact .inl e
            · exact absurd (h2 u (by omega)) hud
          · simp only [woggleref05_Greedy.l1]
            rw [if_pos (by omega), if_pos (by omega), if_pos (by rw [usd_length]; omega), usd_rd _ _ i hi, if_neg (by rw [decide_eq_true_iff]; exact c), if_pos (by omega), hw]
        · subst h1
          by_cases g : rd l (i : Int) > rd l (q' : Int)
          · refine ⟨(i : Int), .inr ⟨i, rfl, by omega, c, fun u hu hud => ?_⟩, fun k => ?_⟩
            · by_cases e : u = i
              · exact .inl e
              · rcases h4 u (by omega) hud with e2 | e2
                · subst e2; exact .inr (.inl g)
                · unfold glt at e2 ⊢
                  exact .inr (by omega)
            · simp only [woggleref05_Greedy.l1]
              rw [if_pos (by omega), if_pos (by omega), if_pos (by rw [usd_length]; omega), usd_rd _ _ i hi, if_neg (by rw [decide_eq_true_iff]; exact c), if_neg (by omega), if_pos (by omega), if_pos (by omega), if_pos g, hw]
          · refine ⟨(q' : Int), .inr ⟨q', rfl, by omega, h3, fun u hu hud => ?_⟩, fun k => ?_⟩
            · by_cases e : u = i
              · subst e
                refine .inr ?_
                unfold glt
                omega
              · exact h4 u (by omega) hud
            · simp only [woggleref05_Greedy.l1]
              rw [if_pos (by omega), if_pos (by omega), if_pos (by rw [usd_length]; omega), usd_rd _ _ i hi, if_neg (by rw [decide_eq_true_iff]; exact c), if_neg (by omega), if_pos (by omega), if_pos (by omega), if_neg g, hw]
    obtain ⟨p', s1, s2⟩ := main
    exact Ev.step s2 (sel_loop l hl K out load done x8 R q hq hqd hqm hR d (i + 1) p' (by omega) s1)
theorem min_loop2 (l : List Int) (hl : Sz l) (K : Nat) (hK : 0 < K) (hK2 : K < 1000) (out load : List Int) (us : List Bool) (x8 : Int) (q : Nat) (hq : q < l.length) (ho : out.length = l.length) (hv : load.length = K) (hu : us.length = l.length) (R : List Int) (hR : Ev (fun k => woggleref05_Greedy.l0 k l (K : Int) (out.set q (fm load : Int)) (load.set (fm load) (wrap64 (load.getD (fm load) 0 + rd l (q : Int)))) (us.set q true) (wrap64 (x8 + 1))) R) : ∀ (d i p : Nat), i + d = K → p < i → (∀ j, j < i → load.getD p 0 ≤ load.getD j 0) → (∀ j, j < p → load.getD p 0 < load.getD j 0) → Ev (fun k => woggleref05_Greedy.l2 k l (K : Int) out load us x8 (q : Int) (p : Int) (i : Int)) R
  | 0, i, p, h, hp, h1, h2 => by
    have e : p = fm load := fm_unique (by omega) (fun j hj => h1 j (by omega)) h2
    rw [← e] at hR
    refine Ev.step (fun k => ?_) hR
    simp only [woggleref05_Greedy.l2]
    rw [if_neg (by omega), if_pos (by omega), if_pos (by omega), if_pos (by omega), if_pos (by omega), if_pos (by omega), if_pos (by omega), rd_getD, Int.toNat_natCast, Int.toNat_natCast]
  | d + 1, i, p, h, hp, h1, h2 => by
    have hw : wrap64 ((i : Int) + 1) = ((i + 1 : Nat) : Int) := by rw [w64 (by omega) (by omega)]; rfl
    by_cases c : load.getD i 0 < load.getD p 0
    · refine Ev.step (fun k => ?_) (min_loop2 l hl K hK hK2 out load us x8 q hq ho hv hu R hR d (i + 1) i (by omega) (by omega) (fun j hj => by
        by_cases e : j = i
        · subst e; exact Int.le_refl _
        · have := h1 j (by omega); omega) (fun j hj => by have := h1 j hj; omega))
      simp only [woggleref05_Greedy.l2]
      rw [if_pos (by omega), if_pos (by omega), if_pos (by omega), if_pos (by omega), if_pos (by omega), rd_getD, rd_getD, if_pos c, hw]
    · refine Ev.step (fun k => ?_) (min_loop2 l hl K hK hK2 out load us x8 q hq ho hv hu R hR d (i + 1) p (by omega) (by omega) (fun j hj => by
        by_cases e : j = i
        · subst e; omega
        · exact h1 j (by omega)) h2)
      simp only [woggleref05_Greedy.l2]
      rw [if_pos (by omega), if_pos (by omega), if_pos (by omega), if_pos (by omega), if_pos (by omega), rd_getD, rd_getD, if_neg c, hw]
theorem rGreedy_loop (l : List Int) (hl : Sz l) (h0 : 0 < l.length) (K : Nat) (hK : 0 < K) (hK2 : K < 1000) : ∀ (d j : Nat) (s : List Int × List Int), j + d = l.length → s.1.length = l.length → s.2.length = K → (∀ t, 0 ≤ s.2.getD t 0 ∧ s.2.getD t 0 ≤ 1000000 * (j : Int)) →
    Ev (fun k => woggleref05_Greedy.l0 k l (K : Int) s.1 s.2 (usd l.length ((gorder l).take j)) (j : Int)) (((gorder l).drop j).foldl (gstep l) s).1
  | 0, j, s, h, h1, h2, h3 => by
    rw [drop_end (gorder l) j (by rw [gorder_length]; omega), List.foldl_nil]
    refine Ev.step (f := fun _ => some s.1) (fun k => ?_) (Ev.now _)
    simp only [woggleref05_Greedy.l0]
    rw [if_neg (by omega)]
  | d + 1, j, s, h, h1, h2, h3 => by
    obtain ⟨o1, o2⟩ := gorder_spec l hl h0
    have hgl := gorder_length l
    have hlen := hl.1
    have hj : j < (gorder l).length := by omega
    obtain ⟨q, hq1, hq2⟩ : ∃ q : Nat, (gorder l)[j] = (q : Int) ∧ q < l.length := by
      have := o1.mem_iff.1 (List.getElem_mem hj)
      simp only [List.mem_map, List.mem_range] at this
      obtain ⟨q, g1, g2⟩ := this
      exact ⟨q, g2.symm, g1⟩
    have hsort := List.pairwise_iff_getElem.1 o2
    have hqd : (q : Int) ∉ (gorder l).take j := fun hm => by
      obtain ⟨i, hi, e⟩ := List.getElem_of_mem hm
      rw [List.length_take] at hi
      rw [List.getElem_take] at e
      have := hsort i j (by omega) hj (by omega)
      rw [e, hq1] at this
      unfold glt at this
      omega
    have hqm : ∀ u : Nat, u < l.length → (u : Int) ∉ (gorder l).take j → u = q ∨ glt l (q : Int) (u : Int) := fun u hu hud => by
      have hum : (u : Int) ∈ gorder l := o1.mem_iff.2 (List.mem_map.2 ⟨u, List.mem_range.2 hu, rfl⟩)
      obtain ⟨i, hi, e⟩ := List.getElem_of_mem hum
      rcases Nat.lt_trichotomy i j with c | c | c
      · exfalso
        apply hud
        rw [← e]
        exact List.mem_take_iff_getElem.2 ⟨i, by omega, rfl⟩
      · subst c
        rw [hq1] at e
        exact .inl (by omega)
      · have := hsort j i hj hi c
        rw [hq1, e] at this
        exact .inr this
    obtain ⟨f1, f2, f3⟩ := fm_spec s.2 (by omega)
    have hp : 0 ≤ rd l (q : Int) ∧ rd l (q : Int) ≤ 1000000 := by rw [rd_at l q hq2]; exact hl.at q hq2
    have hb := h3 (fm s.2)
    have ih := rGreedy_loop l hl h0 K hK hK2 d (j + 1) (gstep l s (q : Int)) (by omega) (by simp [gstep, h1]) (by simp [gstep, gst, h2]) (fun t => by
      have := h3 t
      have e : (gstep l s (q : Int)).2.getD t 0 = if t = fm s.2 then s.2.getD t 0 + rd l (q : Int) else s.2.getD t 0 := gst_getD (by omega) t
      rw [e]
      split <;> omega)
    rw [List.take_succ_eq_append_getElem hj, hq1, ← usd_set _ _ q hq2] at ih
    rw [drop_at (gorder l) j hj, List.foldl_cons, hq1]
    have hz := min_loop2 l hl K hK hK2 s.1 s.2 (usd l.length ((gorder l).take j)) (j : Int) q hq2 h1 h2 (usd_length _ _) _ (Ev.congr (fun k => by
      rw [w64 (x := s.2.getD (fm s.2) 0 + rd l (q : Int)) (by omega) (by omega), w64 (x := (j : Int) + 1) (by omega) (by omega)]
      rfl) ih) (K - 1) 1 0 (by omega) (by omega) (fun j hj => by
        have : j = 0 := by omega
        subst this; exact Int.le_refl _) (fun j hj => by omega)
    have hs := sel_loop l hl (K : Int) s.1 s.2 ((gorder l).take j) (j : Int) _ q hq2 hqd hqm hz l.length 0 (-1) (by omega) (.inl ⟨rfl, fun u hu => by omega⟩)
    refine Ev.step (fun k => ?_) hs
    simp only [woggleref05_Greedy.l0]
    rw [if_pos (by omega)]
    rfl
theorem rGreedy_ev (l : List Int) (hl : Sz l) (h0 : 0 < l.length) (K : Nat) (hK : 0 < K) (hK2 : K < 1000) : Ev (fun k => woggleref05_Greedy.f k l (K : Int)) (gall l K (gorder l)).1 := by
  have hlen := hl.1
  have hz : ∀ t, (List.replicate K (0 : Int)).getD t 0 = 0 := fun t => by
    simp only [List.getD_eq_getElem?_getD, List.getElem?_replicate]
    split <;> rfl
  have h := rGreedy_loop l hl h0 K hK hK2 l.length 0 (List.replicate l.length 0, List.replicate K 0) (by omega) (by simp) (by simp) (fun t => by
    show 0 ≤ (List.replicate K (0 : Int)).getD t 0 ∧ _
    rw [hz]; omega)
  have e : usd l.length ((gorder l).take 0) = List.replicate l.length false := by
    rw [List.take_zero]
    apply List.ext_getElem
    · simp [usd]
    · intro i h1 h2
      simp [usd]
  rw [e] at h
  refine Ev.congr (fun k => ?_) h
  simp only [woggleref05_Greedy.f]
  rw [if_pos (by omega), if_pos (by omega), if_pos (by omega), if_pos (by omega), if_pos (by omega), Int.toNat_natCast, Int.toNat_natCast]
  rfl
end Go.Proofs.Ytpfbdpeohlohoaa.S
