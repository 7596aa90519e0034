/- What tug.Greedy comes to: its order of the pulls is stable, its loads are those of the falling pulls. No condition. -/
import Derived.Test.YtpfbdpeohlohoaaS4
import Derived.Test.YtpfbdpeohlohoaaHGreedy
import Derived.Sort.LotA
import Derived.Sort.Lot0
namespace Go.Proofs.Ytpfbdpeohlohoaa.S
open Go.Sort hiding rd
open Go.Proofs.Ytpfbdpeohlohoaa.Ga Go.Proofs.Ytpfbdpeohlohoaa.H Go.Proofs.Ytpfbdpeohlohoaa.M
open Go.RowKit Go.Proofs.YtpfbdpeohlohoaaW.PrintWords Go.Proofs.YtpfbdpeohlohoaaW.PrintLast Go.Proofs.YtpfbdpeohlohoaaW.PrintMore
set_option linter.unusedVariables false
set_option linter.unusedSimpArgs false
/-! ### A sort by insertion of rising indices is stable -/
section
variable {n : Nat} [Inhabited (Fin n)] (lt lt2 : Fin n → Fin n → Bool)
theorem inn_eq (h : ∀ x y : Fin n, y < x → lt x y = lt2 x y) : ∀ (j : Nat) (d : Array (Fin n)), j < d.size → (∀ t, t < j → d[t]! < d[j]!) → insInner lt 0 j d = insInner lt2 0 j d
  | 0, d, _, _ => rfl
  | j + 1, d, hj, hd => by
    have h1 := h d[j + 1]! d[j]! (hd j (by omega))
    unfold insInner
    rw [h1]
    split
    · refine inn_eq h j (swp d (j + 1) j) (by rw [size_swp]; omega) (fun t ht => ?_)
      rw [swp_other d (j + 1) j t (by omega) (by omega), swp_right d (j + 1) j (by omega)]
      exact hd t (by omega)
    · rfl
theorem inn_le (b : Nat) : ∀ (j : Nat) (d : Array (Fin n)), j < d.size → (∀ t, t ≤ j → d[t]!.val ≤ b) → (∀ t, t ≤ j → (insInner lt 0 j d)[t]!.val ≤ b) ∧ ∀ t, j < t → (insInner lt 0 j d)[t]! = d[t]!
  | 0, d, _, hd => ⟨hd, fun t _ => rfl⟩
  | j + 1, d, hj, hd => by
    unfold insInner
    split
    · obtain ⟨i1, i2⟩ := inn_le b j (swp d (j + 1) j) (by rw [size_swp]; omega) (fun t ht => by
        by_cases e : t = j
        · subst e
          rw [swp_right d (t + 1) t (by omega)]
          exact hd _ (Nat.le_refl _)
        · rw [swp_other d (j + 1) j t (by omega) e]
          exact hd t (by omega))
      refine ⟨fun t ht => ?_, fun t ht => ?_⟩
      · by_cases e : t = j + 1
        · subst e
          rw [i2 _ (by omega), swp_left d (j + 1) j hj (by omega)]
          exact hd j (by omega)
        · exact i1 t (by omega)
      · rw [i2 t (by omega), swp_other d (j + 1) j t (by omega) (by omega)]
    · exact ⟨hd, fun t _ => rfl⟩
theorem out_eq (h : ∀ x y : Fin n, y < x → lt x y = lt2 x y) : ∀ (c i : Nat) (d : Array (Fin n)), i + c = n → d.size = n → (∀ t, t < i → d[t]!.val < i) → (∀ t, i ≤ t → t < n → d[t]!.val = t) → insOuter lt 0 n i d = insOuter lt2 0 n i d
  | 0, i, d, hc, _, _, _ => by
    have e : ∀ l : Fin n → Fin n → Bool, insOuter l 0 n i d = d := fun l => by rw [insOuter, if_neg (by omega)]
    rw [e, e]
  | c + 1, i, d, hc, hs, h1, h2 => by
    have e : ∀ l : Fin n → Fin n → Bool, insOuter l 0 n i d = insOuter l 0 n (i + 1) (insInner l 0 i d) := fun l => by rw [insOuter, if_pos (by omega)]
    have hi : insInner lt 0 i d = insInner lt2 0 i d := inn_eq lt lt2 h i d (by omega) (fun t ht => by
      have a := h1 t ht
      have b := h2 i (Nat.le_refl _) (by omega)
      show d[t]!.val < d[i]!.val
      omega)
    rw [e, e, ← hi]
    obtain ⟨i1, i2⟩ := inn_le lt i i d (by omega) (fun t ht => by
      by_cases e : t = i
      · subst e; have := h2 t (Nat.le_refl _) (by omega); omega
      · have := h1 t (by omega); omega)
    refine out_eq h c (i + 1) _ (by omega) (by rw [size_insInner]; exact hs) (fun t ht => ?_) (fun t ht htn => ?_)
    · have := i1 t (by omega); omega
    · rw [i2 t (by omega)]; exact h2 t (by omega) htn
end
theorem ext_all {α : Type} (d : Array α) (k : Nat) (h : d.size = k) : d.extract 0 k = d := by subst h; simp
def glt (l : List Int) (i j : Int) : Prop := rd l j < rd l i ∨ (rd l i = rd l j ∧ i < j)
instance (l : List Int) (i j : Int) : Decidable (glt l i j) := inferInstanceAs (Decidable (_ ∨ _))
theorem gorder_spec (l : List Int) (hl : Sz l) (h0 : 0 < l.length) : (gorder l).Perm ((List.range l.length).map (fun i : Nat => (i : Int))) ∧ (gorder l).Pairwise (glt l) := by
  letI : Inhabited (Fin l.length) := ⟨⟨0, h0⟩⟩
  have hb : ∀ i : Fin l.length, 0 ≤ rd l (i.val : Int) ∧ rd l (i.val : Int) ≤ 1000000 := fun i => by
    rw [rd_at l i.val i.isLt]
    exact hl.at i.val i.isLt
  have hlt : ∀ i j : Fin l.length, ltOf (gcmp l) i j = decide (rd l (j.val : Int) < rd l (i.val : Int)) := fun i j => by
    have h1 := hb i
    have h2 := hb j
    have e : wrap64 (rd l (j.val : Int) - rd l (i.val : Int)) = rd l (j.val : Int) - rd l (i.val : Int) := w64 (by omega) (by omega)
    unfold ltOf gcmp
    rw [e]
    exact decide_eq_decide.2 (by omega)
  let lt2 : Fin l.length → Fin l.length → Bool := fun i j => decide (glt l (i.val : Int) (j.val : Int))
  have hS : SWO lt2 := ⟨fun x => decide_eq_false (fun h => by unfold glt at h; omega), fun x y z h1 h2 => by
      have a := of_decide_eq_true h1
      have b := of_decide_eq_true h2
      refine decide_eq_true ?_
      unfold glt at *
      omega, fun x y z h1 h2 => by
      have a := of_decide_eq_false h1
      have b := of_decide_eq_false h2
      refine decide_eq_false ?_
      unfold glt at *
      omega⟩
  have hsz : (Array.ofFn fun i : Fin l.length => i).size = l.length := by simp
  have hget : ∀ t (h : t < l.length), (Array.ofFn fun i : Fin l.length => i)[t]! = ⟨t, h⟩ := fun t h => by
    rw [getElem!_pos _ t (by simpa using h)]
    simp
  have e : gsorted l h0 = Sort.insertionSort lt2 (Array.ofFn fun i : Fin l.length => i) 0 l.length := by
    unfold gsorted Sort.insertionSort
    refine out_eq _ lt2 (fun x y hxy => ?_) (l.length - 1) 1 _ (by omega) hsz (fun t ht => ?_) (fun t ht htn => by rw [hget t htn])
    · rw [hlt]
      refine decide_eq_decide.2 ?_
      have hv : y.val < x.val := hxy
      unfold glt
      omega
    · have : t = 0 := by omega
      subst this
      rw [hget 0 h0]
      exact Nat.lt_succ_self 0
  obtain ⟨⟨p1, _, p3⟩, s⟩ := insertionSort_holds (lt := lt2) hS (Array.ofFn fun i : Fin l.length => i) 0 l.length (Nat.zero_le _) (by rw [hsz]; exact Nat.le_refl _)
  rw [← e] at p1 p3 s
  have p4 : (gsorted l h0).toList.Perm (List.ofFn fun i : Fin l.length => i) := by
    have q1 : (gsorted l h0).extract 0 l.length = gsorted l h0 := ext_all _ _ (by rw [p1, hsz])
    have q2 : (Array.ofFn fun i : Fin l.length => i).extract 0 l.length = Array.ofFn fun i : Fin l.length => i := ext_all _ _ hsz
    rw [q1, q2] at p3
    simpa using p3
  have eo : gorder l = (gsorted l h0).toList.map (fun i => (i.val : Int)) := by unfold gorder; rw [dif_pos h0]
  rw [eo]
  constructor
  · refine (p4.map _).trans (List.Perm.of_eq ?_)
    apply List.ext_getElem
    · simp
    · intro i h1 h2
      simp
  · rw [List.pairwise_map, List.pairwise_iff_getElem]
    intro i j hi hj hij
    have hi2 : i < (gsorted l h0).size := by simpa using hi
    have hj2 : j < (gsorted l h0).size := by simpa using hj
    have hs := s i j (Nat.zero_le _) hij (by omega)
    rw [getElem!_pos _ i hi2, getElem!_pos _ j hj2] at hs
    have hne : (gsorted l h0)[i] ≠ (gsorted l h0)[j] := fun he => by
      have nd : (gsorted l h0).toList.Nodup := p4.nodup_iff.2 (by
        rw [List.nodup_iff_pairwise_ne, List.pairwise_iff_getElem]
        intro a b ha hb hab heq
        simp at heq
        omega)
      have := List.pairwise_iff_getElem.1 nd i j hi hj hij
      simp at this
      exact this he
    have hnv : (gsorted l h0)[i].val ≠ (gsorted l h0)[j].val := fun he => hne (Fin.ext he)
    have hs2 := of_decide_eq_false hs
    simp only [Array.getElem_toList]
    unfold glt at hs2 ⊢
    omega
theorem gorder_falls (l : List Int) (hl : Sz l) (h0 : 0 < l.length) : (gorder l).map (rd l) = dsort l := by
  obtain ⟨h1, h2⟩ := gorder_spec l hl h0
  refine (dsort_unique ?_ ?_).symm
  · refine (h1.map (rd l)).trans (List.Perm.of_eq ?_)
    rw [List.map_map]
    apply List.ext_getElem
    · simp
    · intro i a b
      simp only [List.getElem_map, List.getElem_range, Function.comp]
      exact rd_at l i b
  · rw [List.pairwise_map]
    exact h2.imp (fun {a b} h => by unfold glt at h; omega)
/-! ### The greedy teams -/
theorem index_loop (v : List Int) (m : Int) (hl : v.length < 1000000) (p : Nat) (hp : p < v.length) (h1 : v.getD p 0 = m) (h2 : ∀ j, j < p → v.getD j 0 ≠ m) : ∀ (d i : Nat), i + d = p → Ev (fun k => slices_Index_int_int.l0 k v m (v.length : Int) (i : Int)) (p : Int)
  | 0, i, h => by
    have e : i = p := by omega
    subst e
    refine Ev.step (f := fun _ => some (i : Int)) (fun k => ?_) (Ev.now _)
    simp only [slices_Index_int_int.l0]
    rw [if_pos (by omega), if_pos (by omega), if_pos (by omega), if_pos (by rw [rd_getD]; exact h1.symm)]
  | d + 1, i, h => by
    refine Ev.step (fun k => ?_) (index_loop v m hl p hp h1 h2 d (i + 1) (by omega))
    simp only [slices_Index_int_int.l0]
    rw [if_pos (by omega), if_pos (by omega), if_pos (by omega), if_neg (by rw [rd_getD]; exact fun e => h2 i (by omega) e.symm), w64 (by omega) (by omega)]
    rfl
/-- One pull is given to the first team with the least load. -/
def gstep (l : List Int) (s : List Int × List Int) (i : Int) : List Int × List Int := (s.1.set i.toNat (fm s.2 : Int), gst s.2 (rd l i))
def gall (l : List Int) (K : Nat) (ord : List Int) : List Int × List Int := ord.foldl (gstep l) (List.replicate l.length 0, List.replicate K 0)
theorem gstep_len (l : List Int) : ∀ (ord : List Int) (s : List Int × List Int), (ord.foldl (gstep l) s).1.length = s.1.length ∧ (ord.foldl (gstep l) s).2.length = s.2.length
  | [], s => ⟨rfl, rfl⟩
  | i :: ord, s => by
    obtain ⟨h1, h2⟩ := gstep_len l ord (gstep l s i)
    rw [List.foldl_cons, h1, h2]
    simp [gstep, gst]
theorem gall_loads (l : List Int) : ∀ (ord : List Int) (s : List Int × List Int), (ord.foldl (gstep l) s).2 = (ord.map (rd l)).foldl gst s.2
  | [], s => rfl
  | i :: ord, s => by rw [List.foldl_cons, List.map_cons, List.foldl_cons, gall_loads l ord]; rfl
/-- The part of the loads that some pulls bear. -/
def asum (l out : List Int) (t : Int) (ord : List Int) : Int := lsum (ord.map (fun i => if rd out i = t then rd l i else 0))
theorem asum_congr (l out out' : List Int) (t : Int) (ord : List Int) (h : ∀ i ∈ ord, rd out i = rd out' i) : asum l out t ord = asum l out' t ord := by
  unfold asum
  rw [List.map_congr_left (fun i hi => by rw [h i hi])]
theorem rd_set (out : List Int) (i j x : Int) (hi : 0 ≤ i) (hj : 0 ≤ j) (h : i < (out.length : Int)) : rd (out.set i.toNat x) j = if j = i then x else rd out j := by
  unfold rd
  rw [getD_set out i.toNat j.toNat x (by omega)]
  by_cases e : j = i
  · rw [if_pos e, if_pos (by omega)]
  · rw [if_neg e, if_neg (by omega)]
theorem gall_teams (l : List Int) (K : Nat) (hK : 0 < K) : ∀ (ord done : List Int) (s : List Int × List Int), (done ++ ord).Nodup → (∀ i ∈ done ++ ord, 0 ≤ i ∧ i < (l.length : Int)) → s.1.length = l.length → s.2.length = K → (∀ x ∈ s.1, 0 ≤ x ∧ x < (K : Int)) → (∀ t : Nat, s.2.getD t 0 = asum l s.1 (t : Int) done) →
    (∀ x ∈ (ord.foldl (gstep l) s).1, 0 ≤ x ∧ x < (K : Int)) ∧ ∀ t : Nat, (ord.foldl (gstep l) s).2.getD t 0 = asum l (ord.foldl (gstep l) s).1 (t : Int) (done ++ ord)
  | [], done, s, _, _, _, _, h1, h2 => by simpa using ⟨h1, h2⟩
  | i :: ord, done, s, hn, hr, hs1, hs2, h1, h2 => by
    have hi := hr i (by simp)
    obtain ⟨f1, _, _⟩ := fm_spec s.2 (by omega)
    have hnd : i ∉ done := fun hmem => by
      have := (List.nodup_append.1 hn).2.2 i hmem i (by simp)
      exact this rfl
    have e : done ++ i :: ord = (done ++ [i]) ++ ord := by simp
    rw [List.foldl_cons, e]
    refine gall_teams l K hK ord (done ++ [i]) (gstep l s i) (by rw [← e]; exact hn) (by rw [← e]; exact hr) (by simp [gstep, hs1]) (by simp [gstep, gst, hs2]) (fun x hx => ?_) (fun t => ?_)
    · rcases List.mem_or_eq_of_mem_set hx with hx | hx
      · exact h1 x hx
      · subst hx; omega
    · have a1 : asum l (gstep l s i).1 (t : Int) (done ++ [i]) = asum l (gstep l s i).1 (t : Int) done + (if rd (gstep l s i).1 i = (t : Int) then rd l i else 0) := by
        unfold asum
        rw [List.map_append, lsum_append]
        simp [lsum]
      have a2 : asum l (gstep l s i).1 (t : Int) done = asum l s.1 (t : Int) done := asum_congr _ _ _ _ _ (fun j hj => by
        have := hr j (by simp [hj])
        show rd (s.1.set i.toNat _) j = _
        rw [rd_set s.1 i j _ hi.1 this.1 (by omega), if_neg (fun e2 : j = i => hnd (by rw [← e2]; exact hj))])
      have a3 : rd (gstep l s i).1 i = (fm s.2 : Int) := by
        show rd (s.1.set i.toNat _) i = _
        rw [rd_set s.1 i i _ hi.1 hi.1 (by omega), if_pos rfl]
      have a4 : (gstep l s i).2.getD t 0 = if t = fm s.2 then s.2.getD t 0 + rd l i else s.2.getD t 0 := gst_getD (by omega) t
      rw [a1, a2, a3, a4, ← h2 t]
      by_cases c : t = fm s.2
      · rw [if_pos c, if_pos (by omega)]
      · rw [if_neg c, if_neg (by omega)]; omega
theorem tl_asum : ∀ (l out : List Int) (t : Int), out.length = l.length → tl l out t = asum l out t ((List.range l.length).map (fun i : Nat => (i : Int)))
  | [], _, _, _ => by simp [tl, asum, lsum]
  | p :: l, [], _, h => absurd h (by simp)
  | p :: l, x :: out, t, h => by
    have ih := tl_asum l out t (by simpa using h)
    simp only [tl, ih, asum, List.length_cons, List.range_succ_eq_map, List.map_cons, List.map_map, lsum]
    congr 1
/-- All that is known of the greedy teams. -/
theorem gall_spec (l : List Int) (hl : Sz l) (h0 : 0 < l.length) (K : Nat) (hK : 0 < K) : Val K l (gall l K (gorder l)).1 ∧ (gall l K (gorder l)).2 = grs K (dsort l) ∧ ld K l (gall l K (gorder l)).1 = vmx (grs K (dsort l)) := by
  obtain ⟨o1, o2⟩ := gorder_spec l hl h0
  have hr : ∀ i ∈ gorder l, 0 ≤ i ∧ i < (l.length : Int) := fun i hi => by
    have := o1.mem_iff.1 hi
    simp at this
    omega
  have hn : (gorder l).Nodup := by
    refine o2.imp (fun {a b} h e => ?_)
    subst e
    unfold glt at h
    omega
  have h2 : (gall l K (gorder l)).2 = grs K (dsort l) := by
    unfold gall grs
    rw [gall_loads, gorder_falls l hl h0]
  have hz : ∀ t, (List.replicate K (0 : Int)).getD t 0 = 0 := fun t => by
    simp only [List.getD_eq_getElem?_getD, List.getElem?_replicate]
    split <;> rfl
  obtain ⟨g1, g2⟩ := gall_teams l K hK (gorder l) [] (List.replicate l.length 0, List.replicate K 0) (by simpa using hn) (by simpa using hr) (by simp) (by simp) (fun x hx => by
    have := List.eq_of_mem_replicate hx
    omega) (fun t => by
    show (List.replicate K (0 : Int)).getD t 0 = _
    rw [hz]
    rfl)
  have hlen : (gall l K (gorder l)).1.length = l.length := by
    unfold gall
    rw [(gstep_len l _ _).1]
    simp
  refine ⟨⟨hlen, g1⟩, h2, ?_⟩
  unfold ld vmx
  rw [grs_length]
  refine mxk_congr (fun t ht => ?_)
  have g3 := g2 t
  rw [List.nil_append] at g3
  rw [← h2, tl_asum l _ _ hlen]
  show _ = (List.foldl (gstep l) _ (gorder l)).2.getD t 0
  rw [g3]
  exact (lsum_perm (o1.map _)).symm
theorem greedy_loop (l : List Int) (hl : Sz l) (hn : l.length < 20) (K : Nat) (hK : 0 < K) (hK2 : K < 1000) (ord : List Int) (ho : ord.length = l.length) (hr : ∀ i ∈ ord, 0 ≤ i ∧ i < (l.length : Int)) : ∀ (d j : Nat) (s : List Int × List Int), j + d = ord.length → s.1.length = l.length → s.2.length = K → (∀ t, 0 ≤ s.2.getD t 0 ∧ s.2.getD t 0 ≤ 1000000 * (j : Int)) →
    Ev (fun k => greedy.l0 l ord k s.1 s.2 (j : Int)) (vmx ((ord.drop j).foldl (gstep l) s).2, ((ord.drop j).foldl (gstep l) s).1, 0)
  | 0, j, s, h, h1, h2, h3 => by
    rw [drop_end ord j (by omega)]
    have hm := max_vec K hK (by omega) s.2 h2 (fun t => (h3 t).1)
    refine Ev.step (f := fun k => (slices_Max_int_int.f k s.2).bind fun m => some (m, s.1, 0)) (fun k => by
      simp only [greedy.l0]
      rw [if_neg (by omega)]) (Ev.bind hm ?_)
    rw [List.foldl_nil]
    unfold vmx
    rw [h2]
    exact Ev.now _
  | d + 1, j, s, h, h1, h2, h3 => by
    have hj : j < ord.length := by omega
    obtain ⟨f1, f2, f3⟩ := fm_spec s.2 (by omega)
    obtain ⟨m, m1, m2, m3⟩ := min_ev s.2 (by omega) (by omega)
    have em : s.2.getD (fm s.2) 0 = m := by
      have a : m ≤ s.2.getD (fm s.2) 0 := by
        rw [List.getD_eq_getElem?_getD, List.getElem?_eq_getElem f1]
        exact m3 _ (List.getElem_mem f1)
      obtain ⟨i, hi, rfl⟩ := List.getElem_of_mem m2
      have b := f2 i hi
      rw [show s.2.getD i 0 = s.2[i] by rw [List.getD_eq_getElem?_getD, List.getElem?_eq_getElem hi]; rfl] at b
      omega
    have ix : Ev (fun k => slices_Index_int_int.f k s.2 m) (fm s.2 : Int) := index_loop s.2 m (by omega) (fm s.2) f1 em (fun j hj => by have := f3 j hj; omega) (fm s.2) 0 (by omega)
    have hi := hr ord[j] (List.getElem_mem hj)
    have hx : rd ord (j : Int) = ord[j] := rd_at ord j hj
    have hp : 0 ≤ rd l ord[j] ∧ rd l ord[j] ≤ 1000000 := by
      have := hl.at ord[j].toNat (by omega)
      have e : rd l ord[j] = l[ord[j].toNat] := by
        have := rd_at l ord[j].toNat (by omega)
        rwa [Int.toNat_of_nonneg hi.1] at this
      rw [e]; exact this
    have hb := h3 (fm s.2)
    have ih := greedy_loop l hl hn K hK hK2 ord ho hr d (j + 1) (gstep l s ord[j]) (by omega) (by simp [gstep, h1]) (by simp [gstep, gst, h2]) (fun t => by
      have := h3 t
      have e : (gstep l s ord[j]).2.getD t 0 = if t = fm s.2 then s.2.getD t 0 + rd l ord[j] else s.2.getD t 0 := gst_getD (by omega) t
      rw [e]
      split <;> omega)
    rw [drop_at ord j hj, List.foldl_cons]
    refine Ev.step (f := fun k => (slices_Min_int_int.f k s.2).bind fun m => ((slices_Index_int_int.f k s.2 m).bind fun t => (if 0 ≤ t ∧ t < (s.2.length : Int) ∧ 0 ≤ rd ord (j : Int) ∧ rd ord (j : Int) < (s.1.length : Int) ∧ rd ord (j : Int) < (l.length : Int) then (greedy.l0 l ord k (s.1.set (rd ord (j : Int)).toNat t) (s.2.set t.toNat (wrap64 (rd s.2 t + rd l (rd ord (j : Int))))) (wrap64 ((j : Int) + 1))) else none))) (fun k => by
      simp only [greedy.l0]
      rw [if_pos (by omega), if_pos (by omega)]) (Ev.bind m1 (Ev.bind ix ?_))
    refine Ev.congr (fun k => ?_) ih
    rw [hx, if_pos ⟨by omega, by omega, hi.1, by omega, hi.2⟩, rd_getD, Int.toNat_natCast, w64 (x := s.2.getD (fm s.2) 0 + rd l ord[j]) (by omega) (by omega), w64 (x := (j : Int) + 1) (by omega) (by omega)]
    rfl
theorem Greedy_ev (l : List Int) (K : Int) (hl : l.length < 1000000) : Ev (fun k => tug_Greedy.f k l K) (if whyB l 14 K = 0 then (vmx (grs K.toNat (dsort l)), (gall l K.toNat (gorder l)).1, 0) else (0, [], whyB l 14 K)) := by
  refine Ev.bind (check_ev l 14 hl) ?_
  by_cases c : whyB l 14 K = 0
  · obtain ⟨h1, h2, h3⟩ := whyB_ok.1 c
    obtain ⟨h4, h5⟩ := bad_ok.1 h1
    have hs := h5.sz (by omega)
    obtain ⟨o1, o2⟩ := gorder_spec l hs h5.1
    obtain ⟨g1, g2, g3⟩ := gall_spec l hs h5.1 K.toNat (by omega)
    have hz : ∀ t, (List.replicate K.toNat (0 : Int)).getD t 0 = 0 := fun t => by
      simp only [List.getD_eq_getElem?_getD, List.getElem?_replicate]
      split <;> rfl
    have h := greedy_loop l hs (by omega) K.toNat (by omega) (by omega) (gorder l) (gorder_length l) (fun i hi => by
      have := o1.mem_iff.1 hi
      simp at this
      omega) (gorder l).length 0 (List.replicate l.length 0, List.replicate K.toNat 0) (by omega) (by simp) (by simp) (fun t => by
      show 0 ≤ (List.replicate K.toNat (0 : Int)).getD t 0 ∧ _
      rw [hz]; omega)
    rw [if_pos c, ← g2]
    refine Ev.congr (fun k => ?_) h
    rw [if_pos h1, if_neg (by omega), if_neg (by omega), if_pos ⟨h5.1, by omega⟩]
    rfl
  · rw [if_neg c]
    unfold whyB at c ⊢
    by_cases c1 : bad l 14 = 0
    · rw [if_pos c1] at c ⊢
      by_cases c2 : K < 1
      · rw [if_pos (show K < 1 ∨ K > 4 from .inl c2)]
        exact Ev.congr (fun k => by rw [if_pos c1, if_pos c2]) (Ev.now _)
      · have c3 : K > 4 := by
          apply Classical.byContradiction
          intro h
          rw [if_neg (by omega)] at c
          exact c rfl
        rw [if_pos (show K < 1 ∨ K > 4 from .inr c3)]
        exact Ev.congr (fun k => by rw [if_pos c1, if_neg c2, if_pos c3]) (Ev.now _)
    · rw [if_neg c1]
      exact Ev.congr (fun k => by rw [if_neg c1]) (Ev.now _)
end Go.Proofs.Ytpfbdpeohlohoaa.S
