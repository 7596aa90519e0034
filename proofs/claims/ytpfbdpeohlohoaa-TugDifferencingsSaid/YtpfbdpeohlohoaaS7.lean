/- What woggleref05.Differencing comes to: the same tree's worth and sides as tug.Differencing. No condition. -/
import Derived.Test.YtpfbdpeohlohoaaS6
import Derived.Test.YtpfbdpeohlohoaaGd1
import Derived.Test.YtpfbdpeohlohoaaHLives
namespace Go.Proofs.Ytpfbdpeohlohoaa.S
open Go.Proofs.Ytpfbdpeohlohoaa.Ga Go.Proofs.Ytpfbdpeohlohoaa.Gd Go.Proofs.Ytpfbdpeohlohoaa.H Go.Proofs.Ytpfbdpeohlohoaa.M
open Go.RowKit Go.Proofs.YtpfbdpeohlohoaaW.PrintWords Go.Proofs.YtpfbdpeohlohoaaW.PrintLast Go.Proofs.YtpfbdpeohlohoaaW.PrintMore
set_option linter.unusedVariables false
set_option linter.unusedSimpArgs false
def sdl (n : Nat) (t : KT) : List Int := (List.range n).map (fun j : Nat => sdo t (j : Int))
theorem sdl_succ (n : Nat) (t : KT) : sdl (n + 1) t = sdl n t ++ [sdo t (n : Int)] := by simp [sdl, List.range_succ]
theorem sdl_length (n : Nat) (t : KT) : (sdl n t).length = n := by simp [sdl]
theorem rd_sdl (n : Nat) (t : KT) (j : Nat) (h : j < n) : rd (sdl n t) (j : Int) = sdo t (j : Int) := by
  rw [rd_at _ j (by rw [sdl_length]; exact h)]
  simp [sdl]
def tr (n : Nat) (t : KT) : S71 := ⟨t.worth, sdl n t⟩
theorem rd_tr (n : Nat) (us : List KT) (i : Nat) (h : i < us.length) : rd_T71 (us.map (tr n)) (i : Int) = tr n us[i] := by
  unfold rd_T71
  rw [Int.toNat_natCast, List.getD_eq_getElem?_getD, List.getElem?_map, List.getElem?_eq_getElem h]
  rfl
/-! ### One item is taken -/
theorem take_loop (n : Nat) (us : List KT) (hl : us.length < 1000) : ∀ (d i p : Nat) (hp : p < us.length), i + d = us.length → p < i → (∀ (j : Nat) (h : j < us.length), j < p → us[j].worth < us[p].worth) → (∀ (j : Nat) (h : j < us.length), p < j → j < i → us[j].worth ≤ us[p].worth) →
    ∃ q : Nat, ∃ hq : q < us.length, (∀ (j : Nat) (h : j < us.length), j < q → us[j].worth < us[q].worth) ∧ (∀ (j : Nat) (h : j < us.length), q < j → us[j].worth ≤ us[q].worth) ∧ Ev (fun k => take.l0 (us.map (tr n)) k (p : Int) (i : Int)) (us[q].worth, sdl n us[q], (us.take q ++ us.drop (q + 1)).map (tr n))
  | 0, i, p, hp, h, hpi, h1, h2 => by
    refine ⟨p, hp, h1, fun j hj hpj => h2 j hj hpj (by omega), ?_⟩
    refine Ev.step (f := fun _ => some _) (fun k => ?_) (Ev.now _)
    simp only [take.l0]
    rw [if_pos ⟨by omega, by rw [List.length_map]; omega, by omega⟩, if_neg (by rw [List.length_map]; omega), rd_tr n us p hp, Int.toNat_natCast, ← List.map_take, ← List.map_drop, ← List.map_append]
    rfl
  | d + 1, i, p, hp, h, hpi, h1, h2 => by
    have hi : i < us.length := by omega
    by_cases c : us[i].worth > us[p].worth
    · obtain ⟨q, hq, q1, q2, q3⟩ := take_loop n us hl d (i + 1) i hi (by omega) (by omega) (fun j hj hji => by
        rcases Nat.lt_trichotomy j p with e | e | e
        · have := h1 j hj e; omega
        · subst e; exact c
        · have := h2 j hj e hji; omega) (fun j hj e1 e2 => by omega)
      refine ⟨q, hq, q1, q2, Ev.step (fun k => ?_) q3⟩
      simp only [take.l0]
      rw [if_pos ⟨by omega, by rw [List.length_map]; omega, by omega⟩, if_pos (by rw [List.length_map]; omega), rd_tr n us p hp, rd_tr n us i hi, if_pos (show (tr n us[i]).f0 > (tr n us[p]).f0 from c), w64 (by omega) (by omega)]
      rfl
    · obtain ⟨q, hq, q1, q2, q3⟩ := take_loop n us hl d (i + 1) p hp (by omega) (by omega) h1 (fun j hj e1 e2 => by
        by_cases e : j = i
        · subst e; omega
        · exact h2 j hj e1 (by omega))
      refine ⟨q, hq, q1, q2, Ev.step (fun k => ?_) q3⟩
      simp only [take.l0]
      rw [if_pos ⟨by omega, by rw [List.length_map]; omega, by omega⟩, if_pos (by rw [List.length_map]; omega), rd_tr n us p hp, rd_tr n us i hi, if_neg (show ¬ (tr n us[i]).f0 > (tr n us[p]).f0 from c), w64 (by omega) (by omega)]
      rfl
theorem take_ev (n : Nat) (us : List KT) (h0 : 0 < us.length) (hl : us.length < 1000) : ∃ A a B, us = A ++ a :: B ∧ (∀ x ∈ A, x.worth < a.worth) ∧ (∀ x ∈ B, x.worth ≤ a.worth) ∧ Ev (fun k => ref_take.f k (us.map (tr n))) (a.worth, sdl n a, (A ++ B).map (tr n)) := by
  obtain ⟨q, hq, q1, q2, q3⟩ := take_loop n us hl (us.length - 1) 1 0 h0 (by omega) (by omega) (fun j _ h => by omega) (fun j _ h1 h2 => by omega)
  refine ⟨us.take q, us[q], us.drop (q + 1), ?_, fun x hx => ?_, fun x hx => ?_, ?_⟩
  · rw [← List.drop_eq_getElem_cons hq, List.take_append_drop]
  · obtain ⟨j, hj, rfl⟩ := List.getElem_of_mem hx
    rw [List.length_take] at hj
    rw [List.getElem_take]
    exact q1 j (by omega) (by omega)
  · obtain ⟨j, hj, rfl⟩ := List.getElem_of_mem hx
    rw [List.length_drop] at hj
    rw [List.getElem_drop]
    exact q2 _ (by omega) (by omega)
  · refine Ev.congr (fun k => ?_) q3
    simp only [ref_take.f]
    rw [if_pos (by rw [List.length_map]; exact hl)]
    rfl
/-! ### The sort -/
theorem ms_lt (ts : List KT) (h : (ts.map KT.made).Nodup) : (ts.mergeSort KT.le).Pairwise (fun a b => KT.lt a b = true) := by
  have hp := List.mergeSort_perm ts KT.le
  have h1 : ((ts.mergeSort KT.le).map KT.made).Nodup := (hp.map KT.made).nodup_iff.2 h
  have h2 : (ts.mergeSort KT.le).Pairwise (fun a b => KT.le a b = true) := List.pairwise_mergeSort (fun a b c h1 h2 => by
    simp only [KT.le, Bool.not_eq_true', KT.nlt_iff] at *; omega) (fun a b => by simp only [KT.le, Bool.or_eq_true, Bool.not_eq_true', KT.nlt_iff]; omega) ts
  have h3 : (ts.mergeSort KT.le).Pairwise (fun a b => a.made ≠ b.made) := List.pairwise_map.1 h1
  refine (h2.and h3).imp (fun {a b} h => ?_)
  obtain ⟨h4, h5⟩ := h
  simp only [KT.le, Bool.not_eq_true', KT.nlt_iff] at h4
  rw [KT.lt_iff]
  omega
theorem made_nodup {us : List KT} (h : us.Pairwise (fun a b => a.made < b.made)) : (us.map KT.made).Nodup := by
  refine List.pairwise_map.2 (h.imp (fun {a b} h => ?_))
  omega
theorem sort_first {ts us A B : List KT} {a : KT} (hp : ts.Perm us) (e : us = A ++ a :: B) (hm : us.Pairwise (fun a b => a.made < b.made)) (h1 : ∀ x ∈ A, x.worth < a.worth) (h2 : ∀ x ∈ B, x.worth ≤ a.worth) : ts.mergeSort KT.le = a :: (A ++ B).mergeSort KT.le ∧ (A ++ B).Pairwise (fun a b => a.made < b.made) := by
  subst e
  have hm2 : (A ++ B).Pairwise (fun a b => a.made < b.made) := hm.sublist (List.Sublist.append (List.Sublist.refl A) (List.sublist_cons_self a B))
  refine ⟨ms_unique _ _ ?_ ?_, hm2⟩
  · refine ((List.mergeSort_perm _ _).cons a).trans (List.Perm.trans ?_ hp.symm)
    exact List.perm_middle.symm
  · refine List.pairwise_cons.2 ⟨fun x hx => ?_, ms_lt _ (made_nodup hm2)⟩
    have hx2 := (List.mergeSort_perm _ _).mem_iff.1 hx
    rw [KT.lt_iff]
    rcases List.mem_append.1 hx2 with hx3 | hx3
    · exact .inl (h1 x hx3)
    · have h3 := h2 x hx3
      have h4 : a.made < x.made := by
        have := List.pairwise_append.1 hm
        exact (List.pairwise_cons.1 this.2.1).1 x hx3
      omega
/-! ### The sides of two items made one -/
theorem node_loop (l : List Int) (n : Nat) (hn : n < 1000) (hl : l.length = n) (X : List S71) (hX : X.length < 1000) (a b : KT) (p m : Int) (R : Int × List Int) (hR : Ev (fun k => woggleref05_Differencing.l2 k l (X ++ [⟨p, sdl n (.node p m a b)⟩])) R) : ∀ (d j : Nat), j + d = n → Ev (fun k => woggleref05_Differencing.l3 k l X (j : Int) a.worth (sdl n a) b.worth (sdl n b) p (sdl j (.node p m a b))) R
  | 0, j, h => by
    have e : j = n := by omega
    subst e
    refine Ev.step (fun k => ?_) hR
    simp only [woggleref05_Differencing.l3]
    rw [if_neg (by omega), if_pos (by omega)]
  | d + 1, j, h => by
    have ih := node_loop l n hn hl X hX a b p m R hR d (j + 1) (by omega)
    have r := sdo_rng b (j : Int)
    refine Ev.step (fun k => ?_) ih
    simp only [woggleref05_Differencing.l3]
    rw [if_pos (by omega), if_pos (by omega), if_pos (by rw [sdl_length]; omega), rd_sdl n b j (by omega), w64 (x := (j : Int) + 1) (by omega) (by omega)]
    by_cases c : sdo b (j : Int) ≥ 0
    · rw [if_pos c, if_pos (by rw [sdl_length]; omega), w64 (x := 1 - sdo b (j : Int)) (by omega) (by omega), sdl_succ j (.node p m a b), sdo_node, if_pos c]
      rfl
    · rw [if_neg c, if_pos (by rw [sdl_length]; omega), if_pos (by rw [sdl_length]; omega), rd_sdl n a j (by omega), sdl_succ j (.node p m a b), sdo_node, if_neg c]
      rfl
/-! ### The rounds -/
theorem rkk (l : List Int) (n : Nat) (hn : n < 1000) (hln : l.length = n) : ∀ (m : Nat) (us ts : List KT) (made : Int), us.length = m + 1 → m < 900 → ts.Perm us → us.Pairwise (fun a b => a.made < b.made) → (∀ t ∈ us, t.made < made) → 0 ≤ made → made + (m : Int) < 1000000 →
    ∃ t, kkr m ts made = [t] ∧ ∀ R, Ev (fun k => woggleref05_Differencing.l4 k [tr n t] (sdl n t) [] 0) R → Ev (fun k => woggleref05_Differencing.l2 k l (us.map (tr n))) R
  | 0, us, ts, made, hl, _, hp, _, _, _, _ => by
    match us, hl with
    | [u], _ =>
      have e : ts = [u] := List.perm_singleton.1 hp
      refine ⟨u, by rw [e]; rfl, fun R hR => ?_⟩
      refine Ev.step (fun k => ?_) hR
      simp only [woggleref05_Differencing.l2]
      rw [if_neg (by simp), if_pos (by simp)]
      rfl
  | m + 1, us, ts, made, hl, hm, hp, ho, hmd, h0, hb => by
    obtain ⟨A, a, B, e1, a1, a2, a3⟩ := take_ev n us (by omega) (by omega)
    obtain ⟨s1, o1⟩ := sort_first hp e1 ho a1 a2
    have l1 : (A ++ B).length = m + 1 := by rw [e1] at hl; simp at hl ⊢; omega
    obtain ⟨A', b, B', e2, b1, b2, b3⟩ := take_ev n (A ++ B) (by omega) (by omega)
    obtain ⟨s2, o2⟩ := sort_first (List.Perm.refl (A ++ B)) e2 o1 b1 b2
    rw [s2] at s1
    have l2 : (A' ++ B').length = m := by rw [e2] at l1; simp at l1 ⊢; omega
    have hmem : ∀ t ∈ A' ++ B', t ∈ us := fun t ht => by
      have : t ∈ A ++ B := by rw [e2]; simp at ht ⊢; rcases ht with h | h <;> simp [h]
      rw [e1]; simp at this ⊢; rcases this with h | h <;> simp [h]
    have hw : wrap64 (made + 1) = made + 1 := w64 (by omega) (by omega)
    obtain ⟨t, t1, t2⟩ := rkk l n hn hln m (A' ++ B' ++ [KT.node (wrap64 (a.worth - b.worth)) made a b]) ((A' ++ B').mergeSort KT.le ++ [KT.node (wrap64 (a.worth - b.worth)) made a b]) (made + 1) (by rw [List.length_append, l2]; rfl) (by omega) ((List.mergeSort_perm _ _).append_right _) (List.pairwise_append.2 ⟨o2, by simp, fun x hx y hy => by
      simp at hy
      subst hy
      exact hmd x (hmem x hx)⟩) (fun x hx => by
      rcases List.mem_append.1 hx with hx | hx
      · have := hmd x (hmem x hx); omega
      · simp at hx
        subst hx
        show made < made + 1
        omega) (by omega) (by omega)
    refine ⟨t, by rw [kkr_step s1, hw]; exact t1, fun R hR => ?_⟩
    have h2 := t2 R hR
    rw [List.map_append] at h2
    have h3 := node_loop l n hn hln ((A' ++ B').map (tr n)) (by rw [List.length_map]; omega) a b (wrap64 (a.worth - b.worth)) made R h2 n 0 (by omega)
    refine Ev.step (f := fun k => (ref_take.f k (us.map (tr n))).bind fun bt115 => ((ref_take.f k bt115.2.2).bind fun bt123 => (woggleref05_Differencing.l3 k l bt123.2.2 0 bt115.1 bt115.2.1 bt123.1 bt123.2.1 (wrap64 (bt115.1 - bt123.1)) ([] : List Int)))) (fun k => by
      simp only [woggleref05_Differencing.l2]
      rw [if_pos (by rw [List.length_map]; omega)]) ?_
    exact Ev.bind a3 (Ev.bind b3 h3)
/-! ### The items at first -/
theorem leaf_loop (l : List Int) (n : Nat) (hn : n < 1000) (hln : l.length = n) (i : Nat) (hi : i < n) (X : List S71) (hX : X.length < 1000) (R : Int × List Int) (hR : Ev (fun k => woggleref05_Differencing.l0 k l (X ++ [tr n (.leaf (rd l (i : Int)) (i : Int))]) ((i + 1 : Nat) : Int)) R) : ∀ (d j : Nat), j + d = n → Ev (fun k => woggleref05_Differencing.l1 k l X (i : Int) (j : Int) (rd l (i : Int)) (sdl j (.leaf (rd l (i : Int)) (i : Int)))) R
  | 0, j, h => by
    have e : j = n := by omega
    subst e
    refine Ev.step (fun k => ?_) hR
    simp only [woggleref05_Differencing.l1]
    rw [if_neg (by omega), if_pos (by omega), w64 (by omega) (by omega)]
    rfl
  | d + 1, j, h => by
    have ih := leaf_loop l n hn hln i hi X hX R hR d (j + 1) (by omega)
    refine Ev.step (fun k => ?_) ih
    simp only [woggleref05_Differencing.l1]
    rw [if_pos (by omega), sdl_succ j, w64 (x := (j : Int) + 1) (by omega) (by omega)]
    by_cases c : (j : Int) = (i : Int)
    · rw [if_pos c, if_pos (by rw [sdl_length]; omega), show sdo (.leaf (rd l (i : Int)) (i : Int)) (j : Int) = 0 by simp only [sdo]; rw [if_pos c]]
      rfl
    · rw [if_neg c, if_pos (by rw [sdl_length]; omega), show sdo (.leaf (rd l (i : Int)) (i : Int)) (j : Int) = -1 by simp only [sdo]; rw [if_neg c]]
      rfl
theorem items_loop (l : List Int) (n : Nat) (hn : n < 1000) (hln : l.length = n) (R : Int × List Int) (hR : Ev (fun k => woggleref05_Differencing.l2 k l ((lvs l n).map (tr n))) R) : ∀ (d i : Nat), i + d = n → Ev (fun k => woggleref05_Differencing.l0 k l ((lvs l i).map (tr n)) (i : Int)) R
  | 0, i, h => by
    have e : i = n := by omega
    subst e
    refine Ev.step (fun k => ?_) hR
    simp only [woggleref05_Differencing.l0]
    rw [if_neg (by omega)]
  | d + 1, i, h => by
    have ih := items_loop l n hn hln R hR d (i + 1) (by omega)
    rw [lvs_succ, List.map_append] at ih
    have h2 := leaf_loop l n hn hln i (by omega) ((lvs l i).map (tr n)) (by rw [List.length_map, lvs_length]; omega) R ih n 0 (by omega)
    refine Ev.step (fun k => ?_) h2
    simp only [woggleref05_Differencing.l0]
    rw [if_pos (by omega), if_pos (by omega)]
    rfl
/-! ### The sides at last -/
def flp (n : Nat) (t : KT) (j : Nat) : Int := if sdo t 0 = 1 then 1 - sdo t (j : Int) else sdo t (j : Int)
theorem out_loop (n : Nat) (hn : n < 1000) (h0 : 0 < n) (t : KT) : ∀ (d i : Nat), i + d = n → Ev (fun k => woggleref05_Differencing.l4 k [tr n t] (sdl n t) ((List.range i).map (flp n t)) (i : Int)) (t.worth, (List.range n).map (flp n t))
  | 0, i, h => by
    have e : i = n := by omega
    subst e
    refine Ev.step (f := fun _ => some _) (fun k => ?_) (Ev.now _)
    simp only [woggleref05_Differencing.l4]
    rw [if_neg (by rw [sdl_length]; omega), if_pos (by simp)]
    rfl
  | d + 1, i, h => by
    have ih := out_loop n hn h0 t d (i + 1) (by omega)
    have r := sdo_rng t (i : Int)
    rw [List.range_succ, List.map_append] at ih
    refine Ev.step (fun k => ?_) ih
    simp only [woggleref05_Differencing.l4]
    have e0 : rd (sdl n t) 0 = sdo t 0 := rd_sdl n t 0 h0
    rw [if_pos (by rw [sdl_length]; omega), if_pos (by rw [sdl_length]; omega), e0, w64 (x := (i : Int) + 1) (by omega) (by omega), rd_sdl n t i (by omega)]
    by_cases c : sdo t 0 = 1
    · rw [if_pos c, if_pos (by omega), if_pos (by simp; omega), w64 (x := 1 - sdo t (i : Int)) (by omega) (by omega)]
      simp only [List.map_cons, List.map_nil, flp]
      rw [if_pos c]
      rfl
    · rw [if_neg c, if_pos (by omega), if_pos (by simp; omega)]
      simp only [List.map_cons, List.map_nil, flp]
      rw [if_neg c]
      rfl
theorem Differencing_both (l : List Int) (ho : Ok l) (hl : l.length ≤ 14) : ∃ r, Ev (fun k => tug_Differencing.f k l) (r.1, r.2, 0) ∧ Ev (fun k => woggleref05_Differencing.f k l) r ∧ r.2.length = l.length := by
  have h0 := ho.1
  have hs := ho.sm (by omega)
  have hfr := lvs_fresh l l.length
  have hpw : (lvs l l.length).Pairwise (fun a b => a.made < b.made) := by
    unfold lvs
    rw [List.pairwise_map]
    refine (List.pairwise_lt_range).imp (fun {a b} h => ?_)
    show (a : Int) < (b : Int)
    omega
  obtain ⟨t, t1, t2⟩ := rkk l l.length (by omega) rfl (l.length - 1) (lvs l l.length) (lvs l l.length) (l.length : Int) (by rw [lvs_length]; omega) (by omega) (List.Perm.refl _) hpw hfr.2 (by omega) (by omega)
  obtain ⟨t', t1', u2, u3, u4⟩ := kk_end l (l.length - 1) (lvs l l.length) (l.length : Int) (by rw [lvs_length]; omega) (lvs_ti l hs _ (Nat.le_refl _)) (fun j hj => by rw [lvs_cov, if_pos hj])
  have e : t' = t := by rw [t1] at t1'; simpa using t1'.symm
  subst e
  obtain ⟨out, o, p1, p2, p3, p4, e1, eo, e2, e3, e4, e5⟩ := end_sides l h0 t' u2 u3
  have hx : (List.range l.length).map (flp l.length t') = o := by
    apply List.ext_getElem
    · simp [e3]
    · intro j h1 h2
      have hj : j < l.length := by simpa using h1
      have q0 := p3 0 h0
      have qj := p3 j hj
      rw [List.getD_eq_getElem?_getD, List.getElem?_eq_getElem (by omega), Option.getD_some] at qj
      simp only [List.getElem_map, List.getElem_range, flp]
      have c0 : rd out 0 = sdo t' 0 := q0
      by_cases c : sdo t' 0 = 1
      · rw [if_pos c]
        simp only [eo, c0, if_pos c, List.getElem_map, qj]
      · rw [if_neg c]
        simp only [eo, c0, if_neg c, qj]
  refine ⟨(t'.worth, o), ?_, ?_, e3⟩
  · refine Ev.bind (check_ev l 14 (by omega)) ?_
    have c : bad l 14 = 0 := bad_ok.2 ⟨by omega, ho⟩
    exact Ev.congr (f := fun _ => some (t'.worth, o, 0)) (fun k => by rw [if_pos c, if_pos ⟨h0, by omega⟩, t1, e1]) (Ev.now _)
  · have h4 := t2 _ (out_loop l.length (by omega) h0 t' l.length 0 (by omega))
    rw [hx] at h4
    exact items_loop l l.length (by omega) rfl _ h4 l.length 0 (by omega)
end Go.Proofs.Ytpfbdpeohlohoaa.S
