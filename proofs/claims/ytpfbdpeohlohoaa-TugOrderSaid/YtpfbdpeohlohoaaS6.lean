/- What tug.Differencing comes to: the sides of a tree of items, the worth of the last one. No condition. -/
import Derived.Test.YtpfbdpeohlohoaaS3
import Derived.Test.YtpfbdpeohlohoaaHDiff
namespace Go.Proofs.Ytpfbdpeohlohoaa.S
open Go.Proofs.Ytpfbdpeohlohoaa.Ga Go.Proofs.Ytpfbdpeohlohoaa.H Go.Proofs.Ytpfbdpeohlohoaa.M
open Go.RowKit Go.Proofs.YtpfbdpeohlohoaaW.PrintWords Go.Proofs.YtpfbdpeohlohoaaW.PrintLast Go.Proofs.YtpfbdpeohlohoaaW.PrintMore
set_option linter.unusedVariables false
set_option linter.unusedSimpArgs false
/-- The side of pull j in an item, -1 where it has it not. -/
def sdo : KT → Int → Int
  | .leaf _ i, j => if j = i then 0 else -1
  | .node _ _ a b, j => if 0 ≤ sdo b j then 1 - sdo b j else sdo a j
theorem sdo_rng : ∀ (t : KT) (j : Int), sdo t j = -1 ∨ sdo t j = 0 ∨ sdo t j = 1
  | .leaf _ i, j => by simp only [sdo]; split <;> simp
  | .node _ _ a b, j => by
    have h1 := sdo_rng a j
    have h2 := sdo_rng b j
    simp only [sdo]
    split <;> omega
theorem sdo_node (p m : Int) (a b : KT) (j : Int) : sdo (.node p m a b) j = if 0 ≤ sdo b j then 1 - sdo b j else sdo a j := rfl
def sgn (x : Int) : Int := if x = 0 then 1 else if x = 1 then -1 else 0
def cov (j : Int) (t : KT) : Int := if 0 ≤ sdo t j then 1 else 0
theorem cov_node (j p m : Int) (a b : KT) (h : cov j a + cov j b ≤ 1) : cov j (.node p m a b) = cov j a + cov j b := by
  have r1 := sdo_rng a j
  have r2 := sdo_rng b j
  have e := sdo_node p m a b j
  unfold cov at *
  generalize sdo (KT.node p m a b) j = z at *
  generalize sdo a j = x at *
  generalize sdo b j = y at *
  subst e
  rcases r1 with rfl | rfl | rfl <;> rcases r2 with rfl | rfl | rfl <;> revert h <;> decide
theorem cov_leaf (j p i : Int) : cov j (.leaf p i) = if j = i then 1 else 0 := by
  have e : sdo (.leaf p i) j = if j = i then 0 else -1 := rfl
  unfold cov
  generalize sdo (KT.leaf p i) j = z at *
  by_cases c : j = i
  · rw [if_pos c] at e ⊢
    subst e; rfl
  · rw [if_neg c] at e ⊢
    subst e; rfl
def vs : List Int → Int → (Int → Int) → Int
  | [], _, _ => 0
  | p :: l, i, f => p * f i + vs l (i + 1) f
theorem vs_congr : ∀ (l : List Int) (i : Int) (f g : Int → Int), (∀ j, i ≤ j → j < i + (l.length : Int) → f j = g j) → vs l i f = vs l i g
  | [], _, _, _, _ => rfl
  | p :: l, i, f, g, h => by
    simp only [vs]
    rw [h i (by omega) (by simp only [List.length_cons]; omega), vs_congr l (i + 1) f g (fun j h1 h2 => h j (by omega) (by simp only [List.length_cons]; omega))]
theorem vs_sub : ∀ (l : List Int) (i : Int) (f g : Int → Int), vs l i (fun j => f j - g j) = vs l i f - vs l i g
  | [], _, _, _ => rfl
  | p :: l, i, f, g => by
    simp only [vs]
    rw [vs_sub l (i + 1) f g, Int.mul_sub]
    omega
theorem vs_none : ∀ (l : List Int) (i : Int) (f : Int → Int), (∀ j, i ≤ j → f j = 0) → vs l i f = 0
  | [], _, _, _ => rfl
  | p :: l, i, f, h => by
    simp only [vs]
    rw [h i (Int.le_refl _), vs_none l (i + 1) f (fun j hj => h j (by omega)), Int.mul_zero]
    rfl
theorem vs_single : ∀ (l : List Int) (i : Int) (k : Nat), k < l.length → vs l i (fun j => if j = i + (k : Int) then 1 else 0) = l.getD k 0
  | [], _, _, h => absurd h (by simp)
  | p :: l, i, 0, _ => by
    simp only [vs]
    rw [if_pos (by omega), vs_none l (i + 1) _ (fun j hj => by rw [if_neg (by omega)])]
    simp
  | p :: l, i, k + 1, h => by
    have ih := vs_single l (i + 1) k (by simpa using h)
    simp only [vs]
    rw [if_neg (by omega), Int.mul_zero, Int.zero_add]
    rw [show (fun j : Int => if j = i + ((k + 1 : Nat) : Int) then (1 : Int) else 0) = (fun j : Int => if j = i + 1 + (k : Int) then (1 : Int) else 0) from funext fun j => by
      congr 1
      exact propext ⟨fun h => by omega, fun h => by omega⟩, ih]
    simp
theorem vs_sg : ∀ (l s : List Int) (i : Int) (f : Int → Int), s.length = l.length → (∀ k : Nat, k < s.length → f (i + (k : Int)) = 1 - 2 * s.getD k 0) → vs l i f = sg l s
  | [], [], _, _, _, _ => rfl
  | [], _ :: _, _, _, h, _ => absurd h (by simp)
  | _ :: _, [], _, _, h, _ => absurd h (by simp)
  | p :: l, x :: s, i, f, h, hf => by
    simp only [vs, sg]
    have h0 := hf 0 (by simp)
    simp only [List.getD_cons_zero] at h0
    rw [show i = i + ((0 : Nat) : Int) by omega, h0, show i + ((0 : Nat) : Int) + 1 = i + 1 by omega, vs_sg l s (i + 1) f (by simpa using h) (fun k hk => by
      have := hf (k + 1) (by simpa using hk)
      simp only [List.getD_cons_succ] at this
      rw [← this]
      congr 1
      omega)]
def InR (n : Nat) : KT → Prop
  | .leaf _ i => 0 ≤ i ∧ i < (n : Int)
  | .node _ _ a b => InR n a ∧ InR n b
theorem place_spec (n : Nat) : ∀ (t : KT) (out : List Int) (s : Int), out.length = n → InR n t → (s = 0 ∨ s = 1) → ∃ o, t.place out s = some o ∧ o.length = n ∧ ∀ j : Nat, j < n → o.getD j 0 = if 0 ≤ sdo t (j : Int) then (if s = 0 then sdo t (j : Int) else 1 - sdo t (j : Int)) else out.getD j 0
  | .leaf p i, out, s, hl, hi, hs => by
    obtain ⟨h1, h2⟩ := hi
    refine ⟨out.set i.toNat s, by simp only [KT.place]; rw [if_pos ⟨h1, by omega⟩], by simpa using hl, fun j hj => ?_⟩
    simp only [List.getD_eq_getElem?_getD, sdo]
    by_cases e : (j : Int) = i
    · have e2 : i.toNat = j := by omega
      rw [e2, List.getElem?_set_self (by omega), if_pos e]
      rcases hs with rfl | rfl <;> simp
    · rw [List.getElem?_set_ne (by omega), if_neg e, if_neg (by omega)]
  | .node p m a b, out, s, hl, hi, hs => by
    obtain ⟨o1, a1, a2, a3⟩ := place_spec n a out s hl hi.1 hs
    have hw : wrap64 (1 - s) = 1 - s := w64 (by omega) (by omega)
    obtain ⟨o2, b1, b2, b3⟩ := place_spec n b o1 (1 - s) a2 hi.2 (by omega)
    refine ⟨o2, by simp only [KT.place]; rw [a1, Option.bind_some, hw, b1], b2, fun j hj => ?_⟩
    rw [b3 j hj, a3 j hj]
    have r1 := sdo_rng a (j : Int)
    have r2 := sdo_rng b (j : Int)
    have e := sdo_node p m a b (j : Int)
    generalize sdo (KT.node p m a b) (j : Int) = z at e ⊢
    by_cases c : 0 ≤ sdo b (j : Int)
    · rw [if_pos c] at e ⊢
      subst e
      rw [if_pos (show 0 ≤ 1 - sdo b (j : Int) by omega)]
      rcases hs with rfl | rfl
      · rw [if_neg (by omega), if_pos rfl]
      · rw [if_pos (by omega), if_neg (by omega)]; omega
    · rw [if_neg c] at e ⊢
      subst e
      rfl
/-- An item is right. -/
structure TI (l : List Int) (t : KT) : Prop where
  inr : InR l.length t
  val : t.worth = vs l 0 (fun j => sgn (sdo t j))
  lo : 0 ≤ t.worth
  hi : t.worth ≤ 1000000
def Cvd (l : List Int) (ts : List KT) : Prop := ∀ j : Nat, j < l.length → lsum (ts.map (cov (j : Int))) = 1
theorem cov_nonneg (j : Int) (ts : List KT) : 0 ≤ lsum (ts.map (cov j)) := lsum_nonneg _ (fun p hp => by
  obtain ⟨t, _, rfl⟩ := List.mem_map.1 hp
  unfold cov
  split <;> omega)
theorem TI.node {l : List Int} {a b : KT} (ha : TI l a) (hb : TI l b) (m : Int) (hle : b.worth ≤ a.worth) (hd : ∀ j : Nat, j < l.length → cov (j : Int) a + cov (j : Int) b ≤ 1) : TI l (KT.node (wrap64 (a.worth - b.worth)) m a b) := by
  have a1 := ha.lo
  have a2 := ha.hi
  have b1 := hb.lo
  have e : wrap64 (a.worth - b.worth) = a.worth - b.worth := w64 (by omega) (by omega)
  refine ⟨⟨ha.inr, hb.inr⟩, ?_, by show 0 ≤ wrap64 _; omega, by show wrap64 _ ≤ _; omega⟩
  show wrap64 _ = _
  rw [e, ha.val, hb.val, ← vs_sub]
  refine vs_congr l 0 _ _ (fun j h1 h2 => ?_)
  have hj := hd j.toNat (by omega)
  rw [Int.toNat_of_nonneg h1] at hj
  have r1 := sdo_rng a j
  have r2 := sdo_rng b j
  rw [sdo_node]
  unfold cov at hj
  generalize sdo a j = x at *
  generalize sdo b j = y at *
  rcases r1 with rfl | rfl | rfl <;> rcases r2 with rfl | rfl | rfl <;> revert hj <;> decide
theorem ms_dsort (ts : List KT) : (ts.mergeSort KT.le).map KT.worth = dsort (ts.map KT.worth) := by
  refine (dsort_unique ((List.mergeSort_perm ts KT.le).map _) ?_).symm
  rw [List.pairwise_map]
  refine (List.pairwise_mergeSort (le := KT.le) (fun a b c h1 h2 => ?_) (fun a b => ?_) ts).imp (fun {a b} h => ?_)
  · simp only [KT.le, Bool.not_eq_true', KT.nlt_iff] at *; omega
  · simp only [KT.le, Bool.or_eq_true, Bool.not_eq_true', KT.nlt_iff]; omega
  · simp only [KT.le, Bool.not_eq_true', KT.nlt_iff] at h; omega
theorem kk_end (l : List Int) : ∀ (m : Nat) (ts : List KT) (made : Int), ts.length = m + 1 → (∀ t ∈ ts, TI l t) → Cvd l ts → ∃ t, kkr m ts made = [t] ∧ TI l t ∧ Cvd l [t] ∧ t.worth = kvf m (ts.map KT.worth)
  | 0, ts, made, hl, ht, hc => by
    match ts, hl with
    | [t], _ => exact ⟨t, rfl, ht t (by simp), hc, rfl⟩
  | m + 1, ts, made, hl, ht, hc => by
    have hp := List.mergeSort_perm ts KT.le
    have hs := ms_dsort ts
    have hlen : (ts.mergeSort KT.le).length = m + 2 := by rw [hp.length_eq, hl]
    have hpw := dsort_desc (ts.map KT.worth)
    match hq : ts.mergeSort KT.le, hlen with
    | a :: b :: rest, hlen =>
      rw [hq] at hp hs
      have ma := ht a (hp.mem_iff.1 (by simp))
      have mb := ht b (hp.mem_iff.1 (by simp))
      have hc2 : ∀ j : Nat, j < l.length → cov (j : Int) a + (cov (j : Int) b + lsum (rest.map (cov (j : Int)))) = 1 := fun j hj => by
        have := lsum_perm (hp.map (cov (j : Int)))
        rw [hc j hj] at this
        simpa [lsum] using this
      rw [← hs] at hpw
      have hle : b.worth ≤ a.worth := by
        simp only [List.map_cons, List.pairwise_cons] at hpw
        exact hpw.1 _ (by simp)
      have hn := ma.node mb made hle (fun j hj => by
        have := hc2 j hj
        have := cov_nonneg (j : Int) rest
        omega)
      have ih := kk_end l m (rest ++ [KT.node (wrap64 (a.worth - b.worth)) made a b]) (wrap64 (made + 1)) (by simp at hlen ⊢; omega) (fun t h => by
        rcases List.mem_append.1 h with h | h
        · exact ht t (hp.mem_iff.1 (by simp [h]))
        · simp at h; subst h; exact hn) (fun j hj => by
        have h1 := hc2 j hj
        have h2 := cov_nonneg (j : Int) rest
        rw [List.map_append, lsum_append]
        simp only [List.map_cons, List.map_nil, lsum]
        have h3 : cov (j : Int) (KT.node (wrap64 (a.worth - b.worth)) made a b) = cov (j : Int) a + cov (j : Int) b := by
          exact cov_node _ _ _ _ _ (by omega)
        rw [h3]
        omega)
      obtain ⟨t, t1, t2, t3, t4⟩ := ih
      refine ⟨t, ?_, t2, t3, ?_⟩
      · simp only [kkr, hq]
        exact t1
      · rw [t4]
        have e : wrap64 (a.worth - b.worth) = a.worth - b.worth := w64 (by have := ma.lo; have := mb.lo; have := ma.hi; omega) (by have := ma.hi; have := mb.lo; omega)
        have h5 : kvf (m + 1) (ts.map KT.worth) = kvf m ((a.worth - b.worth) :: rest.map KT.worth) := by
          rw [kvf, ← hs]
          rfl
        rw [h5]
        refine kvf_perm m ?_ (by simp at hlen ⊢; omega)
        rw [List.map_append]
        refine (List.perm_append_comm).trans ?_
        show List.Perm (wrap64 (a.worth - b.worth) :: rest.map KT.worth) _
        rw [e]
/-! ### The items at first -/
theorem lvs_ti (l : List Int) (hl : Sm l) (n : Nat) (hn : n ≤ l.length) : ∀ t ∈ lvs l n, TI l t := by
  intro t ht
  unfold lvs at ht
  obtain ⟨i, hi, rfl⟩ := List.mem_map.1 ht
  rw [List.mem_range] at hi
  have hx := hl.at i (by omega)
  refine ⟨⟨by omega, by omega⟩, ?_, ?_, ?_⟩
  · show rd l (i : Int) = _
    have := vs_single l 0 i (by omega)
    rw [rd_getD, ← this]
    refine vs_congr l 0 _ _ (fun j h1 h2 => ?_)
    simp only [sdo]
    by_cases e : j = (i : Int)
    · rw [if_pos e, if_pos (by omega)]; rfl
    · rw [if_neg e, if_neg (by omega)]; rfl
  · show 0 ≤ rd l (i : Int)
    rw [rd_at l i (by omega)]
    omega
  · show rd l (i : Int) ≤ _
    rw [rd_at l i (by omega)]
    omega
theorem lvs_cov (l : List Int) (j : Nat) : ∀ n : Nat, lsum ((lvs l n).map (cov (j : Int))) = if j < n then 1 else 0
  | 0 => rfl
  | n + 1 => by
    rw [lvs_succ, List.map_append, lsum_append, lvs_cov l j n]
    simp only [List.map_cons, List.map_nil, lsum, cov_leaf]
    by_cases c : j < n
    · rw [if_pos c, if_neg (by omega), if_pos (by omega)]; rfl
    · rw [if_neg c]
      by_cases e : j = n
      · subst e; rw [if_pos (by omega), if_pos (by omega)]; rfl
      · rw [if_neg (by omega), if_neg (by omega)]; rfl
theorem lvs_worth (l : List Int) : (lvs l l.length).map KT.worth = l := by
  apply List.ext_getElem
  · simp [lvs]
  · intro i h1 h2
    simp only [lvs, List.getElem_map, List.getElem_range]
    exact rd_at l i h2
/-! ### The whole -/
theorem getD_rd (l : List Int) (h : 0 < l.length) : rd l 0 = l.getD 0 0 := rfl
theorem flip_bin {s : List Int} (h : Bin s) : flipAll s = s.map (1 - ·) := by
  unfold flipAll
  refine List.map_congr_left (fun x hx => ?_)
  have := h x hx
  exact w64 (by omega) (by omega)
theorem sg_flip : ∀ (l s : List Int), sg l (s.map (1 - ·)) = - sg l s
  | [], s => by cases s <;> rfl
  | p :: l, [] => rfl
  | p :: l, x :: s => by
    simp only [List.map_cons, sg]
    rw [sg_flip l s, show (1 : Int) - 2 * (1 - x) = -(1 - 2 * x) by omega, Int.mul_neg]
    omega
theorem bin_flip {s : List Int} (h : Bin s) : Bin (s.map (1 - ·)) := fun x hx => by
  obtain ⟨y, hy, rfl⟩ := List.mem_map.1 hx
  have := h y hy
  omega
theorem ab_neg (x : Int) : ab (-x) = ab x := by unfold ab; split <;> split <;> omega
/-- The sides of the last item. -/
theorem end_sides (l : List Int) (h0 : 0 < l.length) (t : KT) (h : TI l t) (hc : Cvd l [t]) : ∃ out o, t.place (List.replicate l.length 0) 0 = some out ∧ out.length = l.length ∧ (∀ j : Nat, j < l.length → out.getD j 0 = sdo t (j : Int)) ∧ Bin out ∧ kkEnd l [t] = some (t.worth, o, 0) ∧ o = (if rd out 0 = 1 then out.map (1 - ·) else out) ∧ Bin o ∧ o.length = l.length ∧ o.head? = some 0 ∧ dif l o = t.worth := by
  obtain ⟨out, p1, p2, p3⟩ := place_spec l.length t (List.replicate l.length 0) 0 (by simp) h.inr (.inl rfl)
  have hside : ∀ j : Nat, j < l.length → out.getD j 0 = sdo t (j : Int) ∧ (sdo t (j : Int) = 0 ∨ sdo t (j : Int) = 1) := fun j hj => by
    have h1 := hc j hj
    simp only [List.map_cons, List.map_nil, lsum, cov] at h1
    have h2 : 0 ≤ sdo t (j : Int) := by
      apply Classical.byContradiction
      intro h2
      rw [if_neg h2] at h1
      omega
    have h3 := p3 j hj
    rw [if_pos h2, if_pos rfl] at h3
    have := sdo_rng t (j : Int)
    exact ⟨h3, by omega⟩
  have hbin : Bin out := fun x hx => by
    obtain ⟨j, hj, rfl⟩ := List.getElem_of_mem hx
    have := hside j (by omega)
    rw [List.getD_eq_getElem?_getD, List.getElem?_eq_getElem hj, Option.getD_some] at this
    omega
  have hsg : sg l out = t.worth := by
    rw [h.val]
    refine (vs_sg l out 0 _ p2 (fun k hk => ?_)).symm
    have := hside k (by omega)
    rw [Int.zero_add, this.1]
    unfold sgn
    rcases this.2 with e | e <;> rw [e] <;> rfl
  have hlo := h.lo
  have hd : dif l out = t.worth := by unfold dif ab; rw [hsg, if_neg (by omega)]
  have h00 := hside 0 h0
  have hhd : ∀ s : List Int, 0 < s.length → s.head? = some (s.getD 0 0) := fun s hs => by cases s with | nil => simp at hs | cons x s => rfl
  by_cases c : rd out 0 = 1
  · refine ⟨out, out.map (1 - ·), p1, p2, fun j hj => (hside j hj).1, hbin, ?_, by rw [if_pos c], bin_flip hbin, by simpa using p2, ?_, ?_⟩
    · simp only [kkEnd]
      rw [p1, Option.bind_some, if_pos c, flip_bin hbin]
    · rw [hhd _ (by simp; omega)]
      have : out.getD 0 0 = 1 := c
      cases out with
      | nil => simp at p2; omega
      | cons x s => simp at this; subst this; rfl
    · unfold dif
      rw [sg_flip, ab_neg]
      exact hd
  · refine ⟨out, out, p1, p2, fun j hj => (hside j hj).1, hbin, ?_, by rw [if_neg c], hbin, p2, ?_, hd⟩
    · simp only [kkEnd]
      rw [p1, Option.bind_some, if_neg c]
    · rw [hhd _ (by omega)]
      have : out.getD 0 0 ≠ 1 := c
      rw [show out.getD 0 0 = 0 by omega]
theorem Differencing_ev (l : List Int) (hl : l.length < 1000000) : ∃ o, Ev (fun k => tug_Differencing.f k l) (if bad l 14 = 0 then (kvf (l.length - 1) l, o, 0) else (0, [], bad l 14)) ∧ (bad l 14 = 0 → Bin o ∧ o.length = l.length ∧ o.head? = some 0 ∧ dif l o = kvf (l.length - 1) l) := by
  by_cases c : bad l 14 = 0
  · obtain ⟨h1, h2⟩ := bad_ok.1 c
    have h0 := h2.1
    have hs := h2.sm (by omega)
    obtain ⟨t, t1, t2, t3, t4⟩ := kk_end l (l.length - 1) (lvs l l.length) (l.length : Int) (by rw [lvs_length]; omega) (lvs_ti l hs _ (Nat.le_refl _)) (fun j hj => by rw [lvs_cov, if_pos hj])
    rw [lvs_worth] at t4
    obtain ⟨out, o, _, _, _, _, e1, _, e2, e3, e4, e5⟩ := end_sides l h0 t t2 t3
    refine ⟨o, ?_, fun _ => ⟨e2, e3, e4, by rw [e5, t4]⟩⟩
    rw [if_pos c, ← t4]
    refine Ev.bind (check_ev l 14 hl) ?_
    exact Ev.congr (f := fun _ => some (t.worth, o, 0)) (fun k => by rw [if_pos c, if_pos ⟨h0, by omega⟩, t1, e1]) (Ev.now _)
  · refine ⟨[], ?_, fun h => absurd h c⟩
    rw [if_neg c]
    refine Ev.bind (check_ev l 14 hl) ?_
    exact Ev.congr (fun k => by rw [if_neg c]) (Ev.now _)
end Go.Proofs.Ytpfbdpeohlohoaa.S
