/- What the reference's Minimal comes to: the least ones. No condition but the model's bounds. -/
import Derived.Test.YtmekcfkfkpbfeaaS2
import Derived.Test.YtmekcfkfkpbfeaaHRefA
namespace Go.Proofs.Ytmekcfkfkpbfeaa.S
open Go.Proofs.Ytmekcfkfkpbfeaa.H Go.Proofs.Ytmekcfkfkpbfeaa.M Go.Proofs.Ytmekcfkfkpbfeaa.Ga
open Go.RowKit Go.Proofs.YtmekcfkfkpbfeaaW.PrintWords Go.Proofs.YtmekcfkfkpbfeaaW.PrintLast Go.Proofs.YtmekcfkfkpbfeaaW.PrintMore
set_option linter.unusedVariables false
set_option linter.unusedSimpArgs false
theorem bef_lt4 (n : Int) (h4 : n ≤ 4) (a c : List Int) (ha : (a.length : Int) = n) (hc : (c.length : Int) = n) : bef a c = true ↔ lt4 (ofL a) (ofL c) := by
  have key : ∀ (x y : Int) (r : Bool), ((if x = y then r else decide (x < y)) = true) ↔ (x < y ∨ (x = y ∧ r = true)) := by
    intro x y r
    by_cases e : x = y
    · rw [if_pos e]; constructor
      · intro h; exact .inr ⟨e, h⟩
      · rintro (h | h)
        · omega
        · exact h.2
    · rw [if_neg e, decide_eq_true_iff]; constructor
      · exact .inl
      · rintro (h | h)
        · exact h
        · exact absurd h.1 e
  have l : a.length = c.length := by omega
  match a, c, l with
  | [], [], _ => simp [bef, lt4, ofL, rd]
  | [a0], [c0], _ => simp [bef, lt4, ofL, rd]; omega
  | [a0, a1], [c0, c1], _ => simp only [bef, key]; simp [lt4, ofL, rd]
  | [a0, a1, a2], [c0, c1, c2], _ => simp only [bef, key]; simp [lt4, ofL, rd]
  | [a0, a1, a2, a3], [c0, c1, c2, c3], _ => simp only [bef, key]; simp [lt4, ofL, rd]
  | a0 :: a1 :: a2 :: a3 :: a4 :: a, _, _ => simp at ha; omega
  | [a0], _ :: _ :: _, l => simp at l
  | [a0, a1], _ :: _ :: _ :: _, l => simp at l
  | [a0, a1, a2], _ :: _ :: _ :: _ :: _, l => simp at l
  | [a0, a1, a2, a3], _ :: _ :: _ :: _ :: _ :: _, l => simp at l
/-- The monomial of a row. -/
def mT (t : HD) : M4 := ofL t.2.2
theorem keptTo_iff (ts : List HD) (i : Nat) : keptTo ts i ts.length = true ↔ ∀ k, k < ts.length → k ≠ i → divL (ts.getD k default).2.2 (ts.getD i default).2.2 = true → (ts.getD k default).2.2 = (ts.getD i default).2.2 ∧ i ≤ k := by
  unfold keptTo
  rw [List.all_eq_true]
  constructor
  · intro h k hk hne hd
    have h1 := h k (List.mem_range.2 hk)
    unfold strikes at h1
    rw [decide_eq_true hne, hd] at h1
    simp at h1
    exact h1
  · intro h k hk
    have hk := List.mem_range.1 hk
    unfold strikes
    by_cases hne : k = i
    · rw [decide_eq_false (fun h => h hne)]; rfl
    · cases hd : divL (ts.getD k default).2.2 (ts.getD i default).2.2 with
      | false => simp
      | true =>
        obtain ⟨e, hle⟩ := h k hk hne hd
        rw [decide_eq_true e, decide_eq_false (by omega : ¬ k < i)]
        simp
theorem mem_refTo (ts : List HD) : ∀ i x, x ∈ refTo ts i ↔ ∃ j, j < i ∧ keptTo ts j ts.length = true ∧ ts.getD j default = x
  | 0, x => by simp [refTo]
  | i + 1, x => by
    rw [refTo_succ]
    by_cases c : keptTo ts i ts.length = true
    · rw [if_pos c, mem_insT, mem_refTo ts i x]
      constructor
      · rintro (rfl | ⟨j, h1, h2, h3⟩)
        · exact ⟨i, by omega, c, rfl⟩
        · exact ⟨j, by omega, h2, h3⟩
      · rintro ⟨j, h1, h2, h3⟩
        by_cases e : j = i
        · subst e; exact .inl h3.symm
        · exact .inr ⟨j, by omega, h2, h3⟩
    · rw [if_neg c, mem_refTo ts i x]
      constructor
      · rintro ⟨j, h1, h2, h3⟩
        exact ⟨j, by omega, h2, h3⟩
      · rintro ⟨j, h1, h2, h3⟩
        by_cases e : j = i
        · subst e; exact absurd h2 c
        · exact ⟨j, by omega, h2, h3⟩
theorem insT_rising (n : Int) (h4 : n ≤ 4) (out : List HD) (t : HD) (hn : ∀ x ∈ out, (x.2.2.length : Int) = n) (ht : (t.2.2.length : Int) = n) (hr : Rising (out.map mT)) (hne : ∀ x ∈ out, mT x ≠ mT t) : Rising ((insT out t).map mT) := by
  have hb : ∀ x ∈ out, bef x.2.2 t.2.2 = true ↔ lt4 (mT x) (mT t) := fun x hx => bef_lt4 n h4 _ _ (hn x hx) ht
  have htk : ∀ x ∈ out.take (posT out t), lt4 (mT x) (mT t) := by
    intro x hx
    have e : out.take (posT out t) = out.takeWhile fun x => bef x.2.2 t.2.2 := by
      unfold posT
      exact (List.prefix_iff_eq_take.1 (List.takeWhile_prefix _)).symm
    rw [e] at hx
    have h1 := List.all_eq_true.1 List.all_takeWhile x hx
    exact (hb x ((List.takeWhile_sublist _).subset hx)).1 h1
  unfold Rising at hr ⊢
  rw [List.pairwise_map] at hr ⊢
  have hsplit : out = out.take (posT out t) ++ out.drop (posT out t) := (List.take_append_drop _ _).symm
  have hdr : ∀ x ∈ out.drop (posT out t), lt4 (mT t) (mT x) := by
    cases hd : out.drop (posT out t) with
    | nil => intro x hx; cases hx
    | cons y ys =>
      have hy : y ∈ out := by rw [hsplit, hd]; simp
      have hby : bef y.2.2 t.2.2 = false := by
        have hk : out[posT out t]? = some y := by
          have h2 : (out.drop (posT out t))[0]? = some y := by rw [hd]; rfl
          rwa [List.getElem?_drop, Nat.add_zero] at h2
        cases hq : bef y.2.2 t.2.2 with
        | false => rfl
        | true =>
          exfalso
          have hall : ∀ x ∈ out.take (posT out t) ++ [y], bef x.2.2 t.2.2 = true := by
            intro x hx
            rcases List.mem_append.1 hx with hx | hx
            · exact (hb x (List.mem_of_mem_take hx)).2 (htk x hx)
            · rw [List.mem_singleton.1 hx]; exact hq
          have h5 : posT out t = (out.take (posT out t) ++ [y]).length + (ys.takeWhile fun x => bef x.2.2 t.2.2).length := by
            conv => lhs; unfold posT; rw [hsplit, hd, show out.take (posT out t) ++ y :: ys = (out.take (posT out t) ++ [y]) ++ ys by simp, List.takeWhile_append_of_pos hall, List.length_append]
          have h6 := (List.getElem?_eq_some_iff.1 hk).1
          rw [List.length_append, List.length_take, List.length_singleton] at h5
          omega
      have h1 : lt4 (mT t) (mT y) := by
        refine Classical.byContradiction fun h => ?_
        by_cases h2 : lt4 (mT y) (mT t)
        · rw [(hb y hy).2 h2] at hby; exact absurd hby (by decide)
        · exact hne y hy (lt4_tri h2 h)
      intro x hx
      rcases List.mem_cons.1 hx with rfl | hx
      · exact h1
      · have hp : (y :: ys).Pairwise (fun a b => lt4 (mT a) (mT b)) := by
          rw [← hd]
          exact hr.sublist (List.drop_sublist _ _)
        exact lt4_trans h1 ((List.pairwise_cons.1 hp).1 x hx)
  unfold insT
  rw [List.append_assoc, List.pairwise_append]
  refine ⟨hr.sublist (List.take_sublist _ _), ?_, ?_⟩
  · rw [List.singleton_append, List.pairwise_cons]
    exact ⟨hdr, hr.sublist (List.drop_sublist _ _)⟩
  · intro a ha b hb2
    rcases List.mem_append.1 hb2 with hb2 | hb2
    · rw [List.mem_singleton.1 hb2]; exact htk a ha
    · exact lt4_trans (htk a ha) (hdr b hb2)
theorem divL_refl (a : List Int) : divL a a = true := by
  unfold divL
  simp
theorem ofL_inj (n : Int) (h1 : 1 ≤ n) (h4 : n ≤ 4) {a c : List Int} (ha : (a.length : Int) = n) (hc : (c.length : Int) = n) (h : ofL a = ofL c) : a = c := by
  rw [← toL_ofL n h1 h4 a ha, ← toL_ofL n h1 h4 c hc, h]
theorem refTo_rising (n : Int) (h1 : 1 ≤ n) (h4 : n ≤ 4) (ts : List HD) (hn : ∀ t ∈ ts, (t.2.2.length : Int) = n) : ∀ i, i ≤ ts.length → Rising ((refTo ts i).map mT)
  | 0, _ => by unfold refTo Rising; simp
  | i + 1, hi => by
    rw [refTo_succ]
    have ih := refTo_rising n h1 h4 ts hn i (by omega)
    have get : ∀ j, j < ts.length → ts.getD j default ∈ ts := fun j hj => by rw [List.getD_eq_getElem?_getD, List.getElem?_eq_getElem hj]; exact List.getElem_mem _
    by_cases c : keptTo ts i ts.length = true
    · rw [if_pos c]
      refine insT_rising n h4 _ _ (fun x hx => hn x (refTo_mem ts i (by omega) x hx)) (hn _ (get i (by omega))) ih (fun x hx e => ?_)
      obtain ⟨j, hj, hk, rfl⟩ := (mem_refTo ts i x).1 hx
      have e2 := ofL_inj n h1 h4 (hn _ (get j (by omega))) (hn _ (get i (by omega))) e
      have h5 := ((keptTo_iff ts i).1 c j (by omega) (by omega) (by rw [e2]; exact divL_refl _)).2
      omega
    · rw [if_neg c]; exact ih
/-- The reference's minimal generators are the minimal generators. -/
theorem ref_minL (n : Int) (h1 : 1 ≤ n) (h4 : n ≤ 4) (ts : List HD) (hn : ∀ t ∈ ts, (t.2.2.length : Int) = n) : (refTo ts ts.length).map (fun t => t.2.2) = minL n (ts.map (fun t => t.2.2)) := by
  have get : ∀ j, j < ts.length → ts.getD j default ∈ ts := fun j hj => by rw [List.getD_eq_getElem?_getD, List.getElem?_eq_getElem hj]; exact List.getElem_mem _
  have hmem : ∀ x, x ∈ (refTo ts ts.length).map mT ↔ x ∈ (ts.map (fun t => t.2.2)).map ofL ∧ ∀ y ∈ (ts.map (fun t => t.2.2)).map ofL, divs y x = true → y = x := by
    intro x
    rw [List.mem_map]
    simp only [mem_refTo]
    constructor
    · rintro ⟨t, ⟨j, hj, hk, rfl⟩, rfl⟩
      refine ⟨List.mem_map.2 ⟨_, List.mem_map.2 ⟨_, get j hj, rfl⟩, rfl⟩, fun y hy hd => ?_⟩
      obtain ⟨r, hr, rfl⟩ := List.mem_map.1 hy
      obtain ⟨s, hs, rfl⟩ := List.mem_map.1 hr
      obtain ⟨k, hkk, rfl⟩ := List.mem_iff_getElem.1 hs
      have e : ts.getD k default = ts[k] := by rw [List.getD_eq_getElem?_getD, List.getElem?_eq_getElem hkk]; rfl
      by_cases ekj : k = j
      · subst ekj; rw [← e]; rfl
      · have h5 := (keptTo_iff ts j).1 hk k hkk ekj (by rw [e, divL_divs n h1 h4 _ _ (hn _ hs) (hn _ (get j hj))]; exact hd)
        rw [e] at h5
        show ofL ts[k].2.2 = ofL _
        rw [h5.1]
    · rintro ⟨hx, hmin⟩
      obtain ⟨r, hr, rfl⟩ := List.mem_map.1 hx
      obtain ⟨s, hs, rfl⟩ := List.mem_map.1 hr
      -- the first place of the row
      have hex : ∃ j, j < ts.length ∧ (ts.getD j default).2.2 = s.2.2 := by
        obtain ⟨k, hkk, e⟩ := List.mem_iff_getElem.1 hs
        exact ⟨k, hkk, by rw [List.getD_eq_getElem?_getD, List.getElem?_eq_getElem hkk, Option.getD_some, e]⟩
      have hfirst : ∃ j, (j < ts.length ∧ (ts.getD j default).2.2 = s.2.2) ∧ ∀ k, k < j → ¬ (k < ts.length ∧ (ts.getD k default).2.2 = s.2.2) := by
        obtain ⟨j, hj⟩ := hex
        induction j using Nat.strongRecOn with
        | ind j ih =>
          by_cases h : ∃ k, k < j ∧ (k < ts.length ∧ (ts.getD k default).2.2 = s.2.2)
          · obtain ⟨k, hk, hk2⟩ := h
            exact ih k hk hk2
          · exact ⟨j, hj, fun k hk hk2 => h ⟨k, hk, hk2⟩⟩
      obtain ⟨j, ⟨hj, ej⟩, hf⟩ := hfirst
      refine ⟨ts.getD j default, ⟨j, hj, ?_, rfl⟩, by show ofL _ = _; rw [ej]⟩
      rw [keptTo_iff]
      intro k hk hne hd
      have hdk : divs (ofL (ts.getD k default).2.2) (ofL s.2.2) = true := by
        rw [ej] at hd
        rw [← divL_divs n h1 h4 _ _ (hn _ (get k hk)) (hn _ hs)]
        exact hd
      have e2 := hmin _ (List.mem_map.2 ⟨_, List.mem_map.2 ⟨_, get k hk, rfl⟩, rfl⟩) hdk
      have e3 := ofL_inj n h1 h4 (hn _ (get k hk)) (hn _ hs) e2
      refine ⟨by rw [e3, ej], ?_⟩
      refine Classical.byContradiction fun hlt => hf k (by omega) ⟨hk, e3⟩
  have he := least_eq (below := divs) (refTo_rising n h1 h4 ts hn ts.length (Nat.le_refl _)) hmem
  unfold minL
  rw [he, List.map_map]
  refine List.map_congr_left fun t ht => ?_
  exact (toL_ofL n h1 h4 t.2.2 (hn t (refTo_mem ts ts.length (Nat.le_refl _) t ht))).symm
end Go.Proofs.Ytmekcfkfkpbfeaa.S
