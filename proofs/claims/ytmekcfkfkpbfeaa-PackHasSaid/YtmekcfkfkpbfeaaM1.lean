/- Plain mathematics of pack: what least is, divisibility, when lists are the same. No condition. -/
import Derived.Test.YtmekcfkfkpbfeaaK6
namespace Go.Proofs.Ytmekcfkfkpbfeaa.M
open Go.Proofs.Ytmekcfkfkpbfeaa.H
open Go.Sort hiding rd
open Go.RowKit Go.Proofs.YtmekcfkfkpbfeaaW.PrintWords Go.Proofs.YtmekcfkfkpbfeaaW.PrintLast Go.Proofs.YtmekcfkfkpbfeaaW.PrintMore
set_option linter.unusedVariables false
set_option linter.unusedSimpArgs false
theorem hit_true (below : M4 → M4 → Bool) (l : List M4) (x : M4) : hit below l x = true ↔ ∃ y ∈ l, y ≠ x ∧ below y x = true := by
  unfold hit
  simp [List.any_eq_true]
theorem isin_true (x : M4) (l : List M4) : isin x l = true ↔ x ∈ l := by
  unfold isin
  simp [List.any_eq_true]
theorem picked_spec (below : M4 → M4 → Bool) (l : List M4) : ∀ (xs out : List M4), out.Nodup → (xs.foldl (keep below l) out).Nodup ∧ ∀ x, x ∈ xs.foldl (keep below l) out ↔ x ∈ out ∨ (x ∈ xs ∧ hit below l x = false)
  | [], out, h => ⟨h, fun x => by simp⟩
  | y :: xs, out, h => by
    rw [List.foldl_cons]
    have hk : (keep below l out y).Nodup ∧ ∀ x, x ∈ keep below l out y ↔ x ∈ out ∨ (x = y ∧ hit below l x = false) := by
      unfold keep
      by_cases c1 : hit below l y = true
      · rw [if_pos c1]
        refine ⟨h, fun x => ⟨.inl, ?_⟩⟩
        rintro (h1 | ⟨rfl, h2⟩)
        · exact h1
        · rw [c1] at h2; exact absurd h2 (by decide)
      · rw [if_neg c1]
        rw [Bool.not_eq_true] at c1
        by_cases c2 : isin y out = true
        · rw [if_pos c2]
          refine ⟨h, fun x => ⟨.inl, ?_⟩⟩
          rintro (h1 | ⟨rfl, h2⟩)
          · exact h1
          · exact (isin_true _ _).1 c2
        · rw [if_neg c2]
          have hn : y ∉ out := fun hm => c2 ((isin_true _ _).2 hm)
          refine ⟨?_, fun x => ?_⟩
          · rw [List.nodup_append]
            refine ⟨h, by simp, fun a ha b hb => ?_⟩
            rw [List.mem_singleton] at hb
            subst hb
            rintro rfl
            exact hn ha
          · rw [List.mem_append, List.mem_singleton]
            refine ⟨fun hx => hx.imp id (fun e => ⟨e, by rw [e]; exact c1⟩), fun hx => hx.imp id (fun e => e.1)⟩
    obtain ⟨h1, h2⟩ := picked_spec below l xs (keep below l out y) hk.1
    refine ⟨h1, fun x => ?_⟩
    rw [h2, hk.2, List.mem_cons]
    constructor
    · rintro ((h3 | ⟨rfl, h4⟩) | ⟨h3, h4⟩)
      · exact .inl h3
      · exact .inr ⟨.inl rfl, h4⟩
      · exact .inr ⟨.inr h3, h4⟩
    · rintro (h3 | ⟨rfl | h3, h4⟩)
      · exact .inl (.inl h3)
      · exact .inl (.inr ⟨rfl, h4⟩)
      · exact .inr ⟨h3, h4⟩
theorem mem_least (below : M4 → M4 → Bool) (l : List M4) (x : M4) : x ∈ least below l ↔ x ∈ l ∧ ∀ y ∈ l, below y x = true → y = x := by
  unfold least picked
  rw [(sort4_perm _).mem_iff, (picked_spec below l l [] (by simp)).2]
  simp only [List.not_mem_nil, false_or]
  refine and_congr_right fun _ => ?_
  rw [← Bool.not_eq_true, hit_true]
  constructor
  · intro h y hy hb
    exact Classical.byContradiction fun hne => h ⟨y, hy, hne, hb⟩
  · rintro h ⟨y, hy, hne, hb⟩
    exact hne (h y hy hb)
theorem least_nodup (below : M4 → M4 → Bool) (l : List M4) : (least below l).Nodup := by
  unfold least picked
  exact (sort4_perm _).nodup_iff.2 (picked_spec below l l [] (by simp)).1
theorem least_sorted (below : M4 → M4 → Bool) (l : List M4) : (least below l).Pairwise (fun a b => ltOf cmp4 b a = false) := sort4_sorted _
theorem lt4_irrefl (a : M4) : ¬ lt4 a a := by unfold lt4; omega
theorem lt4_asymm {a b : M4} (h : lt4 a b) : ¬ lt4 b a := by unfold lt4 at *; omega
theorem lt4_trans {a b c : M4} (h : lt4 a b) (h2 : lt4 b c) : lt4 a c := by unfold lt4 at *; omega
/-- Strictly rising. -/
def Rising (l : List M4) : Prop := l.Pairwise lt4
theorem rising_of {l : List M4} (hn : l.Nodup) (hs : l.Pairwise (fun a b => ltOf cmp4 b a = false)) : Rising l := by
  unfold Rising
  have := hn.and hs
  refine List.Pairwise.imp ?_ this
  rintro a b ⟨h1, h2⟩
  exact Classical.byContradiction fun h => h1 (lt4_tri h ((ltOf_cmp4_no _ _).1 h2))
theorem least_rising (below : M4 → M4 → Bool) (l : List M4) : Rising (least below l) := rising_of (least_nodup _ _) (least_sorted _ _)
/-- Rising lists with the same elements are the same. -/
theorem rising_eq : ∀ {l r : List M4}, Rising l → Rising r → (∀ x, x ∈ l ↔ x ∈ r) → l = r
  | [], [], _, _, _ => rfl
  | [], y :: r, _, _, h => absurd ((h y).2 List.mem_cons_self) (by simp)
  | x :: l, [], _, _, h => absurd ((h x).1 List.mem_cons_self) (by simp)
  | x :: l, y :: r, hl, hr, h => by
    obtain ⟨hl1, hl2⟩ := List.pairwise_cons.1 hl
    obtain ⟨hr1, hr2⟩ := List.pairwise_cons.1 hr
    have e : x = y := by
      rcases List.mem_cons.1 ((h x).1 List.mem_cons_self) with e | e
      · exact e
      · rcases List.mem_cons.1 ((h y).2 List.mem_cons_self) with e2 | e2
        · exact e2.symm
        · exact absurd (hr1 x e) (lt4_asymm (hl1 y e2))
    subst e
    congr 1
    refine rising_eq hl2 hr2 fun z => ?_
    constructor
    · intro hz
      rcases List.mem_cons.1 ((h z).1 (List.mem_cons_of_mem _ hz)) with e | e
      · subst e; exact absurd (hl1 _ hz) (lt4_irrefl _)
      · exact e
    · intro hz
      rcases List.mem_cons.1 ((h z).2 (List.mem_cons_of_mem _ hz)) with e | e
      · subst e; exact absurd (hr1 _ hz) (lt4_irrefl _)
      · exact e
theorem least_eq {below : M4 → M4 → Bool} {l r : List M4} (hr : Rising r) (h : ∀ x, x ∈ r ↔ x ∈ l ∧ ∀ y ∈ l, below y x = true → y = x) : least below l = r :=
  rising_eq (least_rising _ _) hr fun x => by rw [mem_least, h]
theorem least_least (below : M4 → M4 → Bool) (l : List M4) : least below (least below l) = least below l := by
  refine least_eq (least_rising _ _) fun x => ⟨fun h => ⟨h, fun y hy hb => ((mem_least _ _ _).1 h).2 y ((mem_least _ _ _).1 hy).1 hb⟩, fun h => h.1⟩
/-! ### Divisibility -/
/-- Each exponent is at most the other one. -/
def Le4 (a b : M4) : Prop := a.1 ≤ b.1 ∧ a.2.1 ≤ b.2.1 ∧ a.2.2.1 ≤ b.2.2.1 ∧ a.2.2.2 ≤ b.2.2.2
theorem mx_eq_iff (x y : Int) : mx x y = y ↔ x ≤ y := by unfold mx; split <;> omega
theorem divs_iff (a b : M4) : divs a b = true ↔ Le4 a b := by
  unfold divs lcm Le4
  rw [decide_eq_true_iff]
  obtain ⟨a0, a1, a2, a3⟩ := a
  obtain ⟨b0, b1, b2, b3⟩ := b
  simp only [Prod.mk.injEq, mx_eq_iff]
theorem Le4.trans {a b c : M4} (h : Le4 a b) (h2 : Le4 b c) : Le4 a c := by unfold Le4 at *; omega
theorem Le4.refl (a : M4) : Le4 a a := by unfold Le4; omega
theorem Le4.anti {a b : M4} (h : Le4 a b) (h2 : Le4 b a) : a = b := by
  obtain ⟨a0, a1, a2, a3⟩ := a
  obtain ⟨b0, b1, b2, b3⟩ := b
  unfold Le4 at *
  simp only [Prod.mk.injEq]
  dsimp only at *
  omega
def deg (m : M4) : Int := m.1 + m.2.1 + m.2.2.1 + m.2.2.2
theorem Le4.deg_lt {a b : M4} (h : Le4 a b) (hne : a ≠ b) : deg a < deg b := by
  have h2 : ¬ Le4 b a := fun h2 => hne (h.anti h2)
  unfold Le4 at *
  unfold deg
  omega
def P4 (m : M4) : Prop := 0 ≤ m.1 ∧ 0 ≤ m.2.1 ∧ 0 ≤ m.2.2.1 ∧ 0 ≤ m.2.2.2
theorem V6.p4 {m : M4} (h : V6 m) : P4 m := ⟨h.1.1, h.2.1.1, h.2.2.1.1, h.2.2.2.1⟩
/-- Below each element there is a least one. -/
theorem least_under {xs : List M4} (hp : ∀ x ∈ xs, P4 x) : ∀ (n : Nat) (x : M4), x ∈ xs → deg x ≤ n → ∃ y ∈ least divs xs, Le4 y x
  | n, x, hx, hn => by
    by_cases h : ∃ y ∈ xs, y ≠ x ∧ divs y x = true
    · obtain ⟨y, hy, hne, hd⟩ := h
      have h1 := (divs_iff _ _).1 hd
      have h2 := h1.deg_lt hne
      have h3 := hp y hy
      have h4 : 0 ≤ deg y := by unfold P4 at h3; unfold deg; omega
      match n with
      | 0 => omega
      | n + 1 =>
        obtain ⟨z, hz, hl⟩ := least_under hp n y hy (by omega)
        exact ⟨z, hz, hl.trans h1⟩
    · refine ⟨x, (mem_least _ _ _).2 ⟨hx, fun y hy hd => ?_⟩, Le4.refl x⟩
      exact Classical.byContradiction fun hne => h ⟨y, hy, hne, hd⟩
theorem least_under' {xs : List M4} (hp : ∀ x ∈ xs, P4 x) (x : M4) (hx : x ∈ xs) : ∃ y ∈ least divs xs, Le4 y x := by
  have h3 := hp x hx
  have h4 : 0 ≤ deg x := by unfold P4 at h3; unfold deg; omega
  exact least_under hp (deg x).toNat x hx (by omega)
theorem hasM_iff (xs : List M4) (m : M4) : hasM xs m = true ↔ ∃ x ∈ xs, Le4 x m := by
  unfold hasM
  rw [List.any_eq_true]
  simp only [divs_iff]
theorem hasM_least {xs : List M4} (hp : ∀ x ∈ xs, P4 x) (m : M4) : hasM (least divs xs) m = hasM xs m := by
  rw [Bool.eq_iff_iff, hasM_iff, hasM_iff]
  constructor
  · rintro ⟨x, hx, h⟩
    exact ⟨x, ((mem_least _ _ _).1 hx).1, h⟩
  · rintro ⟨x, hx, h⟩
    obtain ⟨y, hy, h2⟩ := least_under' hp x hx
    exact ⟨y, hy, h2.trans h⟩
/-! ### Lists of exponents -/
/-- Exponents of variables that are not there are 0. -/
def Ext (n : Int) (m : M4) : Prop := ∀ i : Nat, i < 4 → n ≤ i → nth m i = 0
theorem ofL_toL (n : Int) (h1 : 1 ≤ n) (h4 : n ≤ 4) (m : M4) (h : Ext n m) : ofL (toL n m) = m := by
  obtain ⟨a, b, c, d⟩ := m
  have h1' := h 1 (by omega)
  have h2 := h 2 (by omega)
  have h3 := h 3 (by omega)
  simp only [nth] at h1' h2 h3
  have : n = 1 ∨ n = 2 ∨ n = 3 ∨ n = 4 := by omega
  rcases this with rfl | rfl | rfl | rfl
  · have e1 := h1' (by omega); have e2 := h2 (by omega); have e3 := h3 (by omega)
    simp at e1 e2 e3
    subst e1 e2 e3
    rfl
  · have e2 := h2 (by omega); have e3 := h3 (by omega)
    simp at e2 e3
    subst e2 e3
    rfl
  · have e3 := h3 (by omega)
    simp at e3
    subst e3
    rfl
  · rfl
theorem toL_ofL (n : Int) (h1 : 1 ≤ n) (h4 : n ≤ 4) (l : List Int) (h : (l.length : Int) = n) : toL n (ofL l) = l := by
  match l, h with
  | [], h => simp at h; omega
  | [a], h => simp at h; subst h; rfl
  | [a, b], h => simp at h; subst h; rfl
  | [a, b, c], h => simp at h; subst h; rfl
  | [a, b, c, d], h => simp at h; subst h; rfl
  | a :: b :: c :: d :: e :: l, h => simp at h; omega
theorem ext_ofL (n : Int) (l : List Int) (h : (l.length : Int) = n) : Ext n (ofL l) := by
  intro i hi hn
  have hz : ∀ j : Nat, l.length ≤ j → rd l (j : Int) = 0 := by
    intro j hj
    unfold rd
    rw [Int.toNat_natCast, List.getD_eq_getElem?_getD, List.getElem?_eq_none hj]
    rfl
  have : i = 0 ∨ i = 1 ∨ i = 2 ∨ i = 3 := by omega
  rcases this with rfl | rfl | rfl | rfl
  · exact hz 0 (by omega)
  · exact hz 1 (by omega)
  · exact hz 2 (by omega)
  · exact hz 3 (by omega)
theorem toL_length (n : Int) (h1 : 1 ≤ n) (h4 : n ≤ 4) (m : M4) : ((toL n m).length : Int) = n := by
  unfold toL
  rw [toN_length _ _ (by omega)]
  omega
theorem map_ofL_toL {n : Int} (h1 : 1 ≤ n) (h4 : n ≤ 4) {xs : List M4} (h : ∀ x ∈ xs, Ext n x) : (xs.map (toL n)).map ofL = xs := by
  rw [List.map_map]
  conv => rhs; rw [← List.map_id xs]
  exact List.map_congr_left fun x hx => ofL_toL n h1 h4 x (h x hx)
theorem toL_mem_V6 {n : Int} {m : M4} (h : V6 m) : ∀ y ∈ toL n m, 0 ≤ y ∧ y ≤ 6 := by
  intro y hy
  unfold toL toN at hy
  have := List.mem_of_mem_take hy
  simp only [List.mem_cons, List.not_mem_nil, or_false] at this
  obtain ⟨h0, h1, h2, h3⟩ := h
  rcases this with rfl | rfl | rfl | rfl
  · exact h0
  · exact h1
  · exact h2
  · exact h3
/-- GoodL lists: as many exponents as variables, each from 0 to 6. -/
def GoodL (n : Int) (gens : List (List Int)) : Prop := ∀ l ∈ gens, (l.length : Int) = n ∧ ∀ y ∈ l, 0 ≤ y ∧ y ≤ 6
theorem readE_zero {n : Int} {gens : List (List Int)} (h1 : 1 ≤ n) (h4 : n ≤ 4) (hl : gens.length ≤ 12) (hg : GoodL n gens) : readE n gens = 0 := by
  unfold readE
  rw [if_neg (by omega), if_neg (by omega), if_pos]
  rw [List.all_eq_true]
  intro l hm
  unfold good
  rw [Bool.and_eq_true, decide_eq_true_iff]
  exact ⟨(hg l hm).1, (okL_iff l (by have := (hg l hm).1; omega)).2 (hg l hm).2⟩
/-- GoodL monomials. -/
def G4 (n : Int) (xs : List M4) : Prop := ∀ x ∈ xs, V6 x ∧ Ext n x
theorem g4_of {n : Int} {gens : List (List Int)} (h : GoodL n gens) : G4 n (gens.map ofL) := by
  intro x hx
  obtain ⟨l, hl, rfl⟩ := List.mem_map.1 hx
  exact ⟨V6_ofL (h l hl).2, ext_ofL n l (h l hl).1⟩
theorem good_of {n : Int} (h1 : 1 ≤ n) (h4 : n ≤ 4) {xs : List M4} (h : G4 n xs) : GoodL n (xs.map (toL n)) := by
  intro l hl
  obtain ⟨x, hx, rfl⟩ := List.mem_map.1 hl
  exact ⟨toL_length n h1 h4 x, toL_mem_V6 (h x hx).1⟩
theorem G4.least {n : Int} {xs : List M4} (h : G4 n xs) (below : M4 → M4 → Bool) : G4 n (least below xs) := fun x hx => h x ((mem_least _ _ _).1 hx).1
theorem G4.p4 {n : Int} {xs : List M4} (h : G4 n xs) : ∀ x ∈ xs, P4 x := fun x hx => V6.p4 (h x hx).1
theorem G4.ext {n : Int} {xs : List M4} (h : G4 n xs) : ∀ x ∈ xs, Ext n x := fun x hx => (h x hx).2
end Go.Proofs.Ytmekcfkfkpbfeaa.M
