/- Plain laws: made generators are valid; PackGenerators. -/
import Derived.Test.YtmekcfkfkpbfeaaS1
import Derived.Test.YtmekcfkfkpbfeaaHGens
namespace Go.Proofs.Ytmekcfkfkpbfeaa.S
open Go.Proofs.Ytmekcfkfkpbfeaa.H Go.Proofs.Ytmekcfkfkpbfeaa.M Go.Proofs.Ytmekcfkfkpbfeaa.Ga
open Go.RowKit Go.Proofs.YtmekcfkfkpbfeaaW.PrintWords Go.Proofs.YtmekcfkfkpbfeaaW.PrintLast Go.Proofs.YtmekcfkfkpbfeaaW.PrintMore
set_option linter.unusedVariables false
set_option linter.unusedSimpArgs false
theorem divL_divs (n : Int) (h1 : 1 ≤ n) (h4 : n ≤ 4) (a c : List Int) (ha : (a.length : Int) = n) (hc : (c.length : Int) = n) : divL a c = divs (ofL a) (ofL c) := by
  rw [Bool.eq_iff_iff, divs_iff]
  unfold divL Le4
  match a, c, ha, hc with
  | [], _, ha, _ => simp at ha; omega
  | [a0], [c0], _, _ => simp [ofL, rd]
  | [a0, a1], [c0, c1], _, _ => simp [ofL, rd, List.range_succ]
  | [a0, a1, a2], [c0, c1, c2], _, _ => simp [ofL, rd, List.range_succ, and_assoc]
  | [a0, a1, a2, a3], [c0, c1, c2, c3], _, _ => simp [ofL, rd, List.range_succ, and_assoc]
  | a0 :: a1 :: a2 :: a3 :: a4 :: a, _, ha, _ => simp at ha; omega
  | [a0], [], ha, hc => simp at ha hc; omega
  | [a0], _ :: _ :: _, ha, hc => simp at ha hc; omega
  | [a0, a1], [], ha, hc => simp at ha hc; omega
  | [a0, a1], [_], ha, hc => simp at ha hc; omega
  | [a0, a1], _ :: _ :: _ :: _, ha, hc => simp at ha hc; omega
  | [a0, a1, a2], [], ha, hc => simp at ha hc; omega
  | [a0, a1, a2], [_], ha, hc => simp at ha hc; omega
  | [a0, a1, a2], [_, _], ha, hc => simp at ha hc; omega
  | [a0, a1, a2], _ :: _ :: _ :: _ :: _, ha, hc => simp at ha hc; omega
  | [a0, a1, a2, a3], [], ha, hc => simp at ha hc; omega
  | [a0, a1, a2, a3], [_], ha, hc => simp at ha hc; omega
  | [a0, a1, a2, a3], [_, _], ha, hc => simp at ha hc; omega
  | [a0, a1, a2, a3], [_, _, _], ha, hc => simp at ha hc; omega
  | [a0, a1, a2, a3], _ :: _ :: _ :: _ :: _ :: _, ha, hc => simp at ha hc; omega
/-- Membership in the reference is membership. -/
theorem any_hasM (n : Int) (h1 : 1 ≤ n) (h4 : n ≤ 4) (g : List (List Int)) (m : List Int) (hg : ∀ a ∈ g, (a.length : Int) = n) (hm : (m.length : Int) = n) : (g.any fun a => divL a m) = hasM (g.map ofL) (ofL m) := by
  unfold hasM
  rw [List.any_map]
  rw [Bool.eq_iff_iff, List.any_eq_true, List.any_eq_true]
  refine exists_congr fun a => and_congr_right fun ha => ?_
  rw [divL_divs n h1 h4 a m (hg a ha) hm]
  rfl
theorem m7_V6 {x : M4} : V6 (m7 x) := by
  unfold V6 m7
  dsimp only
  omega
theorem mono_len (k : Int) (h1 : 1 ≤ k) (h4 : k ≤ 4) (x : M4) : ((toL k (m7 x)).length : Int) = k ∧ ∀ y ∈ toL k (m7 x), 0 ≤ y ∧ y ≤ 6 := ⟨toL_length k h1 h4 _, toL_mem_V6 m7_V6⟩
theorem made_good (k : Int) (h1 : 1 ≤ k) (h4 : k ≤ 4) (xs : List M4) (most : Nat) : GoodL k (madeL k xs most) := by
  intro l hl
  unfold madeL at hl
  obtain ⟨x, _, rfl⟩ := List.mem_map.1 hl
  exact mono_len k h1 h4 x
theorem oneE_true {n : Int} (h1 : 1 ≤ n) {l : List Int} (hl : (l.length : Int) = n) (hy : ∀ y ∈ l, 0 ≤ y ∧ y ≤ 6) : oneE n l = true := by
  unfold oneE
  rw [decide_eq_true hl, Bool.true_and]
  exact (okL_iff l (by omega)).2 hy
/-- The minimal generators. -/
def minL (k : Int) (l : List (List Int)) : List (List Int) := (least divs (l.map ofL)).map (toL k)
theorem minL_good {k : Int} (h1 : 1 ≤ k) (h4 : k ≤ 4) {l : List (List Int)} (h : GoodL k l) : GoodL k (minL k l) := good_of h1 h4 ((g4_of h).least divs)
theorem minL_ofL {k : Int} (h1 : 1 ≤ k) (h4 : k ≤ 4) {l : List (List Int)} (h : GoodL k l) : (minL k l).map ofL = least divs (l.map ofL) := map_ofL_toL h1 h4 ((g4_of h).least divs).ext
theorem minL_minL {k : Int} (h1 : 1 ≤ k) (h4 : k ≤ 4) {l : List (List Int)} (h : GoodL k l) : minL k (minL k l) = minL k l := by
  unfold minL
  rw [map_ofL_toL h1 h4 ((g4_of h).least divs).ext, least_least]
theorem minL_length {k : Int} {l : List (List Int)} : (minL k l).length ≤ l.length := by
  unfold minL
  rw [List.length_map]
  have := least_length divs (l.map ofL)
  rwa [List.length_map] at this
theorem GoodL.small {n : Int} (h4 : n ≤ 4) {g : List (List Int)} (h : GoodL n g) : ∀ a ∈ g, a.length < 1000000 := fun a ha => by have := (h a ha).1; omega
theorem same_self {n : Int} (h4 : n ≤ 4) {g : List (List Int)} (h : GoodL n g) (hl : g.length < 1000000) : ∃ K, woggleref01_SameLists.f K g g = some true := by
  have h2 := (sameLists_ev g g hl (GoodL.small h4 h) (GoodL.small h4 h)).rounds
  simpa using h2
theorem ideal_ok {n : Int} (h1 : 1 ≤ n) (h4 : n ≤ 4) {g : List (List Int)} (h : GoodL n g) (hl : g.length ≤ 12) : ∃ K, woggleref04_Ideal.f K n [g] = some 0 := by
  have h2 := (ideal_ev n [g] (by simp) (fun x hx => by
    rw [List.mem_singleton] at hx
    subst hx
    exact ⟨by omega, fun l hm => by have := (h l hm).1; omega⟩)).rounds
  rwa [idE_one, readE_zero h1 h4 hl h] at h2
theorem has_ok {n : Int} (h1 : 1 ≤ n) (h4 : n ≤ 4) {g : List (List Int)} (h : GoodL n g) (hl : g.length < 1000000) {m : List Int} (hm : (m.length : Int) = n) : ∃ K, woggleref04_Has.f K g m = some (hasM (g.map ofL) (ofL m)) := by
  have h2 := (has_ev g m hl (by omega) (fun a ha => by have := (h a ha).1; omega)).rounds
  rwa [any_hasM n h1 h4 g m (fun a ha => (h a ha).1) hm] at h2
theorem min_f {n : Int} (h1 : 1 ≤ n) (h4 : n ≤ 4) {l : List (List Int)} (h : GoodL n l) (hl : l.length ≤ 12) : pack_Minimal.f n l = some (minL n l, 0) := by
  unfold pack_Minimal.f
  rw [if_pos (readE_zero h1 h4 hl h)]
  rfl
theorem has_f {n : Int} (h1 : 1 ≤ n) (h4 : n ≤ 4) {l : List (List Int)} (h : GoodL n l) (hl : l.length ≤ 12) {m : List Int} (hm : (m.length : Int) = n) (hy : ∀ y ∈ m, 0 ≤ y ∧ y ≤ 6) : pack_Has.f n l m = some (hasM (l.map ofL) (ofL m), 0) := by
  unfold pack_Has.f
  rw [if_pos (readE_zero h1 h4 hl h), if_pos (oneE_true h1 hm hy)]
theorem generators (n : Int) (hn0 : 0 ≤ n) (hn1 : n ≤ 255) (A : Option Addr) (c : Nat) (xs : List M4) (y0 y1 y2 y3 : Int) (hy : B8 (y0, y1, y2, y3)) (w : World) (hr : Rows8 w A xs) :
    Calls Try.prog 3 #[.int .u8 n, .slice A xs.length c, .agg #[.int .u8 y0, .int .u8 y1, .int .u8 y2, .int .u8 y3]] w fun e w' => e = .returned (.bool true) ∧ Below w.heap.size w w' := by
  have h1 : 1 ≤ n % 4 + 1 := by omega
  have h4 : n % 4 + 1 ≤ 4 := by omega
  generalize hk : n % 4 + 1 = k at h1 h4
  have hg := made_good k h1 h4 xs 12
  have hl := madeL_length k xs 12
  have hm := mono_len k h1 h4 (y0, y1, y2, y3)
  have hg2 := minL_good h1 h4 hg
  have hl2 : (minL k (madeL k xs 12)).length ≤ 12 := Nat.le_trans minL_length hl
  have e1 := min_f h1 h4 hg hl
  have e2 := min_f h1 h4 hg2 hl2
  rw [minL_minL h1 h4 hg] at e2
  have e3 := has_f h1 h4 hg hl hm.1 hm.2
  obtain ⟨K1, e4⟩ := same_self h4 hg2 (by omega)
  obtain ⟨K2, e5⟩ := ideal_ok h1 h4 hg2 hl2
  obtain ⟨K3, e6⟩ := has_ok h1 h4 hg2 (by omega) hm.1
  rw [minL_ofL h1 h4 hg, hasM_least (g4_of hg).p4] at e6
  rw [← hk] at e1 e2 e3 e4 e5 e6
  exact generators_walk n hn0 hn1 A c xs y0 y1 y2 y3 hy w hr _ rfl _ rfl _ _ K1 K2 K3 e1 e2 e3 e4 e5 e6
end Go.Proofs.Ytmekcfkfkpbfeaa.S
