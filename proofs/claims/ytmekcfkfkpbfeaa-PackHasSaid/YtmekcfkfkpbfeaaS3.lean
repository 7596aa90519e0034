/- Plain laws: PackRadical. -/
import Derived.Test.YtmekcfkfkpbfeaaS2
import Derived.Test.YtmekcfkfkpbfeaaHRad
namespace Go.Proofs.Ytmekcfkfkpbfeaa.S
open Go.Proofs.Ytmekcfkfkpbfeaa.H Go.Proofs.Ytmekcfkfkpbfeaa.M Go.Proofs.Ytmekcfkfkpbfeaa.Ga
open Go.RowKit Go.Proofs.YtmekcfkfkpbfeaaW.PrintWords Go.Proofs.YtmekcfkfkpbfeaaW.PrintLast Go.Proofs.YtmekcfkfkpbfeaaW.PrintMore
set_option linter.unusedVariables false
set_option linter.unusedSimpArgs false
theorem mn1 {x : Int} (h : 0 ≤ x) : mn x 1 = if x = 0 then 0 else 1 := by unfold mn; split <;> split <;> omega
theorem rad_V6 {x : M4} (h : V6 x) : V6 (radM x) := by
  obtain ⟨a, b, c, d⟩ := x
  unfold V6 radM at *
  dsimp only at *
  rw [mn1 h.1.1, mn1 h.2.1.1, mn1 h.2.2.1.1, mn1 h.2.2.2.1]
  refine ⟨?_, ?_, ?_, ?_⟩ <;> split <;> omega
theorem ext_iff (n : Int) (m : M4) : Ext n m ↔ (n ≤ 0 → m.1 = 0) ∧ (n ≤ 1 → m.2.1 = 0) ∧ (n ≤ 2 → m.2.2.1 = 0) ∧ (n ≤ 3 → m.2.2.2 = 0) := by
  unfold Ext
  constructor
  · intro h
    exact ⟨h 0 (by omega), h 1 (by omega), h 2 (by omega), h 3 (by omega)⟩
  · rintro ⟨h0, h1, h2, h3⟩ i hi hn
    have : i = 0 ∨ i = 1 ∨ i = 2 ∨ i = 3 := by omega
    rcases this with rfl | rfl | rfl | rfl
    · exact h0 hn
    · exact h1 hn
    · exact h2 hn
    · exact h3 hn
theorem mn0 : mn 0 1 = 0 := by decide
theorem rad_ext {n : Int} {x : M4} (h : Ext n x) : Ext n (radM x) := by
  rw [ext_iff] at *
  unfold radM
  dsimp only
  refine ⟨fun e => ?_, fun e => ?_, fun e => ?_, fun e => ?_⟩
  · rw [h.1 e, mn0]
  · rw [h.2.1 e, mn0]
  · rw [h.2.2.1 e, mn0]
  · rw [h.2.2.2 e, mn0]
theorem mn_mn {x : Int} : mn (mn x 1) 1 = mn x 1 := by unfold mn; split <;> simp <;> omega
theorem rad_rad (x : M4) : radM (radM x) = radM x := by
  unfold radM
  simp only [mn_mn]
theorem g4_map {n : Int} {xs : List M4} {f : M4 → M4} (h : G4 n xs) (hv : ∀ x, V6 x → V6 (f x)) (he : ∀ x, V6 x → Ext n x → Ext n (f x)) : G4 n (xs.map f) := by
  intro y hy
  obtain ⟨x, hx, rfl⟩ := List.mem_map.1 hy
  exact ⟨hv x (h x hx).1, he x (h x hx).1 (h x hx).2⟩
theorem rd_map7 (m : List Int) (i : Int) : rd (m.map (fun y => 7 * y)) i = 7 * rd m i := by
  unfold rd
  rw [List.getD_eq_getElem?_getD, List.getD_eq_getElem?_getD, List.getElem?_map]
  cases m[i.toNat]? <;> simp
theorem rad_le {x m : Int} (h0 : 0 ≤ x) (h6 : x ≤ 6) (hm : 0 ≤ m) : mn x 1 ≤ m ↔ x ≤ 7 * m := by rw [mn1 h0]; split <;> omega
theorem radical (n : Int) (hn0 : 0 ≤ n) (hn1 : n ≤ 255) (A : Option Addr) (c : Nat) (xs : List M4) (y0 y1 y2 y3 : Int) (hy : B8 (y0, y1, y2, y3)) (w : World) (hr : Rows8 w A xs) :
    Calls Try.prog 5 #[.int .u8 n, .slice A xs.length c, .agg #[.int .u8 y0, .int .u8 y1, .int .u8 y2, .int .u8 y3]] w fun e w' => e = .returned (.bool true) ∧ Below w.heap.size w w' := by
  have h1 : 1 ≤ n % 4 + 1 := by omega
  have h4 : n % 4 + 1 ≤ 4 := by omega
  generalize hk : n % 4 + 1 = k at h1 h4
  have hg := made_good k h1 h4 xs 12
  have hl := madeL_length k xs 12
  have hm := mono_len k h1 h4 (y0, y1, y2, y3)
  have hG : G4 k (((madeL k xs 12).map ofL).map radM) := g4_map (g4_of hg) (fun x h => rad_V6 h) (fun x _ h => rad_ext h)
  have hGl := hG.least divs
  obtain ⟨g, hgd⟩ : ∃ g, g = (least divs (((madeL k xs 12).map ofL).map radM)).map (toL k) := ⟨_, rfl⟩
  have hg2 : GoodL k g := by rw [hgd]; exact good_of h1 h4 hGl
  have hl2 : g.length ≤ 12 := by
    rw [hgd, List.length_map]
    have := least_length divs (((madeL k xs 12).map ofL).map radM)
    simp only [List.length_map] at this
    omega
  have hgo : g.map ofL = least divs (((madeL k xs 12).map ofL).map radM) := by rw [hgd]; exact map_ofL_toL h1 h4 hGl.ext
  have e1 : pack_Radical.f k (madeL k xs 12) = some (g, 0) := by
    unfold pack_Radical.f
    rw [if_pos (readE_zero h1 h4 hl hg), hgd]
  have e2 : pack_Radical.f k g = some (g, 0) := by
    unfold pack_Radical.f
    rw [if_pos (readE_zero h1 h4 hl2 hg2), hgo]
    have : (least divs (((madeL k xs 12).map ofL).map radM)).map radM = least divs (((madeL k xs 12).map ofL).map radM) := by
      conv => rhs; rw [← List.map_id (least divs (((madeL k xs 12).map ofL).map radM))]
      refine List.map_congr_left fun x hx => ?_
      obtain ⟨z, _, rfl⟩ := List.mem_map.1 ((mem_least _ _ _).1 hx).1
      exact rad_rad z
    rw [this, least_least, ← hgd]
  have e3 := has_f h1 h4 hg2 hl2 hm.1 hm.2
  obtain ⟨K1, e4⟩ := same_self h4 hg2 (by omega)
  obtain ⟨K2, e5⟩ := ideal_ok h1 h4 hg2 hl2
  generalize hmm : toL k (m7 (y0, y1, y2, y3)) = m at *
  have hql : ((m.map (fun y => 7 * y)).length : Int) = k := by rw [List.length_map]; exact hm.1
  obtain ⟨K3, e6⟩ := has_ok h1 h4 hg (by omega) hql
  have e7 : hasM ((madeL k xs 12).map ofL) (ofL (m.map (fun y => 7 * y))) = hasM (g.map ofL) (ofL m) := by
    rw [hgo, hasM_least hG.p4, Bool.eq_iff_iff, hasM_iff, hasM_iff]
    have hV := V6_ofL hm.2
    constructor
    · rintro ⟨x, hx, hle⟩
      refine ⟨radM x, List.mem_map_of_mem hx, ?_⟩
      have hx6 := (g4_of hg x hx).1
      unfold Le4 ofL radM at *
      simp only [rd_map7] at hle
      exact ⟨(rad_le hx6.1.1 hx6.1.2 hV.1.1).2 hle.1, (rad_le hx6.2.1.1 hx6.2.1.2 hV.2.1.1).2 hle.2.1, (rad_le hx6.2.2.1.1 hx6.2.2.1.2 hV.2.2.1.1).2 hle.2.2.1, (rad_le hx6.2.2.2.1 hx6.2.2.2.2 hV.2.2.2.1).2 hle.2.2.2⟩
    · rintro ⟨z, hz, hle⟩
      obtain ⟨x, hx, rfl⟩ := List.mem_map.1 hz
      refine ⟨x, hx, ?_⟩
      have hx6 := (g4_of hg x hx).1
      unfold Le4 ofL radM at *
      simp only [rd_map7]
      exact ⟨(rad_le hx6.1.1 hx6.1.2 hV.1.1).1 hle.1, (rad_le hx6.2.1.1 hx6.2.1.2 hV.2.1.1).1 hle.2.1, (rad_le hx6.2.2.1.1 hx6.2.2.1.2 hV.2.2.1.1).1 hle.2.2.1, (rad_le hx6.2.2.2.1 hx6.2.2.2.2 hV.2.2.2.1).1 hle.2.2.2⟩
  rw [e7] at e6
  subst hk
  exact radical_walk n hn0 hn1 A c xs y0 y1 y2 y3 hy w hr _ rfl m hmm hm.1 hm.2 g _ _ rfl K1 K2 K3 e1 e2 e3 e4 e5 e6
end Go.Proofs.Ytmekcfkfkpbfeaa.S
