/- Plain laws: PackQuotient. -/
import Derived.Test.YtmekcfkfkpbfeaaS3
import Derived.Test.YtmekcfkfkpbfeaaHQuo
namespace Go.Proofs.Ytmekcfkfkpbfeaa.S
open Go.Proofs.Ytmekcfkfkpbfeaa.H Go.Proofs.Ytmekcfkfkpbfeaa.M Go.Proofs.Ytmekcfkfkpbfeaa.Ga
open Go.RowKit Go.Proofs.YtmekcfkfkpbfeaaW.PrintWords Go.Proofs.YtmekcfkfkpbfeaaW.PrintLast Go.Proofs.YtmekcfkfkpbfeaaW.PrintMore
set_option linter.unusedVariables false
set_option linter.unusedSimpArgs false
theorem mx0 (x : Int) : mx 0 x = if 0 < x then x else 0 := rfl
theorem over_V6 {k x : M4} (hk : V6 k) (h : V6 x) : V6 (overM k x) := by
  unfold V6 overM at *
  simp only [mx0]
  refine ⟨?_, ?_, ?_, ?_⟩ <;> split <;> omega
theorem over_ext {n : Int} {k x : M4} (hk : V6 k) (h : Ext n x) : Ext n (overM k x) := by
  rw [ext_iff] at *
  unfold V6 at hk
  unfold overM
  simp only [mx0]
  refine ⟨fun e => ?_, fun e => ?_, fun e => ?_, fun e => ?_⟩
  · rw [h.1 e, if_neg (by omega)]
  · rw [h.2.1 e, if_neg (by omega)]
  · rw [h.2.2.1 e, if_neg (by omega)]
  · rw [h.2.2.2 e, if_neg (by omega)]
theorem over_zero {x : M4} (h : V6 x) : overM (0, 0, 0, 0) x = x := by
  obtain ⟨a, b, c, d⟩ := x
  unfold V6 at h
  unfold overM
  simp only [mx0, Prod.mk.injEq] at *
  refine ⟨?_, ?_, ?_, ?_⟩ <;> split <;> omega
theorem over_le {m c x : M4} (hc : V6 c) : Le4 (overM m x) c ↔ Le4 x (m.1 + c.1, m.2.1 + c.2.1, m.2.2.1 + c.2.2.1, m.2.2.2 + c.2.2.2) := by
  have one : ∀ m c x : Int, 0 ≤ c → ((if 0 < x - m then x - m else 0) ≤ c ↔ x ≤ m + c) := by
    intro m c x h
    split <;> omega
  unfold Le4 overM
  simp only [mx0]
  rw [one _ _ _ hc.1.1, one _ _ _ hc.2.1.1, one _ _ _ hc.2.2.1.1, one _ _ _ hc.2.2.2.1]
theorem rd_zip (m d : List Int) (h : m.length = d.length) (i : Int) : rd (List.zipWith (· + ·) m d) i = rd m i + rd d i := by
  unfold rd
  simp only [List.getD_eq_getElem?_getD, List.getElem?_zipWith]
  by_cases hi : i.toNat < m.length
  · rw [List.getElem?_eq_getElem hi, List.getElem?_eq_getElem (by omega)]
    rfl
  · rw [List.getElem?_eq_none (by omega), List.getElem?_eq_none (by omega)]
    rfl
theorem rd_zeros (n : Nat) (i : Int) : rd (List.replicate n 0) i = 0 := by
  unfold rd
  rw [List.getD_eq_getElem?_getD, List.getElem?_replicate]
  split <;> rfl
theorem over_f {n : Int} (h1 : 1 ≤ n) (h4 : n ≤ 4) {l : List (List Int)} (h : GoodL n l) (hl : l.length ≤ 12) {m : List Int} (hm : (m.length : Int) = n) (hy : ∀ y ∈ m, 0 ≤ y ∧ y ≤ 6) : pack_Over.f n l m = some ((least divs ((l.map ofL).map (overM (ofL m)))).map (toL n), 0) := by
  unfold pack_Over.f
  rw [if_pos (readE_zero h1 h4 hl h), if_pos (oneE_true h1 hm hy)]
theorem quotient (n : Int) (hn0 : 0 ≤ n) (hn1 : n ≤ 255) (A : Option Addr) (c : Nat) (xs : List M4) (y0 y1 y2 y3 z0 z1 z2 z3 : Int) (hy : B8 (y0, y1, y2, y3)) (hz : B8 (z0, z1, z2, z3)) (w : World) (hr : Rows8 w A xs) :
    Calls Try.prog 9 #[.int .u8 n, .slice A xs.length c, .agg #[.int .u8 y0, .int .u8 y1, .int .u8 y2, .int .u8 y3, .int .u8 z0, .int .u8 z1, .int .u8 z2, .int .u8 z3]] w fun e w' => e = .returned (.bool true) ∧ Below w.heap.size w w' := by
  have h1 : 1 ≤ n % 4 + 1 := by omega
  have h4 : n % 4 + 1 ≤ 4 := by omega
  generalize hk : n % 4 + 1 = k at h1 h4
  have hg := made_good k h1 h4 xs 12
  have hl := madeL_length k xs 12
  have hm := mono_len k h1 h4 (y0, y1, y2, y3)
  have hd := mono_len k h1 h4 (z0, z1, z2, z3)
  generalize hmm : toL k (m7 (y0, y1, y2, y3)) = m at *
  generalize hdd : toL k (m7 (z0, z1, z2, z3)) = d at *
  have hV := V6_ofL hm.2
  have hW := V6_ofL hd.2
  have hG : G4 k (((madeL k xs 12).map ofL).map (overM (ofL m))) := g4_map (g4_of hg) (fun x h => over_V6 hV h) (fun x _ h => over_ext hV h)
  have hGl := hG.least divs
  obtain ⟨o, ho⟩ : ∃ g, g = (least divs (((madeL k xs 12).map ofL).map (overM (ofL m)))).map (toL k) := ⟨_, rfl⟩
  have hg2 : GoodL k o := by rw [ho]; exact good_of h1 h4 hGl
  have hl2 : o.length ≤ 12 := by
    rw [ho, List.length_map]
    have := least_length divs (((madeL k xs 12).map ofL).map (overM (ofL m)))
    simp only [List.length_map] at this
    omega
  have hoo : o.map ofL = least divs (((madeL k xs 12).map ofL).map (overM (ofL m))) := by rw [ho]; exact map_ofL_toL h1 h4 hGl.ext
  have e1 : pack_Over.f k (madeL k xs 12) m = some (o, 0) := by rw [over_f h1 h4 hg hl hm.1 hm.2, ho]
  have hzl : ((List.replicate k.toNat 0 : List Int).length : Int) = k := by rw [List.length_replicate]; omega
  have e2 : pack_Over.f k (madeL k xs 12) (List.replicate k.toNat 0) = some (minL k (madeL k xs 12), 0) := by
    rw [over_f h1 h4 hg hl hzl (fun y h => by rw [(List.mem_replicate.1 h).2]; omega)]
    have : ((madeL k xs 12).map ofL).map (overM (ofL (List.replicate k.toNat 0))) = (madeL k xs 12).map ofL := by
      conv => rhs; rw [← List.map_id ((madeL k xs 12).map ofL)]
      refine List.map_congr_left fun x hx => ?_
      have e : ofL (List.replicate k.toNat 0) = (0, 0, 0, 0) := by unfold ofL; simp only [rd_zeros]
      rw [e]
      exact over_zero (g4_of hg x hx).1
    rw [this]
    rfl
  have e3 := min_f h1 h4 hg hl
  have e4 := has_f h1 h4 hg2 hl2 hd.1 hd.2
  have hgm := minL_good h1 h4 hg
  have hlm : (minL k (madeL k xs 12)).length ≤ 12 := Nat.le_trans minL_length hl
  obtain ⟨K1, e5⟩ := same_self h4 hgm (by omega)
  obtain ⟨K2, e6⟩ := ideal_ok h1 h4 hg2 hl2
  have hql : ((List.zipWith (· + ·) m d).length : Int) = k := by rw [List.length_zipWith]; have := hm.1; have := hd.1; omega
  obtain ⟨K3, e7⟩ := has_ok h1 h4 hg (by omega) hql
  have e8 : hasM ((madeL k xs 12).map ofL) (ofL (List.zipWith (· + ·) m d)) = hasM (o.map ofL) (ofL d) := by
    have hz2 : ofL (List.zipWith (· + ·) m d) = ((ofL m).1 + (ofL d).1, (ofL m).2.1 + (ofL d).2.1, (ofL m).2.2.1 + (ofL d).2.2.1, (ofL m).2.2.2 + (ofL d).2.2.2) := by
      unfold ofL
      simp only [rd_zip m d (by have := hm.1; have := hd.1; omega)]
    rw [hoo, hasM_least hG.p4, Bool.eq_iff_iff, hasM_iff, hasM_iff, hz2]
    constructor
    · rintro ⟨x, hx, hle⟩
      exact ⟨_, List.mem_map_of_mem hx, (over_le hW).2 hle⟩
    · rintro ⟨z, hz, hle⟩
      obtain ⟨x, hx, rfl⟩ := List.mem_map.1 hz
      exact ⟨x, hx, (over_le hW).1 hle⟩
  rw [e8] at e7
  subst hk
  exact quotient_walk n hn0 hn1 A c xs y0 y1 y2 y3 z0 z1 z2 z3 hy hz w hr _ rfl m hmm hm.1 hm.2 d hdd hd.1 hd.2 _ o _ _ rfl _ rfl K1 K2 K3 e1 e2 e3 e4 e5 e6 e7
end Go.Proofs.Ytmekcfkfkpbfeaa.S
