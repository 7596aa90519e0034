/- The walks of pack.parts, add, numerator. -/
import Derived.Test.YtmekcfkfkpbfeaaGa0
import Derived.BigRegion
import Derived.BigQuiet
import Derived.Deep.RegionHeld3
import Derived.Outline
import Derived.LoopN
import Derived.Test.YtmekcfkfkpbfeaaK4
import Derived.Test.YtmekcfkfkpbfeaaGa2
namespace Go.Proofs.Ytmekcfkfkpbfeaa.H
open Go.RowKit Go.Proofs.YtmekcfkfkpbfeaaW.PrintWords Go.Proofs.YtmekcfkfkpbfeaaW.PrintLast Go.Proofs.YtmekcfkfkpbfeaaW.PrintMore
attribute [local go_sem] max2_int min2_int max_two min_two max_three min_three max_four min_four
set_option linter.unusedVariables false
set_option linter.unusedSimpArgs false
/-- Exponent i of a monomial turned to v. -/
def put (m : M4) (i : Nat) (v : Int) : M4 := if i = 0 then (v, m.2) else if i = 1 then (m.1, v, m.2.2) else if i = 2 then (m.1, m.2.1, v, m.2.2.2) else (m.1, m.2.1, m.2.2.1, v)
/-- The part p with a power of variable i out of g. -/
def stepP (g p : M4) (i : Nat) : List M4 := if nth g i = 0 then [] else if nth p i = 0 ∨ nth g i < nth p i then [put p i (nth g i)] else [p]
def stepTo (g p : M4) (i : Nat) : List M4 := (List.range i).flatMap (stepP g p)
def split1 (g p : M4) : List M4 := stepTo g p 4
def nexts (g : M4) (l : List M4) : List M4 := l.flatMap (split1 g)
def partsOf (gens : List M4) : List M4 := gens.foldl (fun l g => least within (nexts g l)) [(0, 0, 0, 0)]
def parts (xs : List M4) : List M4 := partsOf (least divs xs)
theorem stepTo_succ (g p : M4) (i : Nat) : stepTo g p (i + 1) = stepTo g p i ++ stepP g p i := by
  unfold stepTo
  rw [List.range_succ, List.flatMap_append]
  simp
theorem stepP_len (g p : M4) (i : Nat) : (stepP g p i).length ≤ 1 := by
  unfold stepP
  split
  · simp
  · split <;> simp
theorem stepTo_len (g p : M4) : ∀ i, (stepTo g p i).length ≤ i
  | 0 => by simp [stepTo]
  | i + 1 => by
    have h1 := stepTo_len g p i
    have h2 := stepP_len g p i
    rw [stepTo_succ, List.length_append]
    omega
theorem nexts_len (g : M4) (l : List M4) : (nexts g l).length ≤ 4 * l.length := by
  induction l with
  | nil => simp [nexts]
  | cons a l ih =>
    unfold nexts at *
    rw [List.flatMap_cons, List.length_append, List.length_cons]
    have := stepTo_len g a 4
    unfold split1 at *
    omega
theorem nexts_snoc (g : M4) (l : List M4) (j : Nat) (p : M4) (h : l[j]? = some p) : nexts g (l.take (j + 1)) = nexts g (l.take j) ++ split1 g p := by
  obtain ⟨hj, e⟩ := List.getElem?_eq_some_iff.1 h
  unfold nexts
  rw [List.take_succ_eq_append_getElem hj, List.flatMap_append, e]
  simp
theorem partsOf_snoc (gens : List M4) (k : Nat) (g : M4) (h : gens[k]? = some g) : partsOf (gens.take (k + 1)) = least within (nexts g (partsOf (gens.take k))) := by
  obtain ⟨hk, e⟩ := List.getElem?_eq_some_iff.1 h
  unfold partsOf
  rw [List.take_succ_eq_append_getElem hk, List.foldl_append, e]
  rfl
theorem partsOf_len (gens : List M4) : ∀ k, (partsOf (gens.take k)).length ≤ 4 ^ k
  | 0 => by simp [partsOf]
  | k + 1 => by
    have ih := partsOf_len gens k
    by_cases hk : k < gens.length
    · rw [partsOf_snoc gens k _ (List.getElem?_eq_getElem hk)]
      have h1 := least_length within (nexts gens[k] (partsOf (gens.take k)))
      have h2 := nexts_len gens[k] (partsOf (gens.take k))
      rw [Nat.pow_succ]
      omega
    · rw [List.take_of_length_le (by omega)] at ih
      rw [List.take_of_length_le (by omega), Nat.pow_succ]
      omega
theorem pow12 (k : Nat) (h : k ≤ 12) : 4 ^ k ≤ 16777216 := Nat.le_trans (Nat.pow_le_pow_right (by omega) h) (by decide)
end Go.Proofs.Ytmekcfkfkpbfeaa.H
namespace Go.Proofs.Ytmekcfkfkpbfeaa.H
open Go.RowKit Go.Proofs.YtmekcfkfkpbfeaaW.PrintWords Go.Proofs.YtmekcfkfkpbfeaaW.PrintLast Go.Proofs.YtmekcfkfkpbfeaaW.PrintMore
attribute [local go_sem] max2_int min2_int max_two min_two max_three min_three max_four min_four
set_option linter.unusedVariables false
set_option linter.unusedSimpArgs false
theorem boxAt_far {W W1 : World} {b : Nat} {m : M4} (h : BoxAt W b m) {row : Option Nat} (hg : W.grownBy W1 row) (hne : some b ≠ row) : BoxAt W1 b m :=
  ⟨(hg.cell_far ⟨b, 0, none⟩ h.lt hne).trans h.1, (hg.cell_far ⟨b, 1, none⟩ h.lt hne).trans h.2.1, (hg.cell_far ⟨b, 2, none⟩ h.lt hne).trans h.2.2.1, (hg.cell_far ⟨b, 3, none⟩ h.lt hne).trans h.2.2.2⟩
set_option maxRecDepth 100000 in
set_option maxHeartbeats 64000000 in
theorem parts_calls (g : Nat) (n : Int) (xs : List M4) (w : World) (hi : Ideal w g n xs) (hl : xs.length ≤ 12) :
    Calls Try.prog 58 #[.pointer (some ⟨g, 0, none⟩)] w fun e w' => ∃ v, e = .returned v ∧ K4.R 76 w' w.heap.size (fun _ => True) v (parts xs) ∧ Below w.heap.size w w' := by
  have HML : Aside0 ((least divs xs).length ≤ 12) := ⟨Nat.le_trans (least_length divs xs) hl⟩
  have HP : Aside0 (parts xs = partsOf (least divs xs)) := ⟨rfl⟩
  have HM := Aside0.mk (minimal_calls g n xs _ (hi.below (below_alloc (Below.refl w.heap.size w) (.cells #[.int .i64 0, .int .i64 0, .int .i64 0, .int .i64 0] 76))) (by omega))
  have HB0 := Aside0.mk (below_alloc (Below.refl w.heap.size w) (.cells #[.int .i64 0, .int .i64 0, .int .i64 0, .int .i64 0] 76))
  have HO0 : Aside0 (K4.R 76 (w.alloc (.cells #[.int .i64 0, .int .i64 0, .int .i64 0, .int .i64 0] 76)) w.heap.size (fun _ => True) (.slice (some ⟨w.heap.size, 0, none⟩) 1 1) [(0, 0, 0, 0)]) := ⟨R4_of_own ⟨rfl, .inr ⟨w.heap.size, 1, _, rfl, Nat.le_refl _, heap_alloc_new _ _, Nat.le_refl _, by decide, rfl, rfl⟩⟩ (fun _ _ => trivial)⟩
  generalize parts xs = ps at *
  generalize least divs xs = ms at *
  clear hi hl
  go_enter Try.func58, Try.ntmps58
  go_wp2_with (go_at_call 47; refine HM.out.mono ?_; rintro e w1 ⟨g', rfl, hi1, hb1⟩; have HB1 := Aside0.mk (below_step HB0.out hb1); have HO1 := Aside0.mk (Kd.R_below HO0.out hb1); obtain ⟨Am, cm, j0, j1, hrm⟩ := hi1.reads; have HRM := Aside0.mk hrm; clear hrm hb1 hi1)
  clear j0 j1 HM HB0 HO0
  go_loopw [3, 20] (fun v3 v20 w' => ∃ (k : Nat) (l : List M4), k ≤ ms.length ∧ v20 = .int .i64 (k : Int) ∧ Aside0 (l = partsOf (ms.take k)) ∧ Aside0 (K4.R 76 w' w.heap.size (fun _ => True) v3 l) ∧ Aside0 (Below w.heap.size w w') ∧ Aside0 (Rows w' Am ms)) (fun _ v20 _ => ms.length - (intOf v20).toNat)
  case atStart => exact ⟨0, _, Nat.zero_le _, rfl, ⟨rfl⟩, HO1, HB1, HRM⟩
  case round =>
    clear HO1 HB1 HRM
    obtain ⟨k, l, hk, rfl, HE, HO, HB, HRM⟩ := hrel
    have hm12 : ms.length ≤ 12 := HML.out
    by_cases hlt : k < ms.length
    · have hltb : decide ((k : Int) < (ms.length : Int)) = true := decide_eq_true (by omega)
      have hk0 : (0 : Int) ≤ (k : Int) := by omega
      obtain ⟨G, hGk⟩ : ∃ x, ms[k]? = some x := ⟨_, List.getElem?_eq_getElem hlt⟩
      obtain ⟨gm, hgm, hgl, x0, x1, x2, x3⟩ := HRM.out.elem k G hGk
      subst hgm
      have HST : Aside0 (partsOf (ms.take (k + 1)) = least within (nexts G l)) := ⟨by rw [HE.out]; exact partsOf_snoc ms k G hGk⟩
      have HLL : Aside0 (l.length ≤ 16777216) := ⟨by rw [HE.out]; exact Nat.le_trans (partsOf_len ms k) (pow12 k (by omega))⟩
      clear hGk
      obtain ⟨A3, c3, hv3, _, hr3, _⟩ := rows_of_R HO.out
      subst hv3
      have HX5 := Aside0.mk (boxAt_new wr G 76)
      have HBn := Aside0.mk (below_alloc HB.out (.cells #[.int .i64 G.1, .int .i64 G.2.1, .int .i64 G.2.2.1, .int .i64 G.2.2.2] 76))
      have HR3 := Aside0.mk (hr3.below (below_alloc (Below.refl _ _) (.cells #[.int .i64 G.1, .int .i64 G.2.1, .int .i64 G.2.2.1, .int .i64 G.2.2.2] 76)))
      have HRn := Aside0.mk (HRM.out.below (below_alloc (Below.refl _ _) (.cells #[.int .i64 G.1, .int .i64 G.2.1, .int .i64 G.2.2.1, .int .i64 G.2.2.2] 76)))
      clear hr3 HO HRM
      obtain ⟨g0, g1, g2, g3⟩ := G
      dsimp only at x0 x1 x2 x3 HX5 HBn HR3 HRn
      go_wp2
      clear x0 x1 x2 x3 hgl
      generalize hwr : wr.heap.size = b5 at *
      clear hwr
      generalize (wr.alloc (.cells #[.int .i64 g0, .int .i64 g1, .int .i64 g2, .int .i64 g3] 76)) = Wn at *
      clear HB
      have hl16 : l.length ≤ 16777216 := HLL.out
      go_loopw [6, 26] (fun v6 v26 w' => ∃ (j : Nat) (nx : List M4), j ≤ l.length ∧ v26 = .int .i64 (j : Int) ∧ Aside0 (nx = nexts (g0, g1, g2, g3) (l.take j)) ∧ Aside0 (K4.R 76 w' Wn.heap.size (fun _ => True) v6 nx) ∧ Aside0 (Below Wn.heap.size Wn w')) (fun _ v26 _ => l.length - (intOf v26).toNat)
      case atStart => exact ⟨0, [], Nat.zero_le _, rfl, ⟨by simp [nexts]⟩, ⟨Kd.R_nil _ _ _ _ _⟩, ⟨Below.refl _ _⟩⟩
      case round =>
        obtain ⟨j, nx, hj, rfl, HEN, HO, HB⟩ := hrel
        by_cases hlt2 : j < l.length
        · have hltb2 : decide ((j : Int) < (l.length : Int)) = true := decide_eq_true (by omega)
          have hj0 : (0 : Int) ≤ (j : Int) := by omega
          obtain ⟨P, hPj⟩ : ∃ x, l[j]? = some x := ⟨_, List.getElem?_eq_getElem hlt2⟩
          obtain ⟨gl, hgl, hgll, x0, x1, x2, x3⟩ := (HR3.out.below HB.out).elem j P hPj
          subst hgl
          have HSN : Aside0 (nexts (g0, g1, g2, g3) (l.take (j + 1)) = nx ++ split1 (g0, g1, g2, g3) P) := ⟨by rw [HEN.out]; exact nexts_snoc _ l j P hPj⟩
          have HNL : Aside0 (nx.length ≤ 67108864) := ⟨by
            rw [HEN.out]
            have h1 := nexts_len (g0, g1, g2, g3) (l.take j)
            rw [List.length_take] at h1
            omega⟩
          clear hPj
          have HX8 := Aside0.mk (boxAt_new wr P 76)
          have HB8 := Aside0.mk (below_alloc HB.out (.cells #[.int .i64 P.1, .int .i64 P.2.1, .int .i64 P.2.2.1, .int .i64 P.2.2.2] 76))
          have HO8 := Aside0.mk (Kd.R_alloc (Kd.R_mono (Kd.R_bound HO.out) (ok' := fun k_ => k_ ≠ wr.heap.size) (fun k_ h_ => by have := h_.2.2.1; omega)) (.cells #[.int .i64 P.1, .int .i64 P.2.1, .int .i64 P.2.2.1, .int .i64 P.2.2.2] 76))
          have HX5w := Aside0.mk (HX5.out.below HB8.out)
          obtain ⟨y0, y1, y2, y3⟩ := HX5w.out
          obtain ⟨p0, p1, p2, p3⟩ := P
          dsimp only at x0 x1 x2 x3 HX8 HB8 HO8 y0 y1 y2 y3 HX5w
          go_wp2
          clear x0 x1 x2 x3 y0 y1 y2 y3 hgll HX5w
          generalize hb8 : wr.heap.size = b8 at *
          clear hb8
          generalize (wr.alloc (.cells #[.int .i64 p0, .int .i64 p1, .int .i64 p2, .int .i64 p3] 76)) = W8 at *
          clear HB HO
          go_loopw [6, 31] (fun v6 v31 w' => ∃ (i : Nat) (out : List M4), i ≤ 4 ∧ v31 = .int .i64 (i : Int) ∧ Aside0 (out = nx ++ stepTo (g0, g1, g2, g3) (p0, p1, p2, p3) i) ∧ Aside0 (K4.R 76 w' Wn.heap.size (fun k_ => k_ ≠ b8) v6 out) ∧ Aside0 (Below Wn.heap.size Wn w') ∧ Aside0 (BoxAt w' b8 (p0, p1, p2, p3))) (fun _ v31 _ => 4 - (intOf v31).toNat)
          case atStart => exact ⟨0, nx, by omega, rfl, ⟨by simp [stepTo]⟩, HO8, HB8, HX8⟩
          case round =>
            clear HO8 HB8 HX8
            obtain ⟨i, out, hi, rfl, HE, HO, HB, HX8⟩ := hrel
            obtain ⟨A6, c6, hv6, _, _⟩ := rows_of_R HO.out
            subst hv6
            have HOL : Aside0 (out.length ≤ 100000000) := ⟨by
              rw [HE.out, List.length_append]
              have h1 := stepTo_len (g0, g1, g2, g3) (p0, p1, p2, p3) i
              have h2 := HNL.out
              omega⟩
            obtain ⟨x0, x1, x2, x3⟩ := HX8.out
            dsimp only at x0 x1 x2 x3
            by_cases h4 : i < 4
            · have hcs : i = 0 ∨ i = 1 ∨ i = 2 ∨ i = 3 := by omega
              clear h4 hi
              rcases hcs with rfl | rfl | rfl | rfl
              · rw [show ((0 : Nat) : Int) = 0 from rfl]
                have HE0 := HE.out
                have hix : ∀ W : World, (Instr.index 76 (.agg #[.int .i64 g0, .int .i64 g1, .int .i64 g2, .int .i64 g3]) (.int .i64 0)).run Try.prog W = .ok (.int .i64 g0) W := fun _ => by kernel_rfl
                by_cases c1 : g0 = 0
                · have c1b : (g0 == 0) = true := beq_iff_eq.mpr c1
                  have HS : Aside0 (stepP (g0, g1, g2, g3) (p0, p1, p2, p3) 0 = []) := ⟨by unfold stepP; exact if_pos c1⟩
                  clear c1 HE0
                  go_wp2
                  go_roundw
                  case rel => exact ⟨1, out, by omega, rfl, ⟨HE.out.trans (congrArg (nx ++ ·) (((stepTo_succ (g0, g1, g2, g3) (p0, p1, p2, p3) 0).trans (by rw [HS.out, List.append_nil])).symm))⟩, HO, HB, HX8⟩
                  case measure => simp [intOf]
                have c1b : (g0 == 0) = false := beq_eq_false_iff_ne.mpr c1
                by_cases c2 : p0 = 0
                · have c2b : (p0 == 0) = true := beq_iff_eq.mpr c2
                  have HS : Aside0 (stepP (g0, g1, g2, g3) (p0, p1, p2, p3) 0 = [(g0, p1, p2, p3)]) := ⟨by unfold stepP; exact (if_neg c1).trans (if_pos (.inl c2))⟩
                  clear c1 c2 HE0
                  have HBX := Aside0.mk (boxAt_new wr (p0, p1, p2, p3) 76)
                  have HB1 := Aside0.mk (below_alloc HB.out (.cells #[.int .i64 p0, .int .i64 p1, .int .i64 p2, .int .i64 p3] 76))
                  go_wp2_with (at_builtin; refine Kd.R_append K4 (w0 := Wn) Wn.heap.size rfl (.tmp 52) (.tmp 54) 71 76 (.agg #[.int .i64 0, .int .i64 0, .int .i64 0, .int .i64 0]) 32 rfl Try.underlying71 info76 rfl (by decide) (by omega) (.slice A6 out.length c6) out (g0, p1, p2, p3) (enc (g0, p1, p2, p3)) (fun k_ => k_ ≠ b8) (fun _ => False) rfl (Eq.trans (b := Value.slice (some ⟨wr.heap.size + 1, 0, none⟩) 1 1) rfl (by simp)) ?aP (fun _ h => h.elim) ?aF ?aO ?aB ?aS ?aL ?_; (case aP => exact rfl); (case aF => exact (fun k_ h_ => by have h8_ := HX8.out.lt; simp at h_; omega)); (case aO => exact Kd.R_alloc HO.out _); (case aB => exact below_alloc HB.out _); (case aS => exact (below_alloc HB.out _).size); (case aL => have := HOL.out; omega); intro v1 w4 ho hb hg hat; have HO2 := Aside0.mk ho; have HB2 := Aside0.mk hb; have HX2 := Aside0.mk (boxAt_far (boxAt_alloc HX8.out _) hg (fun e_ => HO.out.1 _ e_.symm rfl)); clear ho hb hg hat)
                  go_roundw
                  case rel => exact ⟨1, out ++ [(g0, p1, p2, p3)], by omega, rfl, ⟨(congrArg (· ++ [(g0, p1, p2, p3)]) HE.out).trans ((List.append_assoc _ _ _).trans (congrArg (nx ++ ·) ((stepTo_succ (g0, g1, g2, g3) (p0, p1, p2, p3) 0).trans (by rw [HS.out])).symm))⟩, HO2, HB2, HX2⟩
                  case measure => simp [intOf]
                have c2b : (p0 == 0) = false := beq_eq_false_iff_ne.mpr c2
                by_cases c3 : g0 < p0
                · have c3b : decide (g0 < p0) = true := decide_eq_true c3
                  have HS : Aside0 (stepP (g0, g1, g2, g3) (p0, p1, p2, p3) 0 = [(g0, p1, p2, p3)]) := ⟨by unfold stepP; exact (if_neg c1).trans (if_pos (.inr c3))⟩
                  clear c1 c2 c3 HE0
                  have HBX := Aside0.mk (boxAt_new wr (p0, p1, p2, p3) 76)
                  have HB1 := Aside0.mk (below_alloc HB.out (.cells #[.int .i64 p0, .int .i64 p1, .int .i64 p2, .int .i64 p3] 76))
                  go_wp2_with (at_builtin; refine Kd.R_append K4 (w0 := Wn) Wn.heap.size rfl (.tmp 52) (.tmp 54) 71 76 (.agg #[.int .i64 0, .int .i64 0, .int .i64 0, .int .i64 0]) 32 rfl Try.underlying71 info76 rfl (by decide) (by omega) (.slice A6 out.length c6) out (g0, p1, p2, p3) (enc (g0, p1, p2, p3)) (fun k_ => k_ ≠ b8) (fun _ => False) rfl (Eq.trans (b := Value.slice (some ⟨wr.heap.size + 1, 0, none⟩) 1 1) rfl (by simp)) ?aP (fun _ h => h.elim) ?aF ?aO ?aB ?aS ?aL ?_; (case aP => exact rfl); (case aF => exact (fun k_ h_ => by have h8_ := HX8.out.lt; simp at h_; omega)); (case aO => exact Kd.R_alloc HO.out _); (case aB => exact below_alloc HB.out _); (case aS => exact (below_alloc HB.out _).size); (case aL => have := HOL.out; omega); intro v1 w4 ho hb hg hat; have HO2 := Aside0.mk ho; have HB2 := Aside0.mk hb; have HX2 := Aside0.mk (boxAt_far (boxAt_alloc HX8.out _) hg (fun e_ => HO.out.1 _ e_.symm rfl)); clear ho hb hg hat)
                  go_roundw
                  case rel => exact ⟨1, out ++ [(g0, p1, p2, p3)], by omega, rfl, ⟨(congrArg (· ++ [(g0, p1, p2, p3)]) HE.out).trans ((List.append_assoc _ _ _).trans (congrArg (nx ++ ·) ((stepTo_succ (g0, g1, g2, g3) (p0, p1, p2, p3) 0).trans (by rw [HS.out])).symm))⟩, HO2, HB2, HX2⟩
                  case measure => simp [intOf]
                · have c3b : decide (g0 < p0) = false := decide_eq_false c3
                  have HS : Aside0 (stepP (g0, g1, g2, g3) (p0, p1, p2, p3) 0 = [(p0, p1, p2, p3)]) := ⟨by unfold stepP; exact (if_neg c1).trans (if_neg (fun h_ => h_.elim c2 c3))⟩
                  clear c1 c2 c3 HE0
                  have HBX := Aside0.mk (boxAt_new wr (p0, p1, p2, p3) 76)
                  have HB1 := Aside0.mk (below_alloc HB.out (.cells #[.int .i64 p0, .int .i64 p1, .int .i64 p2, .int .i64 p3] 76))
                  go_wp2_with (at_builtin; refine Kd.R_append K4 (w0 := Wn) Wn.heap.size rfl (.tmp 52) (.tmp 54) 71 76 (.agg #[.int .i64 0, .int .i64 0, .int .i64 0, .int .i64 0]) 32 rfl Try.underlying71 info76 rfl (by decide) (by omega) (.slice A6 out.length c6) out (p0, p1, p2, p3) (enc (p0, p1, p2, p3)) (fun k_ => k_ ≠ b8) (fun _ => False) rfl (Eq.trans (b := Value.slice (some ⟨wr.heap.size + 1, 0, none⟩) 1 1) rfl (by simp)) ?aP (fun _ h => h.elim) ?aF ?aO ?aB ?aS ?aL ?_; (case aP => exact rfl); (case aF => exact (fun k_ h_ => by have h8_ := HX8.out.lt; simp at h_; omega)); (case aO => exact Kd.R_alloc HO.out _); (case aB => exact below_alloc HB.out _); (case aS => exact (below_alloc HB.out _).size); (case aL => have := HOL.out; omega); intro v1 w4 ho hb hg hat; have HO2 := Aside0.mk ho; have HB2 := Aside0.mk hb; have HX2 := Aside0.mk (boxAt_far (boxAt_alloc HX8.out _) hg (fun e_ => HO.out.1 _ e_.symm rfl)); clear ho hb hg hat)
                  go_roundw
                  case rel => exact ⟨1, out ++ [(p0, p1, p2, p3)], by omega, rfl, ⟨(congrArg (· ++ [(p0, p1, p2, p3)]) HE.out).trans ((List.append_assoc _ _ _).trans (congrArg (nx ++ ·) ((stepTo_succ (g0, g1, g2, g3) (p0, p1, p2, p3) 0).trans (by rw [HS.out])).symm))⟩, HO2, HB2, HX2⟩
                  case measure => simp [intOf]
              · rw [show ((1 : Nat) : Int) = 1 from rfl]
                have HE0 := HE.out
                have hix : ∀ W : World, (Instr.index 76 (.agg #[.int .i64 g0, .int .i64 g1, .int .i64 g2, .int .i64 g3]) (.int .i64 1)).run Try.prog W = .ok (.int .i64 g1) W := fun _ => by kernel_rfl
                by_cases c1 : g1 = 0
                · have c1b : (g1 == 0) = true := beq_iff_eq.mpr c1
                  have HS : Aside0 (stepP (g0, g1, g2, g3) (p0, p1, p2, p3) 1 = []) := ⟨by unfold stepP; exact if_pos c1⟩
                  clear c1 HE0
                  go_wp2
                  go_roundw
                  case rel => exact ⟨2, out, by omega, rfl, ⟨HE.out.trans (congrArg (nx ++ ·) (((stepTo_succ (g0, g1, g2, g3) (p0, p1, p2, p3) 1).trans (by rw [HS.out, List.append_nil])).symm))⟩, HO, HB, HX8⟩
                  case measure => simp [intOf]
                have c1b : (g1 == 0) = false := beq_eq_false_iff_ne.mpr c1
                by_cases c2 : p1 = 0
                · have c2b : (p1 == 0) = true := beq_iff_eq.mpr c2
                  have HS : Aside0 (stepP (g0, g1, g2, g3) (p0, p1, p2, p3) 1 = [(p0, g1, p2, p3)]) := ⟨by unfold stepP; exact (if_neg c1).trans (if_pos (.inl c2))⟩
                  clear c1 c2 HE0
                  have HBX := Aside0.mk (boxAt_new wr (p0, p1, p2, p3) 76)
                  have HB1 := Aside0.mk (below_alloc HB.out (.cells #[.int .i64 p0, .int .i64 p1, .int .i64 p2, .int .i64 p3] 76))
                  go_wp2_with (at_builtin; refine Kd.R_append K4 (w0 := Wn) Wn.heap.size rfl (.tmp 52) (.tmp 54) 71 76 (.agg #[.int .i64 0, .int .i64 0, .int .i64 0, .int .i64 0]) 32 rfl Try.underlying71 info76 rfl (by decide) (by omega) (.slice A6 out.length c6) out (p0, g1, p2, p3) (enc (p0, g1, p2, p3)) (fun k_ => k_ ≠ b8) (fun _ => False) rfl (Eq.trans (b := Value.slice (some ⟨wr.heap.size + 1, 0, none⟩) 1 1) rfl (by simp)) ?aP (fun _ h => h.elim) ?aF ?aO ?aB ?aS ?aL ?_; (case aP => exact rfl); (case aF => exact (fun k_ h_ => by have h8_ := HX8.out.lt; simp at h_; omega)); (case aO => exact Kd.R_alloc HO.out _); (case aB => exact below_alloc HB.out _); (case aS => exact (below_alloc HB.out _).size); (case aL => have := HOL.out; omega); intro v1 w4 ho hb hg hat; have HO2 := Aside0.mk ho; have HB2 := Aside0.mk hb; have HX2 := Aside0.mk (boxAt_far (boxAt_alloc HX8.out _) hg (fun e_ => HO.out.1 _ e_.symm rfl)); clear ho hb hg hat)
                  go_roundw
                  case rel => exact ⟨2, out ++ [(p0, g1, p2, p3)], by omega, rfl, ⟨(congrArg (· ++ [(p0, g1, p2, p3)]) HE.out).trans ((List.append_assoc _ _ _).trans (congrArg (nx ++ ·) ((stepTo_succ (g0, g1, g2, g3) (p0, p1, p2, p3) 1).trans (by rw [HS.out])).symm))⟩, HO2, HB2, HX2⟩
                  case measure => simp [intOf]
                have c2b : (p1 == 0) = false := beq_eq_false_iff_ne.mpr c2
                by_cases c3 : g1 < p1
                · have c3b : decide (g1 < p1) = true := decide_eq_true c3
                  have HS : Aside0 (stepP (g0, g1, g2, g3) (p0, p1, p2, p3) 1 = [(p0, g1, p2, p3)]) := ⟨by unfold stepP; exact (if_neg c1).trans (if_pos (.inr c3))⟩
                  clear c1 c2 c3 HE0
                  have HBX := Aside0.mk (boxAt_new wr (p0, p1, p2, p3) 76)
                  have HB1 := Aside0.mk (below_alloc HB.out (.cells #[.int .i64 p0, .int .i64 p1, .int .i64 p2, .int .i64 p3] 76))
                  go_wp2_with (at_builtin; refine Kd.R_append K4 (w0 := Wn) Wn.heap.size rfl (.tmp 52) (.tmp 54) 71 76 (.agg #[.int .i64 0, .int .i64 0, .int .i64 0, .int .i64 0]) 32 rfl Try.underlying71 info76 rfl (by decide) (by omega) (.slice A6 out.length c6) out (p0, g1, p2, p3) (enc (p0, g1, p2, p3)) (fun k_ => k_ ≠ b8) (fun _ => False) rfl (Eq.trans (b := Value.slice (some ⟨wr.heap.size + 1, 0, none⟩) 1 1) rfl (by simp)) ?aP (fun _ h => h.elim) ?aF ?aO ?aB ?aS ?aL ?_; (case aP => exact rfl); (case aF => exact (fun k_ h_ => by have h8_ := HX8.out.lt; simp at h_; omega)); (case aO => exact Kd.R_alloc HO.out _); (case aB => exact below_alloc HB.out _); (case aS => exact (below_alloc HB.out _).size); (case aL => have := HOL.out; omega); intro v1 w4 ho hb hg hat; have HO2 := Aside0.mk ho; have HB2 := Aside0.mk hb; have HX2 := Aside0.mk (boxAt_far (boxAt_alloc HX8.out _) hg (fun e_ => HO.out.1 _ e_.symm rfl)); clear ho hb hg hat)
                  go_roundw
                  case rel => exact ⟨2, out ++ [(p0, g1, p2, p3)], by omega, rfl, ⟨(congrArg (· ++ [(p0, g1, p2, p3)]) HE.out).trans ((List.append_assoc _ _ _).trans (congrArg (nx ++ ·) ((stepTo_succ (g0, g1, g2, g3) (p0, p1, p2, p3) 1).trans (by rw [HS.out])).symm))⟩, HO2, HB2, HX2⟩
                  case measure => simp [intOf]
                · have c3b : decide (g1 < p1) = false := decide_eq_false c3
                  have HS : Aside0 (stepP (g0, g1, g2, g3) (p0, p1, p2, p3) 1 = [(p0, p1, p2, p3)]) := ⟨by unfold stepP; exact (if_neg c1).trans (if_neg (fun h_ => h_.elim c2 c3))⟩
                  clear c1 c2 c3 HE0
                  have HBX := Aside0.mk (boxAt_new wr (p0, p1, p2, p3) 76)
                  have HB1 := Aside0.mk (below_alloc HB.out (.cells #[.int .i64 p0, .int .i64 p1, .int .i64 p2, .int .i64 p3] 76))
                  go_wp2_with (at_builtin; refine Kd.R_append K4 (w0 := Wn) Wn.heap.size rfl (.tmp 52) (.tmp 54) 71 76 (.agg #[.int .i64 0, .int .i64 0, .int .i64 0, .int .i64 0]) 32 rfl Try.underlying71 info76 rfl (by decide) (by omega) (.slice A6 out.length c6) out (p0, p1, p2, p3) (enc (p0, p1, p2, p3)) (fun k_ => k_ ≠ b8) (fun _ => False) rfl (Eq.trans (b := Value.slice (some ⟨wr.heap.size + 1, 0, none⟩) 1 1) rfl (by simp)) ?aP (fun _ h => h.elim) ?aF ?aO ?aB ?aS ?aL ?_; (case aP => exact rfl); (case aF => exact (fun k_ h_ => by have h8_ := HX8.out.lt; simp at h_; omega)); (case aO => exact Kd.R_alloc HO.out _); (case aB => exact below_alloc HB.out _); (case aS => exact (below_alloc HB.out _).size); (case aL => have := HOL.out; omega); intro v1 w4 ho hb hg hat; have HO2 := Aside0.mk ho; have HB2 := Aside0.mk hb; have HX2 := Aside0.mk (boxAt_far (boxAt_alloc HX8.out _) hg (fun e_ => HO.out.1 _ e_.symm rfl)); clear ho hb hg hat)
                  go_roundw
                  case rel => exact ⟨2, out ++ [(p0, p1, p2, p3)], by omega, rfl, ⟨(congrArg (· ++ [(p0, p1, p2, p3)]) HE.out).trans ((List.append_assoc _ _ _).trans (congrArg (nx ++ ·) ((stepTo_succ (g0, g1, g2, g3) (p0, p1, p2, p3) 1).trans (by rw [HS.out])).symm))⟩, HO2, HB2, HX2⟩
                  case measure => simp [intOf]
              · rw [show ((2 : Nat) : Int) = 2 from rfl]
                have HE0 := HE.out
                have hix : ∀ W : World, (Instr.index 76 (.agg #[.int .i64 g0, .int .i64 g1, .int .i64 g2, .int .i64 g3]) (.int .i64 2)).run Try.prog W = .ok (.int .i64 g2) W := fun _ => by kernel_rfl
                by_cases c1 : g2 = 0
                · have c1b : (g2 == 0) = true := beq_iff_eq.mpr c1
                  have HS : Aside0 (stepP (g0, g1, g2, g3) (p0, p1, p2, p3) 2 = []) := ⟨by unfold stepP; exact if_pos c1⟩
                  clear c1 HE0
                  go_wp2
                  go_roundw
                  case rel => exact ⟨3, out, by omega, rfl, ⟨HE.out.trans (congrArg (nx ++ ·) (((stepTo_succ (g0, g1, g2, g3) (p0, p1, p2, p3) 2).trans (by rw [HS.out, List.append_nil])).symm))⟩, HO, HB, HX8⟩
                  case measure => simp [intOf]
                have c1b : (g2 == 0) = false := beq_eq_false_iff_ne.mpr c1
                by_cases c2 : p2 = 0
                · have c2b : (p2 == 0) = true := beq_iff_eq.mpr c2
                  have HS : Aside0 (stepP (g0, g1, g2, g3) (p0, p1, p2, p3) 2 = [(p0, p1, g2, p3)]) := ⟨by unfold stepP; exact (if_neg c1).trans (if_pos (.inl c2))⟩
                  clear c1 c2 HE0
                  have HBX := Aside0.mk (boxAt_new wr (p0, p1, p2, p3) 76)
                  have HB1 := Aside0.mk (below_alloc HB.out (.cells #[.int .i64 p0, .int .i64 p1, .int .i64 p2, .int .i64 p3] 76))
                  go_wp2_with (at_builtin; refine Kd.R_append K4 (w0 := Wn) Wn.heap.size rfl (.tmp 52) (.tmp 54) 71 76 (.agg #[.int .i64 0, .int .i64 0, .int .i64 0, .int .i64 0]) 32 rfl Try.underlying71 info76 rfl (by decide) (by omega) (.slice A6 out.length c6) out (p0, p1, g2, p3) (enc (p0, p1, g2, p3)) (fun k_ => k_ ≠ b8) (fun _ => False) rfl (Eq.trans (b := Value.slice (some ⟨wr.heap.size + 1, 0, none⟩) 1 1) rfl (by simp)) ?aP (fun _ h => h.elim) ?aF ?aO ?aB ?aS ?aL ?_; (case aP => exact rfl); (case aF => exact (fun k_ h_ => by have h8_ := HX8.out.lt; simp at h_; omega)); (case aO => exact Kd.R_alloc HO.out _); (case aB => exact below_alloc HB.out _); (case aS => exact (below_alloc HB.out _).size); (case aL => have := HOL.out; omega); intro v1 w4 ho hb hg hat; have HO2 := Aside0.mk ho; have HB2 := Aside0.mk hb; have HX2 := Aside0.mk (boxAt_far (boxAt_alloc HX8.out _) hg (fun e_ => HO.out.1 _ e_.symm rfl)); clear ho hb hg hat)
                  go_roundw
                  case rel => exact ⟨3, out ++ [(p0, p1, g2, p3)], by omega, rfl, ⟨(congrArg (· ++ [(p0, p1, g2, p3)]) HE.out).trans ((List.append_assoc _ _ _).trans (congrArg (nx ++ ·) ((stepTo_succ (g0, g1, g2, g3) (p0, p1, p2, p3) 2).trans (by rw [HS.out])).symm))⟩, HO2, HB2, HX2⟩
                  case measure => simp [intOf]
                have c2b : (p2 == 0) = false := beq_eq_false_iff_ne.mpr c2
                by_cases c3 : g2 < p2
                · have c3b : decide (g2 < p2) = true := decide_eq_true c3
                  have HS : Aside0 (stepP (g0, g1, g2, g3) (p0, p1, p2, p3) 2 = [(p0, p1, g2, p3)]) := ⟨by unfold stepP; exact (if_neg c1).trans (if_pos (.inr c3))⟩
                  clear c1 c2 c3 HE0
                  have HBX := Aside0.mk (boxAt_new wr (p0, p1, p2, p3) 76)
                  have HB1 := Aside0.mk (below_alloc HB.out (.cells #[.int .i64 p0, .int .i64 p1, .int .i64 p2, .int .i64 p3] 76))
                  go_wp2_with (at_builtin; refine Kd.R_append K4 (w0 := Wn) Wn.heap.size rfl (.tmp 52) (.tmp 54) 71 76 (.agg #[.int .i64 0, .int .i64 0, .int .i64 0, .int .i64 0]) 32 rfl Try.underlying71 info76 rfl (by decide) (by omega) (.slice A6 out.length c6) out (p0, p1, g2, p3) (enc (p0, p1, g2, p3)) (fun k_ => k_ ≠ b8) (fun _ => False) rfl (Eq.trans (b := Value.slice (some ⟨wr.heap.size + 1, 0, none⟩) 1 1) rfl (by simp)) ?aP (fun _ h => h.elim) ?aF ?aO ?aB ?aS ?aL ?_; (case aP => exact rfl); (case aF => exact (fun k_ h_ => by have h8_ := HX8.out.lt; simp at h_; omega)); (case aO => exact Kd.R_alloc HO.out _); (case aB => exact below_alloc HB.out _); (case aS => exact (below_alloc HB.out _).size); (case aL => have := HOL.out; omega); intro v1 w4 ho hb hg hat; have HO2 := Aside0.mk ho; have HB2 := Aside0.mk hb; have HX2 := Aside0.mk (boxAt_far (boxAt_alloc HX8.out _) hg (fun e_ => HO.out.1 _ e_.symm rfl)); clear ho hb hg hat)
                  go_roundw
                  case rel => exact ⟨3, out ++ [(p0, p1, g2, p3)], by omega, rfl, ⟨(congrArg (· ++ [(p0, p1, g2, p3)]) HE.out).trans ((List.append_assoc _ _ _).trans (congrArg (nx ++ ·) ((stepTo_succ (g0, g1, g2, g3) (p0, p1, p2, p3) 2).trans (by rw [HS.out])).symm))⟩, HO2, HB2, HX2⟩
                  case measure => simp [intOf]
                · have c3b : decide (g2 < p2) = false := decide_eq_false c3
                  have HS : Aside0 (stepP (g0, g1, g2, g3) (p0, p1, p2, p3) 2 = [(p0, p1, p2, p3)]) := ⟨by unfold stepP; exact (if_neg c1).trans (if_neg (fun h_ => h_.elim c2 c3))⟩
                  clear c1 c2 c3 HE0
                  have HBX := Aside0.mk (boxAt_new wr (p0, p1, p2, p3) 76)
                  have HB1 := Aside0.mk (below_alloc HB.out (.cells #[.int .i64 p0, .int .i64 p1, .int .i64 p2, .int .i64 p3] 76))
                  go_wp2_with (at_builtin; refine Kd.R_append K4 (w0 := Wn) Wn.heap.size rfl (.tmp 52) (.tmp 54) 71 76 (.agg #[.int .i64 0, .int .i64 0, .int .i64 0, .int .i64 0]) 32 rfl Try.underlying71 info76 rfl (by decide) (by omega) (.slice A6 out.length c6) out (p0, p1, p2, p3) (enc (p0, p1, p2, p3)) (fun k_ => k_ ≠ b8) (fun _ => False) rfl (Eq.trans (b := Value.slice (some ⟨wr.heap.size + 1, 0, none⟩) 1 1) rfl (by simp)) ?aP (fun _ h => h.elim) ?aF ?aO ?aB ?aS ?aL ?_; (case aP => exact rfl); (case aF => exact (fun k_ h_ => by have h8_ := HX8.out.lt; simp at h_; omega)); (case aO => exact Kd.R_alloc HO.out _); (case aB => exact below_alloc HB.out _); (case aS => exact (below_alloc HB.out _).size); (case aL => have := HOL.out; omega); intro v1 w4 ho hb hg hat; have HO2 := Aside0.mk ho; have HB2 := Aside0.mk hb; have HX2 := Aside0.mk (boxAt_far (boxAt_alloc HX8.out _) hg (fun e_ => HO.out.1 _ e_.symm rfl)); clear ho hb hg hat)
                  go_roundw
                  case rel => exact ⟨3, out ++ [(p0, p1, p2, p3)], by omega, rfl, ⟨(congrArg (· ++ [(p0, p1, p2, p3)]) HE.out).trans ((List.append_assoc _ _ _).trans (congrArg (nx ++ ·) ((stepTo_succ (g0, g1, g2, g3) (p0, p1, p2, p3) 2).trans (by rw [HS.out])).symm))⟩, HO2, HB2, HX2⟩
                  case measure => simp [intOf]
              · rw [show ((3 : Nat) : Int) = 3 from rfl]
                have HE0 := HE.out
                have hix : ∀ W : World, (Instr.index 76 (.agg #[.int .i64 g0, .int .i64 g1, .int .i64 g2, .int .i64 g3]) (.int .i64 3)).run Try.prog W = .ok (.int .i64 g3) W := fun _ => by kernel_rfl
                by_cases c1 : g3 = 0
                · have c1b : (g3 == 0) = true := beq_iff_eq.mpr c1
                  have HS : Aside0 (stepP (g0, g1, g2, g3) (p0, p1, p2, p3) 3 = []) := ⟨by unfold stepP; exact if_pos c1⟩
                  clear c1 HE0
                  go_wp2
                  go_roundw
                  case rel => exact ⟨4, out, by omega, rfl, ⟨HE.out.trans (congrArg (nx ++ ·) (((stepTo_succ (g0, g1, g2, g3) (p0, p1, p2, p3) 3).trans (by rw [HS.out, List.append_nil])).symm))⟩, HO, HB, HX8⟩
                  case measure => simp [intOf]
                have c1b : (g3 == 0) = false := beq_eq_false_iff_ne.mpr c1
                by_cases c2 : p3 = 0
                · have c2b : (p3 == 0) = true := beq_iff_eq.mpr c2
                  have HS : Aside0 (stepP (g0, g1, g2, g3) (p0, p1, p2, p3) 3 = [(p0, p1, p2, g3)]) := ⟨by unfold stepP; exact (if_neg c1).trans (if_pos (.inl c2))⟩
                  clear c1 c2 HE0
                  have HBX := Aside0.mk (boxAt_new wr (p0, p1, p2, p3) 76)
                  have HB1 := Aside0.mk (below_alloc HB.out (.cells #[.int .i64 p0, .int .i64 p1, .int .i64 p2, .int .i64 p3] 76))
                  go_wp2_with (at_builtin; refine Kd.R_append K4 (w0 := Wn) Wn.heap.size rfl (.tmp 52) (.tmp 54) 71 76 (.agg #[.int .i64 0, .int .i64 0, .int .i64 0, .int .i64 0]) 32 rfl Try.underlying71 info76 rfl (by decide) (by omega) (.slice A6 out.length c6) out (p0, p1, p2, g3) (enc (p0, p1, p2, g3)) (fun k_ => k_ ≠ b8) (fun _ => False) rfl (Eq.trans (b := Value.slice (some ⟨wr.heap.size + 1, 0, none⟩) 1 1) rfl (by simp)) ?aP (fun _ h => h.elim) ?aF ?aO ?aB ?aS ?aL ?_; (case aP => exact rfl); (case aF => exact (fun k_ h_ => by have h8_ := HX8.out.lt; simp at h_; omega)); (case aO => exact Kd.R_alloc HO.out _); (case aB => exact below_alloc HB.out _); (case aS => exact (below_alloc HB.out _).size); (case aL => have := HOL.out; omega); intro v1 w4 ho hb hg hat; have HO2 := Aside0.mk ho; have HB2 := Aside0.mk hb; have HX2 := Aside0.mk (boxAt_far (boxAt_alloc HX8.out _) hg (fun e_ => HO.out.1 _ e_.symm rfl)); clear ho hb hg hat)
                  go_roundw
                  case rel => exact ⟨4, out ++ [(p0, p1, p2, g3)], by omega, rfl, ⟨(congrArg (· ++ [(p0, p1, p2, g3)]) HE.out).trans ((List.append_assoc _ _ _).trans (congrArg (nx ++ ·) ((stepTo_succ (g0, g1, g2, g3) (p0, p1, p2, p3) 3).trans (by rw [HS.out])).symm))⟩, HO2, HB2, HX2⟩
                  case measure => simp [intOf]
                have c2b : (p3 == 0) = false := beq_eq_false_iff_ne.mpr c2
                by_cases c3 : g3 < p3
                · have c3b : decide (g3 < p3) = true := decide_eq_true c3
                  have HS : Aside0 (stepP (g0, g1, g2, g3) (p0, p1, p2, p3) 3 = [(p0, p1, p2, g3)]) := ⟨by unfold stepP; exact (if_neg c1).trans (if_pos (.inr c3))⟩
                  clear c1 c2 c3 HE0
                  have HBX := Aside0.mk (boxAt_new wr (p0, p1, p2, p3) 76)
                  have HB1 := Aside0.mk (below_alloc HB.out (.cells #[.int .i64 p0, .int .i64 p1, .int .i64 p2, .int .i64 p3] 76))
                  go_wp2_with (at_builtin; refine Kd.R_append K4 (w0 := Wn) Wn.heap.size rfl (.tmp 52) (.tmp 54) 71 76 (.agg #[.int .i64 0, .int .i64 0, .int .i64 0, .int .i64 0]) 32 rfl Try.underlying71 info76 rfl (by decide) (by omega) (.slice A6 out.length c6) out (p0, p1, p2, g3) (enc (p0, p1, p2, g3)) (fun k_ => k_ ≠ b8) (fun _ => False) rfl (Eq.trans (b := Value.slice (some ⟨wr.heap.size + 1, 0, none⟩) 1 1) rfl (by simp)) ?aP (fun _ h => h.elim) ?aF ?aO ?aB ?aS ?aL ?_; (case aP => exact rfl); (case aF => exact (fun k_ h_ => by have h8_ := HX8.out.lt; simp at h_; omega)); (case aO => exact Kd.R_alloc HO.out _); (case aB => exact below_alloc HB.out _); (case aS => exact (below_alloc HB.out _).size); (case aL => have := HOL.out; omega); intro v1 w4 ho hb hg hat; have HO2 := Aside0.mk ho; have HB2 := Aside0.mk hb; have HX2 := Aside0.mk (boxAt_far (boxAt_alloc HX8.out _) hg (fun e_ => HO.out.1 _ e_.symm rfl)); clear ho hb hg hat)
                  go_roundw
                  case rel => exact ⟨4, out ++ [(p0, p1, p2, g3)], by omega, rfl, ⟨(congrArg (· ++ [(p0, p1, p2, g3)]) HE.out).trans ((List.append_assoc _ _ _).trans (congrArg (nx ++ ·) ((stepTo_succ (g0, g1, g2, g3) (p0, p1, p2, p3) 3).trans (by rw [HS.out])).symm))⟩, HO2, HB2, HX2⟩
                  case measure => simp [intOf]
                · have c3b : decide (g3 < p3) = false := decide_eq_false c3
                  have HS : Aside0 (stepP (g0, g1, g2, g3) (p0, p1, p2, p3) 3 = [(p0, p1, p2, p3)]) := ⟨by unfold stepP; exact (if_neg c1).trans (if_neg (fun h_ => h_.elim c2 c3))⟩
                  clear c1 c2 c3 HE0
                  have HBX := Aside0.mk (boxAt_new wr (p0, p1, p2, p3) 76)
                  have HB1 := Aside0.mk (below_alloc HB.out (.cells #[.int .i64 p0, .int .i64 p1, .int .i64 p2, .int .i64 p3] 76))
                  go_wp2_with (at_builtin; refine Kd.R_append K4 (w0 := Wn) Wn.heap.size rfl (.tmp 52) (.tmp 54) 71 76 (.agg #[.int .i64 0, .int .i64 0, .int .i64 0, .int .i64 0]) 32 rfl Try.underlying71 info76 rfl (by decide) (by omega) (.slice A6 out.length c6) out (p0, p1, p2, p3) (enc (p0, p1, p2, p3)) (fun k_ => k_ ≠ b8) (fun _ => False) rfl (Eq.trans (b := Value.slice (some ⟨wr.heap.size + 1, 0, none⟩) 1 1) rfl (by simp)) ?aP (fun _ h => h.elim) ?aF ?aO ?aB ?aS ?aL ?_; (case aP => exact rfl); (case aF => exact (fun k_ h_ => by have h8_ := HX8.out.lt; simp at h_; omega)); (case aO => exact Kd.R_alloc HO.out _); (case aB => exact below_alloc HB.out _); (case aS => exact (below_alloc HB.out _).size); (case aL => have := HOL.out; omega); intro v1 w4 ho hb hg hat; have HO2 := Aside0.mk ho; have HB2 := Aside0.mk hb; have HX2 := Aside0.mk (boxAt_far (boxAt_alloc HX8.out _) hg (fun e_ => HO.out.1 _ e_.symm rfl)); clear ho hb hg hat)
                  go_roundw
                  case rel => exact ⟨4, out ++ [(p0, p1, p2, p3)], by omega, rfl, ⟨(congrArg (· ++ [(p0, p1, p2, p3)]) HE.out).trans ((List.append_assoc _ _ _).trans (congrArg (nx ++ ·) ((stepTo_succ (g0, g1, g2, g3) (p0, p1, p2, p3) 3).trans (by rw [HS.out])).symm))⟩, HO2, HB2, HX2⟩
                  case measure => simp [intOf]
            · obtain rfl : i = 4 := by omega
              rw [show ((4 : Nat) : Int) = 4 from rfl]
              clear x0 x1 x2 x3
              go_wp2
              go_roundw
              case rel => exact ⟨j + 1, out, by omega, by go_num, ⟨by rw [HE.out, HSN.out]; rfl⟩, ⟨Kd.R_mono HO.out (fun _ _ => trivial)⟩, HB⟩
              case measure => simp [intOf]; omega
        · have hltb2 : decide ((j : Int) < (l.length : Int)) = false := decide_eq_false (by omega)
          obtain rfl : j = l.length := by omega
          rw [List.take_length] at HEN
          obtain ⟨A6, c6, hv6, _, hr6, _⟩ := rows_of_R HO.out
          subst hv6
          have HNL : Aside0 (nx.length < 1000000000) := ⟨by
            rw [HEN.out]
            have h1 := nexts_len (g0, g1, g2, g3) l
            omega⟩
          have HLW := Aside0.mk (leastW_calls A6 c6 nx wr hr6 HNL.out)
          clear hr6
          go_wp2_with (go_at_call 76; refine HLW.out.mono ?_; rintro e w2 ⟨v2, rfl, ho2, hb2⟩; have HO2 := Aside0.mk (Kd.R_lower ho2 (Nat.le_trans HBn.out.size HB.out.size)); have HB2 := Aside0.mk (below_step HBn.out (below_step HB.out hb2)); have HR2 := Aside0.mk ((HRn.out.below HB.out).below hb2); clear ho2 hb2)
          go_roundw
          case rel => exact ⟨k + 1, _, by omega, by go_num, ⟨by rw [HST.out, HEN.out]⟩, HO2, HB2, HR2⟩
          case measure => simp [intOf]; omega
    · have hltb : decide ((k : Int) < (ms.length : Int)) = false := decide_eq_false (by omega)
      obtain rfl : k = ms.length := by omega
      rw [List.take_length] at HE
      go_wp2
      go_ret
      exact ⟨_, rfl, by rw [HP.out, ← HE.out]; exact HO.out, HB.out⟩
end Go.Proofs.Ytmekcfkfkpbfeaa.H
namespace Go.Proofs.Ytmekcfkfkpbfeaa.H
open Go.RowKit Go.Proofs.YtmekcfkfkpbfeaaW.PrintWords Go.Proofs.YtmekcfkfkpbfeaaW.PrintLast Go.Proofs.YtmekcfkfkpbfeaaW.PrintMore
open Go.Proofs.Ytmekcfkfkpbfeaa.Ga
set_option linter.unusedVariables false
def addTo (a b : List Int) (d : Nat) (t : Int) (i : Nat) : List Int := (List.range a.length).map fun j => a.getD j 0 + (if d ≤ j ∧ j < d + i then t * b.getD (j - d) 0 else 0)
def padL (a : List Int) (n : Nat) : List Int := a ++ List.replicate (n - a.length) 0
/-- a and t times b, moved by d. -/
def addL (a b : List Int) (d : Nat) (t : Int) : List Int := addTo (padL a (b.length + d)) b d t b.length
def Small (l : List Int) (B : Int) : Prop := ∀ x ∈ l, -B ≤ x ∧ x ≤ B
theorem Small.rd {l : List Int} {B : Int} (h : Small l B) (hB : 0 ≤ B) (i : Nat) : -B ≤ l.getD i 0 ∧ l.getD i 0 ≤ B := by
  rw [List.getD_eq_getElem?_getD]
  by_cases hi : i < l.length
  · rw [List.getElem?_eq_getElem hi]
    exact h _ (List.getElem_mem hi)
  · rw [List.getElem?_eq_none (by omega)]
    simp only [Option.getD_none]
    omega
theorem addTo_length (a b : List Int) (d : Nat) (t : Int) (i : Nat) : (addTo a b d t i).length = a.length := by unfold addTo; simp
theorem addTo_get (a b : List Int) (d : Nat) (t : Int) (i j : Nat) (hj : j < a.length) : (addTo a b d t i).getD j 0 = a.getD j 0 + (if d ≤ j ∧ j < d + i then t * b.getD (j - d) 0 else 0) := by
  unfold addTo
  rw [List.getD_eq_getElem?_getD, List.getElem?_map, List.getElem?_range hj]
  rfl
theorem addTo_zero (a b : List Int) (d : Nat) (t : Int) : addTo a b d t 0 = a := by
  apply List.ext_getElem
  · rw [addTo_length]
  · intro j h1 h2
    have h := addTo_get a b d t 0 j h2
    rw [List.getD_eq_getElem?_getD, List.getElem?_eq_getElem h1, List.getD_eq_getElem?_getD, List.getElem?_eq_getElem h2, if_neg (by omega)] at h
    simpa using h
theorem addTo_step (a b : List Int) (d : Nat) (t : Int) (i : Nat) (hi : i < b.length) (hl : b.length + d ≤ a.length) :
    (addTo a b d t i).set (i + d) ((addTo a b d t i).getD (i + d) 0 + t * b.getD i 0) = addTo a b d t (i + 1) := by
  apply List.ext_getElem
  · rw [List.length_set, addTo_length, addTo_length]
  · intro j h1 h2
    rw [addTo_length] at h2
    have e1 := addTo_get a b d t (i + 1) j h2
    have e0 := addTo_get a b d t i j h2
    have ei := addTo_get a b d t i (i + d) (by omega)
    rw [List.getElem_set]
    rw [List.getD_eq_getElem?_getD, List.getElem?_eq_getElem (by rw [addTo_length]; exact h2)] at e1
    rw [List.getD_eq_getElem?_getD, List.getElem?_eq_getElem (by rw [addTo_length]; exact h2)] at e0
    simp only [Option.getD_some] at e1 e0
    by_cases hj : i + d = j
    · subst hj
      rw [if_pos rfl, e1, ei, if_neg (by omega), if_pos (by omega), show i + d - d = i by omega, Int.add_zero]
    · rw [if_neg hj, e0, e1]
      by_cases hc : d ≤ j ∧ j < d + i
      · rw [if_pos hc, if_pos (by omega)]
      · rw [if_neg hc, if_neg (by omega)]
theorem addTo_small {a b : List Int} {A B : Int} (ha : Small a A) (hA : 0 ≤ A) (hb : Small b B) (hB : 0 ≤ B) (d : Nat) {t : Int} (ht : t = 1 ∨ t = -1) (i : Nat) : Small (addTo a b d t i) (A + B) := by
  intro x hx
  unfold addTo at hx
  obtain ⟨j, _, rfl⟩ := List.mem_map.1 hx
  have h1 := ha.rd hA j
  have h2 := hb.rd hB (j - d)
  split
  · rcases ht with rfl | rfl <;> omega
  · omega
theorem w64 {x : Int} (h : -9223372036854775808 ≤ x ∧ x ≤ 9223372036854775807) : wrap64 x = x := by unfold wrap64; omega
theorem add_l1 (a b : List Int) (d : Nat) (t : Int) (ht : t = 1 ∨ t = -1) (ha : Small a 1000000000) (hb : Small b 1000000000) (hl : b.length + d ≤ a.length) (hal : a.length ≤ 1000000) : ∀ (r i : Nat), i + r = b.length → ∀ k, r < k → pack_add.l1 k (addTo a b d t i) (d : Int) t b (b.length : Int) (i : Int) = some (addTo a b d t b.length) := by
  intro r
  induction r with
  | zero =>
    intro i hi k hk
    obtain ⟨k, rfl⟩ : ∃ m, k = m + 1 := ⟨k - 1, by omega⟩
    simp only [pack_add.l1]
    rw [if_neg (by omega), show i = b.length by omega]
  | succ r ih =>
    intro i hi k hk
    obtain ⟨k, rfl⟩ : ∃ m, k = m + 1 := ⟨k - 1, by omega⟩
    simp only [pack_add.l1]
    have hA := (addTo_small ha (by omega) hb (by omega) d ht i).rd (by omega) (i + d)
    have hB := hb.rd (by omega) i
    have e1 : wrap64 ((i : Int) + (d : Int)) = ((i + d : Nat) : Int) := by rw [w64 (by omega)]; omega
    have e2 : wrap64 ((i : Int) + 1) = ((i + 1 : Nat) : Int) := by rw [w64 (by omega)]; omega
    have e3 : wrap64 (t * rd b (i : Int)) = t * b.getD i 0 := by
      unfold rd
      rw [Int.toNat_natCast, w64]
      rcases ht with rfl | rfl <;> omega
    rw [if_pos (by omega), if_pos (by omega), if_pos (by omega), e1, if_pos (by omega), if_pos (by rw [addTo_length]; omega), e2, e3]
    have e4 : wrap64 (rd (addTo a b d t i) ((i + d : Nat) : Int) + t * b.getD i 0) = (addTo a b d t i).getD (i + d) 0 + t * b.getD i 0 := by
      unfold rd
      rw [Int.toNat_natCast, w64]
      rcases ht with rfl | rfl <;> omega
    rw [e4, Int.toNat_natCast, addTo_step a b d t i (by omega) hl]
    exact ih (i + 1) (by omega) k (by omega)
theorem pad_snoc (a : List Int) (n : Nat) (h : a.length < n) : padL (a ++ [0]) n = padL a n := by
  unfold padL
  rw [List.length_append, List.length_singleton, List.append_assoc]
  congr 1
  rw [show n - a.length = (n - (a.length + 1)) + 1 by omega, List.replicate_succ]
  rfl
theorem pad_full (a : List Int) (n : Nat) (h : n ≤ a.length) : padL a n = a := by
  unfold padL
  rw [show n - a.length = 0 by omega]
  simp
theorem pad_length (a : List Int) (n : Nat) : (padL a n).length = max a.length n := by
  unfold padL
  rw [List.length_append, List.length_replicate]
  omega
theorem pad_small {a : List Int} {B : Int} (h : Small a B) (hB : 0 ≤ B) (n : Nat) : Small (padL a n) B := by
  intro x hx
  unfold padL at hx
  rcases List.mem_append.1 hx with hx | hx
  · exact h x hx
  · obtain ⟨_, rfl⟩ := List.mem_replicate.1 hx
    omega
theorem add_l0 (b : List Int) (d : Nat) (t : Int) (ht : t = 1 ∨ t = -1) (hb : Small b 1000000000) (hn : b.length + d ≤ 100000) : ∀ (r : Nat) (a : List Int), b.length + d - a.length = r → Small a 1000000000 → a.length ≤ 100000 → ∀ k, r + b.length + 2 < k → pack_add.l0 k a b (d : Int) t = some (addL a b d t) := by
  intro r
  have e1 : wrap64 ((b.length : Int) + (d : Int)) = ((b.length + d : Nat) : Int) := by rw [w64 (by omega)]; omega
  induction r with
  | zero =>
    intro a hr ha hal k hk
    obtain ⟨k, rfl⟩ : ∃ m, k = m + 1 := ⟨k - 1, by omega⟩
    simp only [pack_add.l0]
    rw [e1, if_neg (by omega)]
    unfold addL
    rw [pad_full a _ (by omega)]
    have h := add_l1 a b d t ht ha hb (by omega) (by omega) b.length 0 (by omega) k (by omega)
    rw [addTo_zero] at h
    exact h
  | succ r ih =>
    intro a hr ha hal k hk
    obtain ⟨k, rfl⟩ : ∃ m, k = m + 1 := ⟨k - 1, by omega⟩
    simp only [pack_add.l0]
    rw [e1, if_pos (by omega), if_pos (by omega)]
    have h := ih (a ++ [0]) (by rw [List.length_append, List.length_singleton]; omega) (by
      intro x hx
      rcases List.mem_append.1 hx with hx | hx
      · exact ha x hx
      · rw [List.mem_singleton.1 hx]; omega) (by rw [List.length_append, List.length_singleton]; omega) k (by omega)
    rw [h]
    unfold addL
    rw [pad_snoc a _ (by omega)]
theorem add_ev (a b : List Int) (d : Nat) (t : Int) (ht : t = 1 ∨ t = -1) (ha : Small a 1000000000) (hb : Small b 1000000000) (hn : b.length + d ≤ 100000) (hal : a.length ≤ 100000) : ∃ k, pack_add.f k a b (d : Int) t = some (addL a b d t) :=
  ⟨_, add_l0 b d t ht hb hn _ a rfl ha hal _ (Nat.lt_succ_self _)⟩
theorem addL_length (a b : List Int) (d : Nat) (t : Int) : (addL a b d t).length = max a.length (b.length + d) := by
  unfold addL
  rw [addTo_length, pad_length]
theorem addL_small {a b : List Int} {A B : Int} (ha : Small a A) (hA : 0 ≤ A) (hb : Small b B) (hB : 0 ≤ B) (d : Nat) {t : Int} (ht : t = 1 ∨ t = -1) : Small (addL a b d t) (A + B) := addTo_small (pad_small ha hA _) hA hb hB d ht _
/-- Without the noughts at the end. -/
def trimL (l : List Int) : List Int := (l.reverse.dropWhile (fun x => x == 0)).reverse
theorem trim_zero (l : List Int) : trimL (l ++ [0]) = trimL l := by
  unfold trimL
  simp
theorem trim_full (l : List Int) (x : Int) (h : x ≠ 0) : trimL (l ++ [x]) = l ++ [x] := by
  unfold trimL
  have hb : (x == 0) = false := beq_eq_false_iff_ne.mpr h
  simp [List.dropWhile, hb]
theorem trim_nil : trimL [] = [] := rfl
theorem trim_le (l : List Int) : (trimL l).length ≤ l.length := by
  unfold trimL
  rw [List.length_reverse]
  have := (List.dropWhile_sublist (l := l.reverse) (fun x => x == 0)).length_le
  simpa using this
theorem trim_small {l : List Int} {B : Int} (h : Small l B) : Small (trimL l) B := by
  intro x hx
  unfold trimL at hx
  rw [List.mem_reverse] at hx
  exact h x (by simpa using (List.dropWhile_sublist _).subset hx)
def degM (m : M4) : Int := m.1 + m.2.1 + m.2.2.1 + m.2.2.2
def outTo (sub : List M4 → List Int) (ms : List M4) : Nat → List Int
  | 0 => [1]
  | i + 1 => addL (outTo sub ms i) (sub (least divs ((ms.take i).map (overM (ms.getD i (0, 0, 0, 0)))))) (degM (ms.getD i (0, 0, 0, 0))).toNat (-1)
/-- The numerator, at most k deep. -/
def numF : Nat → List M4 → List Int
  | 0, _ => []
  | k + 1, xs => trimL (outTo (numF k) (least divs xs) (least divs xs).length)
def V6s (xs : List M4) : Prop := ∀ m ∈ xs, V6 m
theorem mem_keep {below : M4 → M4 → Bool} {l out : List M4} {x m : M4} (h : m ∈ keep below l out x) : m ∈ out ∨ m = x := by
  unfold keep at h
  split at h
  · exact .inl h
  · split at h
    · exact .inl h
    · rcases List.mem_append.1 h with h | h
      · exact .inl h
      · exact .inr (List.mem_singleton.1 h)
theorem mem_fold {below : M4 → M4 → Bool} {l : List M4} {m : M4} : ∀ (xs out : List M4), m ∈ xs.foldl (keep below l) out → m ∈ out ∨ m ∈ xs
  | [], out, h => .inl h
  | x :: xs, out, h => by
    rcases mem_fold xs _ h with h | h
    · rcases mem_keep h with h | h
      · exact .inl h
      · exact .inr (h ▸ List.mem_cons_self)
    · exact .inr (List.mem_cons_of_mem _ h)
theorem mem_least {below : M4 → M4 → Bool} {l : List M4} {m : M4} (h : m ∈ least below l) : m ∈ l := by
  unfold least picked at h
  rw [(sort4_perm _).mem_iff] at h
  rcases mem_fold l [] h with h | h
  · cases h
  · exact h
theorem V6s_least {below : M4 → M4 → Bool} {l : List M4} (h : V6s l) : V6s (least below l) := fun m hm => h m (mem_least hm)
theorem V6_over {k m : M4} (hk : V6 k) (hm : V6 m) : V6 (overM k m) := by
  obtain ⟨k0, k1, k2, k3⟩ := k
  obtain ⟨m0, m1, m2, m3⟩ := m
  unfold V6 overM mx at *
  dsimp only at *
  refine ⟨?_, ?_, ?_, ?_⟩ <;> split <;> omega
theorem V6_get {ms : List M4} (h : V6s ms) (i : Nat) : V6 (ms.getD i (0, 0, 0, 0)) := by
  rw [List.getD_eq_getElem?_getD]
  by_cases hi : i < ms.length
  · rw [List.getElem?_eq_getElem hi]
    exact h _ (List.getElem_mem hi)
  · rw [List.getElem?_eq_none (by omega)]
    unfold V6
    simp
theorem V6s_sub {ms : List M4} (h : V6s ms) (i : Nat) {k : M4} (hk : V6 k) : V6s ((ms.take i).map (overM k)) := by
  intro m hm
  obtain ⟨x, hx, rfl⟩ := List.mem_map.1 hm
  exact V6_over hk (h x (List.mem_of_mem_take hx))
theorem deg_le {m : M4} (h : V6 m) : 0 ≤ degM m ∧ degM m ≤ 24 := by
  unfold V6 degM at *
  omega
theorem Small.mono {l : List Int} {A B : Int} (h : Small l A) (hAB : A ≤ B) : Small l B := fun x hx => by have := h x hx; omega
theorem out_bounds (sub : List M4 → List Int) (ms : List M4) (hm : V6s ms) (n : Nat) (hs : ∀ ys : List M4, V6s ys → ys.length < n → (sub ys).length ≤ 1 + 24 * ys.length ∧ Small (sub ys) (2 ^ ys.length)) :
    ∀ i, i ≤ n → (outTo sub ms i).length ≤ 1 + 24 * i ∧ Small (outTo sub ms i) (2 ^ i)
  | 0, _ => ⟨by simp [outTo], by intro x hx; rw [outTo, List.mem_singleton] at hx; rw [hx]; simp⟩
  | i + 1, hi => by
    obtain ⟨h1, h2⟩ := out_bounds sub ms hm n hs i (by omega)
    have hv := V6_get hm i
    have hd := deg_le hv
    have hlen : (least divs ((ms.take i).map (overM (ms.getD i (0, 0, 0, 0))))).length ≤ i := Nat.le_trans (least_length _ _) (by rw [List.length_map, List.length_take]; omega)
    obtain ⟨h3, h4⟩ := hs _ (V6s_least (below := divs) (V6s_sub hm i hv)) (by omega)
    have h5 : (2 : Int) ^ (least divs ((ms.take i).map (overM (ms.getD i (0, 0, 0, 0))))).length ≤ 2 ^ i := by
      have := Nat.pow_le_pow_right (n := 2) (by omega) hlen
      exact_mod_cast this
    have h6 : (0 : Int) ≤ 2 ^ i := by exact_mod_cast Nat.zero_le (2 ^ i)
    refine ⟨?_, ?_⟩
    · rw [outTo, addL_length]
      omega
    · rw [outTo]
      have h7 := addL_small h2 h6 (h4.mono h5) h6 (degM (ms.getD i (0, 0, 0, 0))).toNat (t := -1) (.inr rfl)
      rw [show (2 : Int) ^ (i + 1) = 2 ^ i + 2 ^ i by rw [Int.pow_succ]; omega]
      exact h7
theorem num_bounds : ∀ (k : Nat) (xs : List M4), V6s xs → xs.length < k → (numF k xs).length ≤ 1 + 24 * xs.length ∧ Small (numF k xs) (2 ^ xs.length)
  | 0, _, _, h => absurd h (Nat.not_lt_zero _)
  | k + 1, xs, hv, hk => by
    have hl := least_length divs xs
    obtain ⟨h1, h2⟩ := out_bounds (numF k) (least divs xs) (V6s_least hv) (least divs xs).length (fun ys hy hly => num_bounds k ys hy (by omega)) _ (Nat.le_refl _)
    have h5 : (2 : Int) ^ (least divs xs).length ≤ 2 ^ xs.length := by
      have := Nat.pow_le_pow_right (n := 2) (by omega) hl
      exact_mod_cast this
    unfold numF
    refine ⟨Nat.le_trans (trim_le _) (by omega), (trim_small h2).mono h5⟩
theorem pow_small (n : Nat) (h : n ≤ 12) : (2 : Int) ^ n ≤ 4096 := by
  have h1 : 2 ^ n ≤ 4096 := Nat.le_trans (Nat.pow_le_pow_right (by omega) h) (by decide)
  rw [show (2 : Int) ^ n = ((2 ^ n : Nat) : Int) from (Int.natCast_pow 2 n).symm]
  omega
end Go.Proofs.Ytmekcfkfkpbfeaa.H
namespace Go.Proofs.Ytmekcfkfkpbfeaa.H
open Go.RowKit Go.Proofs.YtmekcfkfkpbfeaaW.PrintWords Go.Proofs.YtmekcfkfkpbfeaaW.PrintLast Go.Proofs.YtmekcfkfkpbfeaaW.PrintMore
attribute [local go_sem] max2_int min2_int max_two min_two max_three min_three max_four min_four
set_option linter.unusedVariables false
set_option linter.unusedSimpArgs false
abbrev KI : Kd Int := Kd.int .i64
theorem add_calls (u : Value) (a : List Int) (A1 : Option Addr) (c1 : Nat) (b : List Int) (d : Int) (t : Int) (w0 w : World) (hB : Below w0.heap.size w0 w) (ho : Kd.R KI 3 w w0.heap.size (fun _ => True) u a)
    (hb : ∀ W, Kept w W (fun k => some k = u.ownBlock) → Kd.C KI W A1 b.length b) (hc1 : b.length ≤ c1) (ht : t = 1 ∨ t = -1) (hd : 0 ≤ d) (hd' : d ≤ 24) (ha : Small a 1000000000) (hbs : Small b 1000000000) (hbl : b.length ≤ 10000) (hal : a.length ≤ 100000) :
    Calls Try.prog 84 #[u, .slice A1 b.length c1, .int .i64 d, .int .i64 t] w fun e w' => ∃ v, e = .returned v ∧ Kd.R KI 3 w' w0.heap.size (fun _ => True) v (addL a b d.toNat t) ∧ Below w0.heap.size w0 w' ∧ Kept w w' (fun k => some k = u.ownBlock) := by
  obtain ⟨k, hk⟩ := add_ev a b d.toNat t ht ha hbs (by omega) hal
  rw [Int.toNat_of_nonneg hd] at hk
  refine (Ga.pack_add.calls k (fun k => some k = u.ownBlock) u a A1 c1 b d t _ w0 w hB (Kd.R_tight rfl ho) hb hc1 hk).mono ?_
  rintro e w' ⟨v, he, h1, h2, h3⟩
  exact ⟨v, he, Kd.R_mono h1 (fun _ _ => trivial), h2, h3⟩
/-- A row of monomials beside a row of numbers that is written. -/
theorem K4_kept {W W2 : World} {b b' : Nat} {ok : Nat → Prop} {v u : Value} {xs : List M4} {l : List Int} (h : K4.R 76 W b ok v xs) (ho : Kd.R KI 3 W b' (fun _ => True) u l) (hk : Kept W W2 (fun k => some k = u.ownBlock)) : K4.R 76 W2 b ok v xs := by
  refine Kd.R_mono (Kd.R_kept (Kd.R_bound h) hk (fun k hk' he => ?_)) (fun _ h_ => h_.1)
  obtain ⟨_, _, _, q, hq, cells, hc⟩ := hk'
  obtain ⟨cells', hc'⟩ := own_typed (Kd.own_of_R ho) k he.symm
  rw [hc] at hc'
  injection hc' with h1
  injection h1 with _ h2
  rw [List.mem_singleton.1 hq] at h2
  exact absurd h2 (by decide)
theorem blk_kept_row {W W2 : World} {b' g t : Nat} {cs : Array Value} {u : Value} {l : List Int} (h : W.heap[g]? = some (.cells cs t (0, 0))) (ht : t ≠ 3) (ho : Kd.R KI 3 W b' (fun _ => True) u l) (hk : Kept W W2 (fun k => some k = u.ownBlock)) : W2.heap[g]? = some (.cells cs t (0, 0)) := by
  refine blk_kept h hk (fun he => ?_)
  obtain ⟨cells', hc'⟩ := own_typed (Kd.own_of_R ho) g he.symm
  rw [h] at hc'
  injection hc' with h1
  injection h1 with _ h2
  exact ht h2
theorem C_one {W : World} {b : Nat} {x : Int} (h : W.heap[b]? = some (.cells #[.int .i64 x] 3 (0, 0))) : Kd.C KI W (some ⟨b, 0, none⟩) [x].length [x] := by
  refine Kd.C_of_reads (d := (0 : Int)) ⟨rfl, by simp, fun _ => ⟨_, rfl, fun i hi => ?_⟩⟩
  have : i = 0 := by simpa using hi
  subst this
  rw [add_plain, blk_cell h]
  rfl
theorem box_of_blk {W : World} {b : Nat} {m : M4} (h : W.heap[b]? = some (.cells #[.int .i64 m.1, .int .i64 m.2.1, .int .i64 m.2.2.1, .int .i64 m.2.2.2] 76 (0, 0))) : BoxAt W b m :=
  ⟨(blk_cell h 0).trans rfl, (blk_cell h 1).trans rfl, (blk_cell h 2).trans rfl, (blk_cell h 3).trans rfl⟩
theorem out_succ (sub : List M4 → List Int) (ms : List M4) (i : Nat) (G : M4) (h : ms[i]? = some G) : outTo sub ms (i + 1) = addL (outTo sub ms i) (sub (least divs ((ms.take i).map (overM G)))) (degM G).toNat (-1) := by
  show addL (outTo sub ms i) (sub (least divs ((ms.take i).map (overM (ms.getD i (0, 0, 0, 0)))))) (degM (ms.getD i (0, 0, 0, 0))).toNat (-1) = _
  rw [List.getD_eq_getElem?_getD, h]
  rfl
theorem mem_take_V6 {ms : List M4} (h : V6s ms) (i : Nat) : V6s (ms.take i) := fun m hm => h m (List.mem_of_mem_take hm)
set_option maxRecDepth 100000 in
set_option maxHeartbeats 64000000 in
theorem numer_calls : ∀ (kk : Nat), kk ≤ 13 → ∀ (g : Nat) (n : Int) (xs : List M4) (w : World), Ideal w g n xs → V6s xs → xs.length < kk →
    Calls Try.prog 65 #[.pointer (some ⟨g, 0, none⟩)] w fun e w' => ∃ v, e = .returned v ∧ Kd.R KI 3 w' w.heap.size (fun _ => True) v (numF kk xs) ∧ Below w.heap.size w w' := by
  intro kk
  induction kk with
  | zero => intro _ g n xs w _ _ h; exact absurd h (Nat.not_lt_zero _)
  | succ kk ih =>
    intro h13 g n xs w hi hv hk
    have IH := Aside0.mk (ih (by omega))
    clear ih
    have HML : Aside0 ((least divs xs).length ≤ kk) := ⟨Nat.le_trans (least_length divs xs) (by omega)⟩
    have HMV : Aside0 (V6s (least divs xs)) := ⟨V6s_least hv⟩
    have HK12 : Aside0 (kk ≤ 12) := ⟨by omega⟩
    have HN : Aside0 (numF (kk + 1) xs = trimL (outTo (numF kk) (least divs xs) (least divs xs).length)) := ⟨rfl⟩
    have HOB : Aside0 (∀ i, i ≤ kk → (outTo (numF kk) (least divs xs) i).length ≤ 1 + 24 * i ∧ Small (outTo (numF kk) (least divs xs) i) (2 ^ i)) := ⟨out_bounds (numF kk) (least divs xs) HMV.out kk (fun ys hy hly => num_bounds kk ys hy hly)⟩
    -- the first row: one
    have HMin := Aside0.mk (fun W h => minimal_calls g n xs W h (by omega))
    have HI := Aside0.mk hi
    generalize numF (kk + 1) xs = res at *
    generalize least divs xs = ms at *
    clear hv
    have HF0 := Aside0.mk (heap_alloc_new w (.cells #[.int .i64 1] 3))
    have HA0 := Aside0.mk (add_calls (.slice none 0 0) [] (some ⟨w.heap.size, 0, none⟩) 1 [1] 0 1 w (w.alloc (.cells #[.int .i64 1] 3)) (below_alloc (Below.refl _ _) _) (Kd.R_nil _ _ _ _ _) (fun W hk => C_one (blk_kept HF0.out hk (fun he => by simp [Value.ownBlock] at he))) (Nat.le_refl _) (.inl rfl) (by omega) (by omega) (fun x hx => by cases hx) (fun x hx => by rw [List.mem_singleton.1 hx]; omega) (by simp) (by simp))
    have HOUT0 : Aside0 (addL [] [1] (0 : Int).toNat 1 = outTo (numF kk) ms 0) := ⟨rfl⟩
    rw [HOUT0.out] at HA0
    clear HOUT0 HF0
    go_enter Try.func65, Try.ntmps65
    go_wp2_with (first | (go_at_call 84; refine HA0.out.mono ?_; rintro e w2 ⟨v3, rfl, ho, hb, hkept⟩; have HO2 := Aside0.mk ho; have HB2 := Aside0.mk hb; have HI2 := Aside0.mk (HI.out.below hb); obtain ⟨Ax, cx, i0, i1, _⟩ := HI2.out; clear ho hb hkept) | (go_at_call 47; refine (HMin.out _ (HI2.out.below (below_alloc (Below.refl _ _) _))).mono ?_; rintro e w3 ⟨g', rfl, hi3, hb3⟩; obtain ⟨vm, hbm, hblk, hrm⟩ := hi3; obtain ⟨Am, cm, evm⟩ := Kd.R_slice hrm; subst evm; have j1 := (blk_cell hblk 1).trans rfl; have HB3 := Aside0.mk (below_step (below_alloc HB2.out _) hb3); have HY3 := Aside0.mk (heap_below (heap_alloc_new w2 (.cells #[.int .i64 n, .slice none 0 0] 73)) hb3); have HO3 := Aside0.mk (Kd.R_below (Kd.R_alloc HO2.out (.cells #[.int .i64 n, .slice none 0 0] 73)) hb3); have HM3 := Aside0.mk (Kd.R_lower (Kd.R_mono (Kd.R_bound hrm) (ok' := fun k_ => k_ < w3.heap.size) (fun k_ h_ => h_.2.2.1)) (below_alloc HB2.out (.cells #[.int .i64 n, .slice none 0 0] 73)).size); have HYB : Aside0 (w.heap.size ≤ w2.heap.size) := ⟨HB2.out.size⟩; clear hbm hblk hrm hb3))
    clear i0 i1 j1 HA0 HMin HI2 HO2 HB2
    generalize hBy : w2.heap.size = B at *
    have hms12 : ms.length ≤ 12 := Nat.le_trans HML.out HK12.out
    go_loopw [3, 26] (fun v3 v26 w' => ∃ (i : Nat) (vy : Value), i ≤ ms.length ∧ v26 = .int .i64 (i : Int) ∧ Aside0 (Kd.R KI 3 w' w.heap.size (fun _ => True) v3 (outTo (numF kk) ms i)) ∧ Aside0 (Below w.heap.size w w') ∧ Aside0 (w'.heap[B]? = some (.cells #[.int .i64 n, vy] 73 (0, 0))) ∧ Aside0 (K4.R 76 w' w.heap.size (fun k_ => w3.heap.size ≤ k_) vy (ms.take i)) ∧ Aside0 (K4.R 76 w' w.heap.size (fun k_ => k_ < w3.heap.size) (.slice Am ms.length cm) ms) ∧ Aside0 (w3.heap.size ≤ w'.heap.size)) (fun _ v26 _ => ms.length - (intOf v26).toNat)
    case atStart => exact ⟨0, .slice none 0 0, Nat.zero_le _, rfl, HO3, HB3, HY3, ⟨Kd.R_nil _ _ _ _ _⟩, HM3, ⟨Nat.le_refl _⟩⟩
    case round =>
      clear HO3 HB3 HY3 HM3
      obtain ⟨i, vy, hi, rfl, HO, HB, HY, HR, HM, HS⟩ := hrel
      by_cases hlt : i < ms.length
      · have hltb : decide ((i : Int) < (ms.length : Int)) = true := decide_eq_true (by omega)
        have hi0 : (0 : Int) ≤ (i : Int) := by omega
        obtain ⟨G, hG⟩ : ∃ x, ms[i]? = some x := ⟨_, List.getElem?_eq_getElem hlt⟩
        have HVG : Aside0 (V6 G) := ⟨HMV.out G (List.mem_of_getElem? hG)⟩
        have HOS := Aside0.mk (out_succ (numF kk) ms i G hG)
        have HTK : Aside0 (ms.take (i + 1) = ms.take i ++ [G]) := ⟨by
          obtain ⟨hk', e⟩ := List.getElem?_eq_some_iff.1 hG
          rw [List.take_succ_eq_append_getElem hk', e]⟩
        obtain ⟨A_, c_, e_, _, hrows, _⟩ := rows_of_R HM.out
        cases e_
        obtain ⟨gm, hgm, _, x0, x1, x2, x3⟩ := hrows.elem i G hG
        subst hgm
        clear hG hrows
        have HTL : Aside0 ((ms.take i).length ≤ i) := ⟨by rw [List.length_take]; omega⟩
        have HTV := Aside0.mk (mem_take_V6 HMV.out i)
        obtain ⟨Ay, cy, ey⟩ := Kd.R_slice HR.out
        subst ey
        have HB1 := Aside0.mk (below_alloc HB.out (.cells #[.int .i64 G.1, .int .i64 G.2.1, .int .i64 G.2.2.1, .int .i64 G.2.2.2] 76))
        have HX1 := Aside0.mk (heap_alloc_new wr (.cells #[.int .i64 G.1, .int .i64 G.2.1, .int .i64 G.2.2.1, .int .i64 G.2.2.2] 76))
        have HY1 := Aside0.mk (blk_alloc HY.out (.cells #[.int .i64 G.1, .int .i64 G.2.1, .int .i64 G.2.2.1, .int .i64 G.2.2.2] 76))
        have HO1 := Aside0.mk (Kd.R_alloc HO.out (.cells #[.int .i64 G.1, .int .i64 G.2.1, .int .i64 G.2.2.1, .int .i64 G.2.2.2] 76))
        have HR1 := Aside0.mk (Kd.R_alloc HR.out (.cells #[.int .i64 G.1, .int .i64 G.2.1, .int .i64 G.2.2.1, .int .i64 G.2.2.2] 76))
        have HM1 := Aside0.mk (Kd.R_alloc HM.out (.cells #[.int .i64 G.1, .int .i64 G.2.1, .int .i64 G.2.2.1, .int .i64 G.2.2.2] 76))
        have HS1 : Aside0 (w3.heap.size ≤ (wr.alloc (.cells #[.int .i64 G.1, .int .i64 G.2.1, .int .i64 G.2.2.1, .int .i64 G.2.2.2] 76)).heap.size) := ⟨Nat.le_trans HS.out (below_alloc (Below.refl _ _) _).size⟩
        have hdg := deg_le HVG.out
        have hvg := HVG.out
        obtain ⟨g0, g1, g2, g3⟩ := G
        unfold V6 at hvg
        unfold degM at hdg
        dsimp only at x0 x1 x2 x3 HB1 HX1 HY1 HO1 HR1 HM1 HS1 hdg hvg
        obtain ⟨⟨hg0, hg0'⟩, ⟨hg1, hg1'⟩, ⟨hg2, hg2'⟩, hg3, hg3'⟩ := hvg
        have HCH : Aside0 (∀ W1 : World, W1.heap[wr.heap.size]? = some (.cells #[.int .i64 g0, .int .i64 g1, .int .i64 g2, .int .i64 g3] 76 (0, 0)) → Ideal W1 B n (ms.take i) → Calls Try.prog 54 #[.pointer (some ⟨B, 0, none⟩), .func (.func 85) #[] #[.pointer (some ⟨wr.heap.size, 0, none⟩)]] W1 fun e w' => ∃ g', e = .returned (.pointer (some ⟨g', 0, none⟩)) ∧ IdealAt w' W1.heap.size g' n (least divs ((ms.take i).map (overM (g0, g1, g2, g3)))) ∧ Below W1.heap.size W1 w') := ⟨fun W1 hx hy =>
          changed_calls (overM (g0, g1, g2, g3)) 85 _ Try.func85 rfl (by kernel_rfl) _ B n (ms.take i) W1 (fun W m hm hb => num_calls m (g0, g1, g2, g3) wr.heap.size W ((box_of_blk (m := (g0, g1, g2, g3)) hx).below hb) (HTV.out m hm) HVG.out) hy (by have := HTL.out; omega)⟩
        have HIY := Aside0.mk (IdealAt.reads (base := w.heap.size) ⟨.slice Ay (ms.take i).length cy, Nat.le_trans HYB.out (Nat.le_refl _), HY1.out, Kd.R_mono HR1.out (fun _ _ => trivial)⟩)
        have H65 : Aside0 (∀ (W : World) (gg : Nat), Ideal W gg n (least divs ((ms.take i).map (overM (g0, g1, g2, g3)))) → Calls Try.prog 65 #[.pointer (some ⟨gg, 0, none⟩)] W fun e w' => ∃ v, e = .returned v ∧ Kd.R KI 3 w' W.heap.size (fun _ => True) v (numF kk (least divs ((ms.take i).map (overM (g0, g1, g2, g3))))) ∧ Below W.heap.size W w') := ⟨fun W gg hid => IH.out gg n _ W hid (V6s_least (V6s_sub HMV.out i HVG.out)) (Nat.lt_of_le_of_lt (least_length _ _) (by rw [List.length_map]; have := HTL.out; have := HML.out; omega))⟩
        have HSUBB : Aside0 ((numF kk (least divs ((ms.take i).map (overM (g0, g1, g2, g3))))).length ≤ 10000 ∧ Small (numF kk (least divs ((ms.take i).map (overM (g0, g1, g2, g3))))) 1000000000) := ⟨by
          have hl_ : (least divs ((ms.take i).map (overM (g0, g1, g2, g3)))).length ≤ i := Nat.le_trans (least_length _ _) (by rw [List.length_map]; exact HTL.out)
          have hm_ := HML.out
          obtain ⟨b1, b2⟩ := num_bounds kk _ (V6s_least (below := divs) (V6s_sub HMV.out i HVG.out)) (Nat.lt_of_le_of_lt hl_ (by omega))
          have hp_ := pow_small (least divs ((ms.take i).map (overM (g0, g1, g2, g3)))).length (by omega)
          exact ⟨by omega, b2.mono (by omega)⟩⟩
        have HOBB : Aside0 ((outTo (numF kk) ms i).length ≤ 100000 ∧ Small (outTo (numF kk) ms i) 1000000000) := ⟨by
          have hm_ := HML.out
          obtain ⟨b1, b2⟩ := HOB.out i (by omega)
          have hp_ := pow_small i (by omega)
          exact ⟨by omega, b2.mono (by omega)⟩⟩
        have HDG := Aside0.mk hdg
        have HOLT : Aside0 (∀ W : World, wr.heap.size ≤ W.heap.size → ∀ k_, some k_ = (u3 : Value).ownBlock → W.heap.size ≤ k_ → False) := ⟨fun W h1_ k_ h2_ h3_ => by have := Kd.R_lt HO.out k_ h2_.symm; omega⟩
        clear hdg
        generalize numF kk (least divs ((ms.take i).map (overM (g0, g1, g2, g3)))) = sub at *
        generalize ms.take i = yl at *
        have hix0 : ∀ W : World, (Instr.index 76 (.agg #[.int .i64 g0, .int .i64 g1, .int .i64 g2, .int .i64 g3]) (.int .i64 0)).run Try.prog W = .ok (.int .i64 g0) W := fun _ => by kernel_rfl
        have hix1 : ∀ W : World, (Instr.index 76 (.agg #[.int .i64 g0, .int .i64 g1, .int .i64 g2, .int .i64 g3]) (.int .i64 1)).run Try.prog W = .ok (.int .i64 g1) W := fun _ => by kernel_rfl
        have hix2 : ∀ W : World, (Instr.index 76 (.agg #[.int .i64 g0, .int .i64 g1, .int .i64 g2, .int .i64 g3]) (.int .i64 2)).run Try.prog W = .ok (.int .i64 g2) W := fun _ => by kernel_rfl
        have hix3 : ∀ W : World, (Instr.index 76 (.agg #[.int .i64 g0, .int .i64 g1, .int .i64 g2, .int .i64 g3]) (.int .i64 3)).run Try.prog W = .ok (.int .i64 g3) W := fun _ => by kernel_rfl
        go_wp2_with (go_at_call 54; refine (HCH.out _ HX1.out HIY.out).mono ?_; rintro e w4 ⟨g2_, rfl, hi4, hb4⟩; have HI4 := Aside0.mk hi4; have HB4 := Aside0.mk (below_step HB1.out hb4); have HX4 := Aside0.mk (heap_below HX1.out hb4); have HY4 := Aside0.mk (heap_below HY1.out hb4); have HO4 := Aside0.mk (Kd.R_below HO1.out hb4); have HR4 := Aside0.mk (Kd.R_below HR1.out hb4); have HM4 := Aside0.mk (Kd.R_below HM1.out hb4); have HS4 := Aside0.mk (Nat.le_trans HS1.out hb4.size); have HW4 : Aside0 (wr.heap.size ≤ w4.heap.size) := ⟨Nat.le_trans (below_alloc (Below.refl wr.heap.size wr) _).size hb4.size⟩; obtain ⟨y0, y1, y2, y3⟩ := box_of_blk (m := (g0, g1, g2, g3)) HX4.out; clear hi4 hb4; dsimp only at y0 y1 y2 y3)
        refine wp_loop_rounds 5 ?_
        simp only [Code.rounds]
        go_wp2_with (first | (go_at_call 65; refine (H65.out w4 g2_ HI4.out.reads).mono ?_; rintro e w5 ⟨v5, rfl, ho5, hb5⟩; obtain ⟨As, cs, es⟩ := Kd.R_slice ho5; subst es; have HSB := Aside0.mk (Kd.R_mono (Kd.R_bound ho5) (ok' := fun k_ => w4.heap.size ≤ k_) (fun k_ h_ => h_.2.1)); have HSC := Aside0.mk (Kd.R_reads' ho5).2.1; have HB5 := Aside0.mk (below_step HB4.out hb5); have HX5 := Aside0.mk (heap_below HX4.out hb5); have HY5 := Aside0.mk (heap_below HY4.out hb5); have HO5 := Aside0.mk (Kd.R_below HO4.out hb5); have HR5 := Aside0.mk (Kd.R_below HR4.out hb5); have HM5 := Aside0.mk (Kd.R_below HM4.out hb5); have HS5 := Aside0.mk (Nat.le_trans HS4.out hb5.size); clear ho5 hb5) | (go_at_call 84; refine (add_calls _ (outTo (numF kk) ms i) As cs sub (g0 + g1 + g2 + g3) (-1) w w5 HB5.out HO5.out (fun W hk_ => Kd.C_kept_own HSB.out (fun k_ h1_ h2_ => HOLT.out w4 HW4.out k_ h2_ h1_) W hk_) HSC.out (.inr rfl) HDG.out.1 HDG.out.2 HOBB.out.2 HSUBB.out.2 HSUBB.out.1 HOBB.out.1).mono ?_; rintro e w6 ⟨v6, rfl, ho6, hb6, hk6⟩; have HO6 := Aside0.mk ho6; have HB6 := Aside0.mk hb6; have HX6 := Aside0.mk (blk_kept_row HX5.out (by decide) HO5.out hk6); have HY6 := Aside0.mk (blk_kept_row HY5.out (by decide) HO5.out hk6); have HR6 := Aside0.mk (K4_kept HR5.out HO5.out hk6); have HM6 := Aside0.mk (K4_kept HM5.out HO5.out hk6); have HS6 := Aside0.mk (Nat.le_trans HS5.out hk6.1); clear ho6 hb6 hk6))
        have HNE : Aside0 (some B ≠ (Value.slice Ay yl.length cy).ownBlock) := ⟨Kd.R_ne HR6.out HY6.out (by decide)⟩
        obtain ⟨z0, z1, z2, z3⟩ := box_of_blk (m := (g0, g1, g2, g3)) HX6.out
        have y1 := (blk_cell HY6.out 1).trans rfl
        have yf := blk_frozen HY6.out 1
        have nn : ∀ o, (w6.alloc o).frozen? ⟨B, 1, none⟩ = false := fun o => blk_frozen (blk_alloc HY6.out o) 1
        have z4 : ∀ o, (w6.alloc o).cell? ⟨B, 1, none⟩ = some (.slice Ay yl.length cy) := fun o => (blk_cell (blk_alloc HY6.out o) 1).trans rfl
        dsimp only at z0 z1 z2 z3
        go_region_law ((refine Kd.R_append_step K4 (w0 := w) (W := w6.drew) w.heap.size ?h1 (.tmp 50) (.tmp 52) 71 76 (.agg #[.int .i64 0, .int .i64 0, .int .i64 0, .int .i64 0]) 32 ?h2 Try.underlying71 info76 rfl (by decide) (by omega) (.slice Ay yl.length cy) yl (g0, g1, g2, g3) (enc (g0, g1, g2, g3)) (fun k_ => w3.heap.size ≤ k_) (fun _ => False) ?h3 ?h4 ?h5 (fun _ h => h.elim) ?h6 ?h7 ?h8 ?h9 ?hA ?_; (case h1 => rfl); (case h2 => rfl); (case h3 => rfl); (case h4 => rfl); (case h5 => rfl); (case h6 => exact (fun k_ h_ => Nat.le_trans HS6.out h_)); (case h7 => exact (Kd.R_drew HR6.out)); (case h8 => exact (below_drew1 HB6.out)); (case h9 => exact HB6.out.size); (case hA => have := HTL.out; omega); intro v1 w7 ho hb hg hat; have HQ := Aside0.mk (blk_grown (blk_drew HY6.out) hg HNE.out); have g0_ := (blk_cell HQ.out 1).trans rfl; have g1_ := blk_frozen HQ.out 1; obtain ⟨A8, c8, e8⟩ := Kd.R_slice ho; subst e8))
        all_goals
          rw [List.length_append, List.length_singleton] at ho
          have HP7 := Aside0.mk (blk_put HQ.out 1 (.slice A8 (yl.length + 1) c8) rfl)
          have HR7 := Aside0.mk (Kd.R_set ho HQ.out (by intro q hq; rw [List.mem_singleton.1 hq]; decide) 1 (.slice A8 (yl.length + 1) c8))
          have HM7 := Aside0.mk (Kd.R_set (Kd.R_grown (Kd.R_drew HM6.out) hg (fun k_ hk_ he_ => by have := HR6.out.1 k_ he_.symm; omega)) HQ.out (by intro q hq; rw [List.mem_singleton.1 hq]; decide) 1 (.slice A8 (yl.length + 1) c8))
          have HO7 := Aside0.mk (Kd.R_set (Kd.R_over (Kd.R_drew HO6.out) (Kd.R_drew HR6.out) (by intro q hq; rw [List.mem_singleton.1 hq]; decide) hg) HQ.out (by intro q hq; rw [List.mem_singleton.1 hq]; decide) 1 (.slice A8 (yl.length + 1) c8))
          have HB7 := Aside0.mk (hb.setCell (p := ⟨B, 1, none⟩) HYB.out (.slice A8 (yl.length + 1) c8))
          have HS7 : Aside0 (w3.heap.size ≤ (w7.setCell ⟨B, 1, none⟩ (.slice A8 (yl.length + 1) c8)).heap.size) := ⟨Nat.le_trans HS6.out (by simp [World.setCell]; exact hg.size)⟩
          clear ho hb hg hat g0_ g1_ z0 z1 z2 z3 z4 y1 yf nn hix0 hix1 hix2 hix3
          go_wp2
          go_roundw
          case rel => exact ⟨i + 1, _, by omega, by go_num, ⟨by rw [HOS.out]; exact HO7.out⟩, HB7, HP7, ⟨by rw [HTK.out]; exact HR7.out⟩, HM7, HS7⟩
          case measure => simp [intOf]; omega
      · have hltb : decide ((i : Int) < (ms.length : Int)) = false := decide_eq_false (by omega)
        obtain rfl : i = ms.length := by omega
        have HOBB : Aside0 ((outTo (numF kk) ms ms.length).length ≤ 100000) := ⟨by
          have hm_ := HML.out
          obtain ⟨b1, b2⟩ := HOB.out ms.length hm_
          omega⟩
        obtain ⟨A3, c3, e3⟩ := Kd.R_slice HO.out
        subst e3
        generalize outTo (numF kk) ms ms.length = l0 at *
        go_wp2
        go_loopg [3] (l0.length + 1) (fun kq v3 w' => ∃ (l : List Int), v3 = .slice A3 l.length c3 ∧ Aside0 (Kd.R KI 3 w' w.heap.size (fun _ => True) (.slice A3 l.length c3) l) ∧ Aside0 (Below w.heap.size w w') ∧ Aside0 (res = trimL l) ∧ Aside0 (l.length < kq) ∧ Aside0 (l.length ≤ 100000))
        case atStart => exact ⟨l0, rfl, HO, HB, HN, ⟨Nat.lt_succ_self _⟩, HOBB⟩
        case round =>
          clear HO HB HN HOBB
          obtain ⟨l, rfl, HO, HB, HN, HK, HLL⟩ := hrel
          rcases List.eq_nil_or_concat l with rfl | ⟨l', x, rfl⟩
          · have e0 : ([] : List Int).length = 0 := rfl
            rw [e0] at HO ⊢
            go_wp2
            go_ret
            exact ⟨_, rfl, by rw [HN.out, trim_nil]; exact HO.out, HB.out⟩
          · rw [List.concat_eq_append] at *
            have HO9 := Aside0.mk (Kd.R_take HO.out (m := l'.length) (by rw [List.length_append]; omega))
            rw [List.take_left' rfl] at HO9
            have hlen : (l' ++ [x]).length = l'.length + 1 := by rw [List.length_append, List.length_singleton]
            obtain ⟨hn_, hc_, hC_⟩ := Kd.R_reads' HO.out
            obtain ⟨ad, ead, hcell⟩ := Kd.at_int hC_ (l'.length : Int) (by omega) (by rw [hlen]; omega)
            subst ead
            have hrd : rd (l' ++ [x]) (l'.length : Int) = x := by
              unfold rd
              rw [Int.toNat_natCast, List.getD_eq_getElem?_getD, List.getElem?_append_right (Nat.le_refl _), Nat.sub_self]
              rfl
            rw [hrd, Int.toNat_natCast] at hcell
            rw [hlen] at HO HK HLL hc_ ⊢
            have hll := HLL.out
            have hcap : l'.length + 1 ≤ c3 := hc_
            have HKq := HK.out
            clear hC_ hn_ hrd hlen hc_
            have hp0 : decide (0 < (l'.length : Int) + 1) = true := decide_eq_true (by omega)
            have hi1 : (0 : Int) ≤ (l'.length : Int) := by omega
            by_cases hx : x = 0
            · have hxb : (x == 0) = true := beq_iff_eq.mpr hx
              have HN2 : Aside0 (res = trimL l') := ⟨by rw [HN.out, hx, trim_zero]⟩
              clear hx
              go_wp2
              go_roundg (gk - 1)
              case measure => omega
              case rel => exact ⟨l', rfl, HO9, HB, HN2, ⟨by omega⟩, ⟨by omega⟩⟩
            · have hxb : (x == 0) = false := beq_eq_false_iff_ne.mpr hx
              have HN2 : Aside0 (res = l' ++ [x]) := ⟨by rw [HN.out, trim_full l' x hx]⟩
              clear hx
              go_wp2
              go_ret
              exact ⟨_, rfl, by rw [HN2.out]; exact HO.out, HB.out⟩
end Go.Proofs.Ytmekcfkfkpbfeaa.H
