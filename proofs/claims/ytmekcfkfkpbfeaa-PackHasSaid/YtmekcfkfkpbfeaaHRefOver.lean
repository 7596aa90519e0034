/- The walk of woggleref04.Over. Condition: at most 1000 rows of one length, exponents 0 to 6. -/
import Derived.Test.YtmekcfkfkpbfeaaHRefRad
import Derived.BigRegion
import Derived.BigQuiet
import Derived.Deep.RegionHeld3
import Derived.Outline
namespace Go.Proofs.Ytmekcfkfkpbfeaa.H
open Go.RowKit Go.Proofs.YtmekcfkfkpbfeaaW.PrintWords Go.Proofs.YtmekcfkfkpbfeaaW.PrintLast Go.Proofs.YtmekcfkfkpbfeaaW.PrintMore
open Go.Proofs.Ytmekcfkfkpbfeaa.Ga Go.Proofs.Ytmekcfkfkpbfeaa.S Go.Proofs.Ytmekcfkfkpbfeaa.M
attribute [local go_sem] max2_int min2_int max_two min_two max_three min_three max_four min_four
set_option linter.unusedVariables false
set_option linter.unusedSimpArgs false
def overL (m x : List Int) : List Int := List.zipWith (fun a b => mx 0 (a - b)) x m
theorem overL_length (m x : List Int) (h : x.length = m.length) : (overL m x).length = m.length := by
  unfold overL
  rw [List.length_zipWith]
  omega
set_option maxRecDepth 100000 in
set_option maxHeartbeats 16000000 in
theorem refOver_calls (k : Int) (h1 : 1 ≤ k) (h4 : k ≤ 4) (A : Option Addr) (c : Nat) (xs : List (List Int)) (A1 : Option Addr) (c1 : Nat) (m : List Int) (w : World) (hr : Kd.C KL w A xs.length xs) (hm : Kd.C KI w A1 m.length m) (hln : ∀ x ∈ xs, (x.length : Int) = k ∧ ∀ y ∈ x, 0 ≤ y ∧ y ≤ 6) (hml : (m.length : Int) = k) (hmy : ∀ y ∈ m, 0 ≤ y ∧ y ≤ 6) (hl : xs.length < 1000) :
    Calls Try.prog 33 #[.slice A xs.length c, .slice A1 m.length c1] w fun e w' => ∃ A1 c1, e = .returned (.slice A1 (minL k (xs.map (overL m))).length c1) ∧ (minL k (xs.map (overL m))).length ≤ c1 ∧ Kd.C KL w' A1 (minL k (xs.map (overL m))).length (minL k (xs.map (overL m))) ∧ Below w.heap.size w w' := by
  have HR := Aside0.mk hr
  have HMC := Aside0.mk hm
  have HML := Aside0.mk hml
  have HMY := Aside0.mk hmy
  have HLN := Aside0.mk hln
  have HL := Aside0.mk hl
  have HK := Aside0.mk (And.intro h1 h4)
  clear hr hln hl hm hml hmy
  go_enter Try.func33, Try.ntmps33
  go_wp2_with ((with_reducible refine gate_dst (N := 9) rfl ?_); refine Kd.R_lit KL _ 27 ?hg (N := 9) ?hd (xs := ([] : List (List Int))) (inner := []) (ok := fun _ => True) (okp := fun _ => True) ?hr ?hp (fun _ hk => hk) trivial (Below.refl _ _) (Nat.le_refl _) (by simp) ?_; (case hd => rfl); (case hg => rfl); (case hr => first | (go_simp; done) | (go_simp; rfl)); (case hp => exact (Reps.none _ _)); intro v158 w2 ho3 hb hg_ hnew_; clear hg_ hnew_; have HO1 := Aside0.mk ho3; have HB1 := Aside0.mk hb; clear hb ho3)
  go_loopw [5, 6] (fun v3 v4 w' => ∃ (i : Nat), i ≤ xs.length ∧ v4 = .int .i64 (i : Int) ∧ Aside0 (Kd.R KL 27 w' w.heap.size (fun _ => True) v3 ((xs.take i).map (overL m))) ∧ Aside0 (Below w.heap.size w w')) (fun _ v4 _ => xs.length - (intOf v4).toNat)
  case atStart => exact ⟨0, Nat.zero_le _, rfl, HO1, HB1⟩
  case round =>
    clear HB1 HO1
    obtain ⟨i, hi, rfl, HO, HB⟩ := hrel
    have hl1 : xs.length < 1000 := HL.out
    generalize wr = wo at *
    by_cases hlt : i < xs.length
    · have hltb : decide ((i : Int) < (xs.length : Int)) = true := decide_eq_true (by omega)
      have hi0 : (0 : Int) ≤ (i : Int) := by omega
      have hi1 : (i : Int) < (xs.length : Int) := by omega
      obtain ⟨ad, A0, c0, e, hc, hl0, hr0⟩ := at_L1 (Kd.C_below HR.out HB.out) (i : Int) (by omega) (by omega)
      subst e
      rw [Int.toNat_natCast] at hc
      have HRD : Aside0 (rd_L1 xs (i : Int) = xs[i]) := ⟨rd1_at xs i hlt⟩
      have HST : Aside0 ((xs.take (i + 1)).map (overL m) = (xs.take i).map (overL m) ++ [overL m (rd_L1 xs (i : Int))]) := ⟨by
        rw [List.take_succ_eq_append_getElem hlt, List.map_append, HRD.out]
        rfl⟩
      have HGL : Aside0 (((rd_L1 xs (i : Int)).length : Int) = k) := ⟨by rw [HRD.out]; exact (HLN.out _ (List.getElem_mem hlt)).1⟩
      have HGY : Aside0 (∀ y ∈ rd_L1 xs (i : Int), 0 ≤ y ∧ y ≤ 6) := ⟨by rw [HRD.out]; exact (HLN.out _ (List.getElem_mem hlt)).2⟩
      have HOL : Aside0 (((xs.take i).map (overL m)).length < 1000) := ⟨by rw [List.length_map, List.length_take]; omega⟩
      have HC := Aside0.mk hr0
      have HX := Aside0.mk hc
      have HLT := Aside0.mk hlt
      clear HRD
      generalize rd_L1 xs (i : Int) = g at *
      generalize hout : (xs.take i).map (overL m) = out at *
      clear hout hr0
      go_wp2_with ((with_reducible refine gate_dst (N := 16) rfl ?_); refine Kd.R_lit KI _ 3 ?hg (N := 16) ?hd (xs := ([] : List Int)) (inner := []) (ok := fun _ => True) (okp := fun _ => True) ?hr ?hp (fun _ hk => hk) trivial (Below.refl _ _) (Nat.le_refl _) (by simp) ?_; (case hd => rfl); (case hg => rfl); (case hr => first | (go_simp; done) | (go_simp; rfl)); (case hp => exact (Reps.none _ _)); intro v159 w3 ho3 hb hg_ hnew_; clear hg_ hnew_; have HO0 := Aside0.mk ho3; have HZ0 := Aside0.mk hb; clear hb ho3)
      clear hc
      go_loopw [7, 8] (fun v5 v6 w' => ∃ (j : Nat), j ≤ m.length ∧ v6 = .int .i64 (j : Int) ∧ Aside0 (Kd.R KI 3 w' wo.heap.size (fun _ => True) v5 ((overL m g).take j)) ∧ Aside0 (Below wo.heap.size wo w')) (fun _ v6 _ => m.length - (intOf v6).toNat)
      case atStart => exact ⟨0, Nat.zero_le _, rfl, HO0, HZ0⟩
      case round =>
        clear HO0 HZ0
        obtain ⟨j, hj, rfl, HOO, HZ⟩ := hrel
        have x1 := pw_cell_below HZ.out HX.out
        have hgm : g.length = m.length := by have h_1 := HGL.out; have h_2 := HML.out; omega
        have hm4 : m.length ≤ 4 := by have h_1 := HML.out; have h_2 := HK.out; omega
        have HQL : Aside0 ((overL m g).length = m.length) := ⟨overL_length m g hgm⟩
        by_cases hjt : j < m.length
        · have hjtb : decide ((j : Int) < (m.length : Int)) = true := decide_eq_true (by omega)
          have hj0 : (0 : Int) ≤ (j : Int) := by omega
          have hj1 : (j : Int) < (m.length : Int) := by omega
          have hj2 : (j : Int) < (g.length : Int) := by omega
          have hjg : j < g.length := by omega
          obtain ⟨bd, e, e1⟩ := Kd.at_int HC.out (j : Int) (by omega) (by omega)
          subst e
          obtain ⟨md, e, e2⟩ := Kd.at_int (Kd.C_below HMC.out HB.out) (j : Int) (by omega) (by omega)
          subst e
          rw [Int.toNat_natCast] at e1 e2
          have y1 := pw_cell_below HZ.out e1
          have y2 := pw_cell_below HZ.out e2
          have HST2 : Aside0 ((overL m g).take (j + 1) = (overL m g).take j ++ [mx 0 (rd g (j : Int) - rd m (j : Int))]) := ⟨by
            have hql : j < (overL m g).length := by rw [HQL.out]; exact hjt
            have e5 : (overL m g)[j] = mx 0 (g[j] - m[j]) := List.getElem_zipWith
            rw [List.take_succ_eq_append_getElem hql, rd_at g j hjg, rd_at m j hjt, e5]⟩
          have hb7 := HGY.out g[j] (List.getElem_mem hjg)
          have hb8 := HMY.out m[j] (List.getElem_mem hjt)
          rw [← rd_at g j hjg] at hb7
          rw [← rd_at m j hjt] at hb8
          have HOL2 : Aside0 (((overL m g).take j).length ≤ 4) := ⟨by rw [List.length_take]; omega⟩
          obtain ⟨A5, c5, hu5⟩ := Kd.R_slice HOO.out
          subst hu5
          generalize hout2 : (overL m g).take j = out2 at *
          clear hout2
          generalize hrv : rd g (j : Int) = rv at *
          generalize hrm : rd m (j : Int) = rm at *
          obtain ⟨hb70, hb71⟩ := hb7
          obtain ⟨hb80, hb81⟩ := hb8
          have h7 : IntKind.i64.wrap (rv - rm) = rv - rm := IntWalk.i64_in _ (by omega)
          have HVV : Aside0 (mx 0 (rv - rm) = if rm < rv then rv - rm else 0) := ⟨by unfold mx; split <;> split <;> omega⟩
          clear hrv hrm hgm
          go_wp2
          go_region_held3 (fun w' => w'.cell? (ad.add i) = some (.slice (some bd) g.length c0) ∧ w'.cell? (bd.add j) = some (.int .i64 rv) ∧ w'.cell? (md.add j) = some (.int .i64 rm)) (first | (exact ⟨ck0, ck1, ck2⟩) | go_keep | (exact ⟨x1, y1, y2⟩)) (first | (refine Kd.R_append_step KI (w0 := wo) (W := wr.drew) wo.heap.size ?h1 (.tmp 23) (.tmp 37) 27 3 (.int .i64 0) 8 ?h2 Try.underlying27 Ga.info3 rfl (by decide) (by omega) (.slice A5 out2.length c5) out2 (if rm < rv then rv - rm else 0) [.int .i64 (if rm < rv then rv - rm else 0)] (fun _ => True) (fun _ => False) ?h3 ?h4 ?h5 (fun _ h => h.elim) (fun _ _ => trivial) ?h7 ?h8 ?h9 ?hA ?_; (case h1 => rfl); (case h2 => rfl); (case h3 => rfl); (case h4 => rfl); (case h5 => rfl); (case h7 => exact (Kd.R_drew HOO.out)); (case h8 => exact (below_drew1 HZ.out)); (case h9 => exact HZ.out.size); (case hA => have := HOL2.out; omega); intro v161 w11 ho hb hg hat; have ck0 := pw_cell_below hb HX.out; have ck1 := pw_cell_below hb e1; have ck2 := pw_cell_below hb e2))
          have HZ2 := Aside0.mk hb
          have HO2 := Aside0.mk ho
          clear ho hb hg hat x1 y1 y2 e1 e2 ck0 ck1 ck2
          go_wp2
          go_roundw
          case rel => exact ⟨j + 1, by omega, by go_num, ⟨by rw [HST2.out, HVV.out]; exact HO2.out⟩, HZ2⟩
          case measure => simp [intOf]; omega
        · have hjtb : decide ((j : Int) < (m.length : Int)) = false := decide_eq_false (by omega)
          rw [List.take_of_length_le (by rw [HQL.out]; omega)] at HOO
          clear hgm
          obtain ⟨A5, c5, hu5⟩ := Kd.R_slice HOO.out
          subst hu5
          obtain ⟨A3, c3, hu3⟩ := Kd.R_slice HO.out
          subst hu3
          have HB2 := Aside0.mk (below_step HB.out HZ.out)
          have HO2 := Aside0.mk (Kd.R_below HO.out HZ.out)
          generalize overL m g = row at *
          go_wp2_with ((with_reducible refine gate_builtin (b := .append) (xs := #[.tmp 39, .tmp 41]) rfl ?_); at_builtin; refine Kd.R_append KL (w0 := w) w.heap.size rfl (.tmp 39) (.tmp 41) 24 27 (.slice none 0 0) 24 rfl Try.underlying24 info27' rfl (by decide) (by omega) (.slice A3 out.length c3) out row [.slice A5 row.length c5] (fun _ => True) (fun k_ => wo.heap.size ≤ k_) rfl rfl ?aP ?aK (fun _ _ => trivial) ?aO ?aB ?aS ?aL ?_; (case aP => exact Kd.M_row (Kd.R_lower (Kd.R_mono (Kd.R_bound HOO.out) (fun k_ h_ => h_.2.1)) HB.out.size)); (case aK => exact (fun k_ h_ => ⟨trivial, fun e_ => by have := Kd.R_lt HO.out _ e_.symm; omega⟩)); (case aO => exact HO2.out); (case aB => exact HB2.out); (case aS => exact HB2.out.size); (case aL => have := HOL.out; omega); intro v1 w4 ho hb hg hat; have HO3 := Aside0.mk ho; have HB3 := Aside0.mk hb; clear ho hb hg hat)
          go_roundw
          case rel => exact ⟨i + 1, by have := HLT.out; omega, by go_num, ⟨by rw [HST.out]; exact HO3.out⟩, HB3⟩
          case measure => have := HLT.out; simp [intOf]; omega
    · have hltb : decide ((i : Int) < (xs.length : Int)) = false := decide_eq_false (by omega)
      obtain rfl : i = xs.length := by omega
      rw [List.take_length] at HO
      obtain ⟨A3, c3, e3, hc3, hC3⟩ := Kd.R_reads HO.out
      subst e3
      have HM := Aside0.mk (refMinimal_calls k HK.out.1 HK.out.2 A3 c3 (xs.map (overL m)) wo hC3 (fun x hx => by obtain ⟨y, hy, rfl⟩ := List.mem_map.1 hx; rw [overL_length m y (by have h_1 := (HLN.out y hy).1; have h_2 := HML.out; omega)]; exact HML.out) (by rw [List.length_map]; have := HL.out; omega))
      clear hC3 hc3
      generalize hys : xs.map (overL m) = ys at *
      have HYS := Aside0.mk hys
      clear hys
      go_wp2_with (go_at_call 23; refine HM.out.mono ?_; rintro e w5 ⟨A9, c9, rfl, hc9, hC9, hb9⟩)
      go_ret
      rw [HYS.out]
      exact ⟨_, _, rfl, hc9, hC9, below_step HB.out hb9⟩
end Go.Proofs.Ytmekcfkfkpbfeaa.H
