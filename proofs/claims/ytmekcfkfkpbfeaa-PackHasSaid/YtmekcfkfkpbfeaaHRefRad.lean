/- The walk of woggleref04.Radical. Condition: at most 1000 rows of one length, exponents 0 to 6. -/
import Derived.Test.YtmekcfkfkpbfeaaHRefB
import Derived.Test.YtmekcfkfkpbfeaaS5
import Derived.Outline
namespace Go.Proofs.Ytmekcfkfkpbfeaa.H
open Go.RowKit Go.Proofs.YtmekcfkfkpbfeaaW.PrintWords Go.Proofs.YtmekcfkfkpbfeaaW.PrintLast Go.Proofs.YtmekcfkfkpbfeaaW.PrintMore
open Go.Proofs.Ytmekcfkfkpbfeaa.Ga Go.Proofs.Ytmekcfkfkpbfeaa.S Go.Proofs.Ytmekcfkfkpbfeaa.M
attribute [local go_sem] max2_int min2_int max_two min_two max_three min_three max_four min_four
set_option linter.unusedVariables false
set_option linter.unusedSimpArgs false
/-- The reference's Minimal at rows of n numbers. -/
theorem refMinimal_calls (k : Int) (h1 : 1 ≤ k) (h4 : k ≤ 4) (A : Option Addr) (c : Nat) (xs : List (List Int)) (w : World) (hr : Kd.C KL w A xs.length xs) (hln : ∀ x ∈ xs, (x.length : Int) = k) (hl : xs.length < 100000) :
    Calls Try.prog 23 #[.slice A xs.length c] w fun e w' => ∃ A1 c1, e = .returned (.slice A1 (minL k xs).length c1) ∧ (minL k xs).length ≤ c1 ∧ Kd.C KL w' A1 (minL k xs).length (minL k xs) ∧ Below w.heap.size w w' := by
  obtain ⟨ts, e, h⟩ := refMin_calls A c k.toNat xs w hr (fun x hx => by have := hln x hx; omega) (by omega) hl
  have e2 := ref_minL k h1 h4 ts (fun t ht => hln _ (by rw [← e]; exact List.mem_map_of_mem ht))
  rw [e] at e2
  rw [e2] at h
  exact h
def radL (x : List Int) : List Int := x.map (mn 1)
set_option maxRecDepth 100000 in
set_option maxHeartbeats 16000000 in
theorem refRad_calls (k : Int) (h1 : 1 ≤ k) (h4 : k ≤ 4) (A : Option Addr) (c : Nat) (xs : List (List Int)) (w : World) (hr : Kd.C KL w A xs.length xs) (hln : ∀ x ∈ xs, (x.length : Int) = k) (hl : xs.length < 1000) :
    Calls Try.prog 24 #[.slice A xs.length c] w fun e w' => ∃ A1 c1, e = .returned (.slice A1 (minL k (xs.map radL)).length c1) ∧ (minL k (xs.map radL)).length ≤ c1 ∧ Kd.C KL w' A1 (minL k (xs.map radL)).length (minL k (xs.map radL)) ∧ Below w.heap.size w w' := by
  have HR := Aside0.mk hr
  have HLN := Aside0.mk hln
  have HL := Aside0.mk hl
  have HK := Aside0.mk (And.intro h1 h4)
  clear hr hln hl
  go_enter Try.func24, Try.ntmps24
  go_wp2_with ((with_reducible refine gate_dst (N := 7) rfl ?_); refine Kd.R_lit KL _ 27 ?hg (N := 7) ?hd (xs := ([] : List (List Int))) (inner := []) (ok := fun _ => True) (okp := fun _ => True) ?hr ?hp (fun _ hk => hk) trivial (Below.refl _ _) (Nat.le_refl _) (by simp) ?_; (case hd => rfl); (case hg => rfl); (case hr => first | (go_simp; done) | (go_simp; rfl)); (case hp => exact (Reps.none _ _)); intro v158 w2 ho3 hb hg_ hnew_; clear hg_ hnew_; have HO1 := Aside0.mk ho3; have HB1 := Aside0.mk hb; clear hb ho3)
  go_loopw [3, 4] (fun v3 v4 w' => ∃ (i : Nat), i ≤ xs.length ∧ v4 = .int .i64 (i : Int) ∧ Aside0 (Kd.R KL 27 w' w.heap.size (fun _ => True) v3 ((xs.take i).map radL)) ∧ Aside0 (Below w.heap.size w w')) (fun _ v4 _ => xs.length - (intOf v4).toNat)
  case atStart => exact ⟨0, Nat.zero_le _, rfl, HO1, HB1⟩
  case round =>
    clear HB1 HO1
    obtain ⟨i, hi, rfl, HO, HB⟩ := hrel
    have hl1 : xs.length < 1000 := HL.out
    generalize wr = wo at *
    by_cases hlt : i < xs.length
    · have hltb : decide ((i : Int) < (xs.length : Int)) = true := decide_eq_true (by omega)
      have hi0 : (0 : Int) ≤ (i : Int) := by omega
      have hi1 : (i : Int) < (xs.length : Int) := by omega
      obtain ⟨ad, A0, c0, e, hc, hl0, hr0⟩ := at_L1 (Kd.C_below HR.out HB.out) (i : Int) (by omega) (by omega)
      subst e
      rw [Int.toNat_natCast] at hc
      have HRD : Aside0 (rd_L1 xs (i : Int) = xs[i]) := ⟨rd1_at xs i hlt⟩
      have HST : Aside0 ((xs.take (i + 1)).map radL = (xs.take i).map radL ++ [radL (rd_L1 xs (i : Int))]) := ⟨by
        rw [List.take_succ_eq_append_getElem hlt, List.map_append, HRD.out]
        rfl⟩
      have HGL : Aside0 (((rd_L1 xs (i : Int)).length : Int) = k) := ⟨by rw [HRD.out]; exact HLN.out _ (List.getElem_mem hlt)⟩
      have HOL : Aside0 (((xs.take i).map radL).length < 1000) := ⟨by rw [List.length_map, List.length_take]; omega⟩
      have HC := Aside0.mk hr0
      have HX := Aside0.mk hc
      have HLT := Aside0.mk hlt
      clear HRD
      generalize rd_L1 xs (i : Int) = g at *
      generalize hout : (xs.take i).map radL = out at *
      clear hout hr0
      go_wp2_with ((with_reducible refine gate_dst (N := 14) rfl ?_); refine Kd.R_lit KI _ 3 ?hg (N := 14) ?hd (xs := ([] : List Int)) (inner := []) (ok := fun _ => True) (okp := fun _ => True) ?hr ?hp (fun _ hk => hk) trivial (Below.refl _ _) (Nat.le_refl _) (by simp) ?_; (case hd => rfl); (case hg => rfl); (case hr => first | (go_simp; done) | (go_simp; rfl)); (case hp => exact (Reps.none _ _)); intro v159 w3 ho3 hb hg_ hnew_; clear hg_ hnew_; have HO0 := Aside0.mk ho3; have HZ0 := Aside0.mk hb; clear hb ho3)
      clear hc
      go_loopw [5, 6] (fun v5 v6 w' => ∃ (j : Nat), j ≤ g.length ∧ v6 = .int .i64 (j : Int) ∧ Aside0 (Kd.R KI 3 w' wo.heap.size (fun _ => True) v5 ((radL g).take j)) ∧ Aside0 (Below wo.heap.size wo w')) (fun _ v6 _ => g.length - (intOf v6).toNat)
      case atStart => exact ⟨0, Nat.zero_le _, rfl, HO0, HZ0⟩
      case round =>
        clear HO0 HZ0
        obtain ⟨j, hj, rfl, HOO, HZ⟩ := hrel
        have x1 := pw_cell_below HZ.out HX.out
        have hg4 : g.length ≤ 4 := by have h_1 := HGL.out; have h_2 := HK.out; omega
        by_cases hjt : j < g.length
        · have hjtb : decide ((j : Int) < (g.length : Int)) = true := decide_eq_true (by omega)
          have hj0 : (0 : Int) ≤ (j : Int) := by omega
          have hj1 : (j : Int) < (g.length : Int) := by omega
          obtain ⟨bd, e, y1⟩ := Kd.at_int (Kd.C_below HC.out HZ.out) (j : Int) (by omega) (by omega)
          subst e
          rw [Int.toNat_natCast] at y1
          have HST2 : Aside0 ((radL g).take (j + 1) = (radL g).take j ++ [mn 1 (rd g (j : Int))]) := ⟨by
            have hql : j < (radL g).length := by unfold radL; rw [List.length_map]; exact hjt
            have e5 : (radL g)[j] = mn 1 g[j] := List.getElem_map _
            rw [List.take_succ_eq_append_getElem hql, rd_at g j hjt, e5]⟩
          have HOL2 : Aside0 (((radL g).take j).length ≤ 4) := ⟨by rw [List.length_take]; omega⟩
          obtain ⟨A5, c5, hu5⟩ := Kd.R_slice HOO.out
          subst hu5
          generalize hout2 : (radL g).take j = out2 at *
          clear hout2
          generalize hrv : rd g (j : Int) = rv at *
          clear hrv
          go_wp2_with ((with_reducible refine gate_builtin (b := .append) (xs := #[.tmp 24, .tmp 33]) rfl ?_); at_builtin; refine Kd.R_append KI (w0 := wo) wo.heap.size rfl (.tmp 24) (.tmp 33) 27 3 (.int .i64 0) 8 rfl Try.underlying27 Ga.info3 rfl (by decide) (by omega) (.slice A5 out2.length c5) out2 (mn 1 rv) [.int .i64 (mn 1 rv)] (fun _ => True) (fun _ => False) rfl rfl ?aP (fun _ hk => hk.elim) ?aF ?aO ?aB ?aS ?aL ?_; (case aP => exact rfl); (case aB => exact HZ.out); (case aF => exact (fun _ _ => trivial)); (case aO => exact HOO.out); (case aS => exact HZ.out.size); (case aL => have := HOL2.out; omega); intro v161 w11 ho hb hg hat; have HZ2 := Aside0.mk hb; have HO2 := Aside0.mk ho; clear ho hb hg hat)
          go_roundw
          case rel => exact ⟨j + 1, by omega, by go_num, ⟨by rw [HST2.out]; exact HO2.out⟩, HZ2⟩
          case measure => simp [intOf]; omega
        · have hjtb : decide ((j : Int) < (g.length : Int)) = false := decide_eq_false (by omega)
          rw [List.take_of_length_le (by unfold radL; rw [List.length_map]; omega)] at HOO
          obtain ⟨A5, c5, hu5⟩ := Kd.R_slice HOO.out
          subst hu5
          obtain ⟨A3, c3, hu3⟩ := Kd.R_slice HO.out
          subst hu3
          have HB2 := Aside0.mk (below_step HB.out HZ.out)
          have HO2 := Aside0.mk (Kd.R_below HO.out HZ.out)
          generalize radL g = row at *
          go_wp2_with ((with_reducible refine gate_builtin (b := .append) (xs := #[.tmp 35, .tmp 37]) rfl ?_); at_builtin; refine Kd.R_append KL (w0 := w) w.heap.size rfl (.tmp 35) (.tmp 37) 24 27 (.slice none 0 0) 24 rfl Try.underlying24 info27' rfl (by decide) (by omega) (.slice A3 out.length c3) out row [.slice A5 row.length c5] (fun _ => True) (fun k_ => wo.heap.size ≤ k_) rfl rfl ?aP ?aK (fun _ _ => trivial) ?aO ?aB ?aS ?aL ?_; (case aP => exact Kd.M_row (Kd.R_lower (Kd.R_mono (Kd.R_bound HOO.out) (fun k_ h_ => h_.2.1)) HB.out.size)); (case aK => exact (fun k_ h_ => ⟨trivial, fun e_ => by have := Kd.R_lt HO.out _ e_.symm; omega⟩)); (case aO => exact HO2.out); (case aB => exact HB2.out); (case aS => exact HB2.out.size); (case aL => have := HOL.out; omega); intro v1 w4 ho hb hg hat; have HO3 := Aside0.mk ho; have HB3 := Aside0.mk hb; clear ho hb hg hat)
          go_roundw
          case rel => exact ⟨i + 1, by have := HLT.out; omega, by go_num, ⟨by rw [HST.out]; exact HO3.out⟩, HB3⟩
          case measure => have := HLT.out; simp [intOf]; omega
    · have hltb : decide ((i : Int) < (xs.length : Int)) = false := decide_eq_false (by omega)
      obtain rfl : i = xs.length := by omega
      rw [List.take_length] at HO
      obtain ⟨A3, c3, e3, hc3, hC3⟩ := Kd.R_reads HO.out
      subst e3
      have HM := Aside0.mk (refMinimal_calls k HK.out.1 HK.out.2 A3 c3 (xs.map radL) wo hC3 (fun x hx => by obtain ⟨y, hy, rfl⟩ := List.mem_map.1 hx; unfold radL; rw [List.length_map]; exact HLN.out y hy) (by rw [List.length_map]; have := HL.out; omega))
      clear hC3 hc3
      generalize hys : xs.map radL = ys at *
      have HYS := Aside0.mk hys
      clear hys
      go_wp2_with (go_at_call 23; refine HM.out.mono ?_; rintro e w5 ⟨A9, c9, rfl, hc9, hC9, hb9⟩)
      go_ret
      rw [HYS.out]
      exact ⟨_, _, rfl, hc9, hC9, below_step HB.out hb9⟩
end Go.Proofs.Ytmekcfkfkpbfeaa.H
