/- The walk of wogglelaw04.PackRadical. -/
import Derived.Test.YtmekcfkfkpbfeaaHGens
import Derived.Test.YtmekcfkfkpbfeaaGa1
import Derived.Test.YtmekcfkfkpbfeaaGa2
import Derived.Test.YtmekcfkfkpbfeaaGa3
namespace Go.Proofs.Ytmekcfkfkpbfeaa.H
open Go.RowKit Go.Proofs.YtmekcfkfkpbfeaaW.PrintWords Go.Proofs.YtmekcfkfkpbfeaaW.PrintLast Go.Proofs.YtmekcfkfkpbfeaaW.PrintMore
open Go.Proofs.Ytmekcfkfkpbfeaa.Ga
attribute [local go_sem] max2_int min2_int max_two min_two max_three min_three max_four min_four
set_option linter.unusedVariables false
set_option linter.unusedSimpArgs false
set_option maxRecDepth 100000 in
set_option maxHeartbeats 16000000 in
theorem radical_walk (n : Int) (hn0 : 0 ≤ n) (hn1 : n ≤ 255) (A : Option Addr) (c : Nat) (xs : List M4) (y0 y1 y2 y3 : Int) (hy : B8 (y0, y1, y2, y3)) (w : World) (hr : Rows8 w A xs)
    (l : List (List Int)) (hl : madeL (n % 4 + 1) xs 12 = l) (m : List Int) (hm : toL (n % 4 + 1) (m7 (y0, y1, y2, y3)) = m) (hml : (m.length : Int) = n % 4 + 1) (hmy : ∀ y ∈ m, 0 ≤ y ∧ y ≤ 6) (g : List (List Int)) (is : Bool) (q : List Int) (hq : m.map (fun y => 7 * y) = q) (K17 K18 K20 : Nat)
    (h22 : pack_Radical.f (n % 4 + 1) l = some (g, 0)) (h22g : pack_Radical.f (n % 4 + 1) g = some (g, 0)) (h16 : pack_Has.f (n % 4 + 1) g m = some (is, 0))
    (h17 : woggleref01_SameLists.f K17 g g = some true) (h18 : woggleref04_Ideal.f K18 (n % 4 + 1) [g] = some 0) (h20 : woggleref04_Has.f K20 l q = some is) :
    Calls Try.prog 5 #[.int .u8 n, .slice A xs.length c, .agg #[.int .u8 y0, .int .u8 y1, .int .u8 y2, .int .u8 y3]] w fun e w' => e = .returned (.bool true) ∧ Below w.heap.size w w' := by
  subst hl
  subst hm
  have HK : Aside0 (1 ≤ n % 4 + 1 ∧ n % 4 + 1 ≤ 4) := ⟨by omega⟩
  have HY := Aside0.mk hy
  have HML := Aside0.mk hml
  have HMY := Aside0.mk hmy
  have HQ := Aside0.mk hq
  have H22 := Aside0.mk h22
  have H22g := Aside0.mk h22g
  have H16 := Aside0.mk h16
  have H17 := Aside0.mk h17
  have H18 := Aside0.mk h18
  have H20 := Aside0.mk h20
  have HBL : Aside0 (∀ W o, Below w.heap.size w W → Below w.heap.size w (W.alloc o)) := ⟨fun W o h => below_alloc h o⟩
  have HB0 := Aside0.mk (below_alloc (Below.refl w.heap.size w) (.cells #[.int .u8 y0, .int .u8 y1, .int .u8 y2, .int .u8 y3] 23))
  have L0_p := Aside0.mk (heap_alloc_new w (.cells #[.int .u8 y0, .int .u8 y1, .int .u8 y2, .int .u8 y3] 23))
  have L0_x := Aside0.mk (Rows8.alloc hr (.cells #[.int .u8 y0, .int .u8 y1, .int .u8 y2, .int .u8 y3] 23))
  clear hr hy h22 h22g h16 h17 h18 h20 hml hmy hq
  have T1 := Aside0.mk trivial
  go_enter Try.func5, Try.ntmps5
  go_wp2_with (first
    | (clear T1; have T2 := Aside0.mk trivial; go_at_call 13; refine (made_calls n hn0 hn1 A c xs 12 (by decide) _ L0_x.out).mono ?_; rintro e w1 ⟨A_l, c_l, rfl, hc_, hC_, hb⟩; have HB1 := Aside0.mk (below_step HB0.out hb); have L1_p := Aside0.mk (heap_below L0_p.out hb); have L1_l := Aside0.mk hC_; have N_l := Aside0.mk hc_; generalize hl_ : madeL (n % 4 + 1) xs 12 = l at *; have q0 := (blk_cell L1_p.out 0).trans rfl; have q1 := (blk_cell L1_p.out 1).trans rfl; have q2 := (blk_cell L1_p.out 2).trans rfl; have q3 := (blk_cell L1_p.out 3).trans rfl; clear hC_ hc_ hb)
    | (clear T2; have T3 := Aside0.mk trivial; go_at_call 14; refine (monomial_callsL (n % 4 + 1) HK.out.1 HK.out.2 (y0, y1, y2, y3) HY.out _).mono ?_; rintro e w2 ⟨A_m, c_m, rfl, hc_, hC_, hb⟩; have HB2 := Aside0.mk (below_step HB1.out hb); have L2_l := Aside0.mk (Kd.C_below L1_l.out hb); have L2_m := Aside0.mk hC_; have N_m := Aside0.mk hc_; generalize hm_ : toL (n % 4 + 1) (m7 (y0, y1, y2, y3)) = m at *; clear q0 q1 q2 q3; clear hC_ hc_ hb)
    | (clear T3; have T4 := Aside0.mk trivial; go_at_call 22; refine (pack_Radical.calls (n % 4 + 1) A_l c_l l g 0 _ L2_l.out N_l.out H22.out).mono ?_; rintro e w3 ⟨v_, rfl, ho, hb⟩; obtain ⟨A_g, c_g, e_, hc_, hC_⟩ := Kd.R_reads ho; subst e_; have HB3 := Aside0.mk (below_step HB2.out hb); have L3_l := Aside0.mk (Kd.C_below L2_l.out hb); have L3_m := Aside0.mk (Kd.C_below L2_m.out hb); have L3_g := Aside0.mk hC_; have N_g := Aside0.mk hc_; clear hC_ hc_ ho hb)
    | (clear T4; have T5 := Aside0.mk trivial; go_at_call 22; refine (pack_Radical.calls (n % 4 + 1) A_g c_g g g 0 _ L3_g.out N_g.out H22g.out).mono ?_; rintro e w4 ⟨v_, rfl, ho, hb⟩; obtain ⟨A_h, c_h, e_, hc_, hC_⟩ := Kd.R_reads ho; subst e_; have HB4 := Aside0.mk (below_step HB3.out hb); have L4_l := Aside0.mk (Kd.C_below L3_l.out hb); have L4_m := Aside0.mk (Kd.C_below L3_m.out hb); have L4_g := Aside0.mk (Kd.C_below L3_g.out hb); have L4_h := Aside0.mk hC_; have N_h := Aside0.mk hc_; clear hC_ hc_ ho hb)
    | (clear T5; have T6 := Aside0.mk trivial; go_at_call 17; refine (woggleref01_SameLists.calls K17 A_g c_g g A_h c_h g true _ L4_g.out N_g.out L4_h.out N_h.out H17.out).mono ?_; rintro e w5 ⟨rfl, hd⟩; have hb := hd.below; have HB5 := Aside0.mk (below_step HB4.out hb); have L5_l := Aside0.mk (Kd.C_below L4_l.out hb); have L5_m := Aside0.mk (Kd.C_below L4_m.out hb); have L5_g := Aside0.mk (Kd.C_below L4_g.out hb); clear hd hb)
    | (clear T6; have T7 := Aside0.mk trivial; go_at_call 18; refine (woggleref04_Ideal.calls K18 (n % 4 + 1) _ 1 [g] 0 _ (C_var1 L5_g.out N_g.out) (Nat.le_refl 1) H18.out).mono ?_; rintro e w6 ⟨rfl, hd⟩; have hb := hd.below; have HB6 := Aside0.mk (below_step (HBL.out _ _ HB5.out) hb); have L6_l := Aside0.mk (Kd.C_below (Kd.C_alloc L5_l.out _) hb); have L6_m := Aside0.mk (Kd.C_below (Kd.C_alloc L5_m.out _) hb); have L6_g := Aside0.mk (Kd.C_below (Kd.C_alloc L5_g.out _) hb); clear hd hb)
    | (clear T7; have T8 := Aside0.mk trivial; go_at_call 19; refine (lives_calls _).mono ?_; rintro e w7 ⟨rfl, hb⟩; have HB7 := Aside0.mk (below_step HB6.out hb); have L7_l := Aside0.mk (Kd.C_below L6_l.out hb); have L7_m := Aside0.mk (Kd.C_below L6_m.out hb); have L7_g := Aside0.mk (Kd.C_below L6_g.out hb); clear hb)
    | ((with_reducible refine gate_dst (N := 62) rfl ?_); refine Kd.R_lit KI _ 3 ?hg (N := 62) ?hd (xs := ([] : List Int)) (inner := []) (ok := fun _ => True) (okp := fun _ => True) ?hr ?hp (fun _ hk => hk) trivial (Below.refl _ _) (Nat.le_refl _) (by simp) ?_; (case hd => rfl); (case hg => rfl); (case hr => first | (go_simp; done) | (go_simp; rfl)); (case hp => exact (Reps.none _ _)); intro vz wz ho3 hb hg_ hnew_; clear hg_ hnew_; have HO0 := Aside0.mk ho3; have HZ0 := Aside0.mk hb; clear hb ho3))
  go_loopw [14, 15] (fun v14 v15 w' => ∃ (j : Nat), j ≤ m.length ∧ v15 = .int .i64 (j : Int) ∧ Aside0 (Kd.R KI 3 w' w7.heap.size (fun _ => True) v14 (q.take j)) ∧ Aside0 (Below w7.heap.size w7 w')) (fun _ v15 _ => m.length - (intOf v15).toNat)
  case atStart => exact ⟨0, Nat.zero_le _, rfl, HO0, HZ0⟩
  case round =>
    clear HO0 HZ0
    obtain ⟨j, hj, rfl, HO, HZ⟩ := hrel
    have hmk : (m.length : Int) = n % 4 + 1 := HML.out
    by_cases hlt : j < m.length
    · have hltb : decide ((j : Int) < n % 4 + 1) = true := decide_eq_true (by omega)
      have hj0 : (0 : Int) ≤ (j : Int) := by omega
      obtain ⟨ad, e, c0⟩ := Kd.at_int (Kd.C_below L7_m.out HZ.out) (j : Int) (by omega) (by omega)
      subst e
      rw [Int.toNat_natCast] at c0
      have hrd : rd m (j : Int) = m[j] := by
        unfold rd
        rw [Int.toNat_natCast, List.getD_eq_getElem?_getD, List.getElem?_eq_getElem hlt]
        rfl
      have hb7 := HMY.out m[j] (List.getElem_mem hlt)
      rw [← hrd] at hb7
      have HST : Aside0 (q.take (j + 1) = q.take j ++ [7 * rd m (j : Int)]) := ⟨by
        have hql : j < q.length := by rw [← HQ.out, List.length_map]; exact hlt
        rw [List.take_succ_eq_append_getElem hql]
        congr 2
        rw [hrd]
        simp [← HQ.out]⟩
      have HOL : Aside0 ((q.take j).length ≤ 4) := ⟨by rw [List.length_take]; have := HK.out; omega⟩
      obtain ⟨A14, c14, hu14⟩ := Kd.R_slice HO.out
      subst hu14
      generalize hout : q.take j = out at *
      clear hout hrd
      generalize hrv : rd m (j : Int) = rv at *
      obtain ⟨hb70, hb71⟩ := hb7
      have h7 : (wrap64 (7 * rv)) = 7 * rv := by unfold wrap64; omega
      go_wp2_with ((with_reducible refine gate_builtin (b := .append) (xs := #[.tmp 68, .tmp 74]) rfl ?_); at_builtin; refine Kd.R_append KI (w0 := w7) w7.heap.size rfl (.tmp 68) (.tmp 74) 27 3 (.int .i64 0) 8 rfl Try.underlying27 Ga.info3 rfl (by decide) (by omega) (.slice A14 out.length c14) out (7 * rv) [.int .i64 (7 * rv)] (fun _ => True) (fun _ => False) rfl rfl ?aP (fun _ hk => hk.elim) ?aF ?aO ?aB ?aS ?aL ?_; (case aP => exact rfl); (case aB => exact HZ.out); (case aF => exact (fun _ _ => trivial)); (case aO => exact HO.out); (case aS => exact HZ.out.size); (case aL => have := HOL.out; omega); intro v161 w11 ho hb hg hat; have HZ2 := Aside0.mk hb; have HO2 := Aside0.mk ho; clear ho hb hg hat)
      go_roundw
      case rel => exact ⟨j + 1, by omega, by go_num, ⟨by rw [HST.out]; exact HO2.out⟩, HZ2⟩
      case measure => simp [intOf]; omega
    · have hltb : decide ((j : Int) < n % 4 + 1) = false := decide_eq_false (by omega)
      obtain rfl : j = m.length := by omega
      rw [List.take_of_length_le (by rw [← HQ.out, List.length_map]; exact Nat.le_refl _)] at HO
      have M_l := Aside0.mk (Kd.C_below L7_l.out HZ.out)
      have M_m := Aside0.mk (Kd.C_below L7_m.out HZ.out)
      have M_g := Aside0.mk (Kd.C_below L7_g.out HZ.out)
      have HBM := Aside0.mk (below_step HB7.out HZ.out)
      obtain ⟨A_q, c_q, eq_, hcq, hCq⟩ := Kd.R_reads HO.out
      subst eq_
      have M_q := Aside0.mk hCq
      have N_q := Aside0.mk hcq
      clear hcq hCq HO
      go_wp2_with (first
    | (clear T8; have T9 := Aside0.mk trivial; go_at_call 16; refine (pack_Has.calls (n % 4 + 1) A_g c_g g A_m c_m m is 0 _ M_g.out N_g.out M_m.out N_m.out H16.out).mono ?_; rintro e w8 ⟨rfl, hb⟩; have HB8 := Aside0.mk (below_step HBM.out hb); have L8_l := Aside0.mk (Kd.C_below M_l.out hb); have L8_q := Aside0.mk (Kd.C_below M_q.out hb); clear hb)
    | (clear T9; have T10 := Aside0.mk trivial; go_at_call 20; refine (woggleref04_Has.calls K20 A_l c_l l A_q c_q q is _ L8_l.out N_l.out L8_q.out N_q.out H20.out).mono ?_; rintro e w9 ⟨rfl, hd⟩; have hb := hd.below; have HB9 := Aside0.mk (below_step HB8.out hb); clear hd hb))
      go_ret
      exact ⟨by simp, HB9.out⟩
end Go.Proofs.Ytmekcfkfkpbfeaa.H
