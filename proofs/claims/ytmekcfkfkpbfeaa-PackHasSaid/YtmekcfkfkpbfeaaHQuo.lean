/- The walk of wogglelaw04.PackQuotient. -/
import Derived.Test.YtmekcfkfkpbfeaaHGens
import Derived.Test.YtmekcfkfkpbfeaaGa1
import Derived.Test.YtmekcfkfkpbfeaaGa2
import Derived.Test.YtmekcfkfkpbfeaaGa3
namespace Go.Proofs.Ytmekcfkfkpbfeaa.H
open Go.RowKit Go.Proofs.YtmekcfkfkpbfeaaW.PrintWords Go.Proofs.YtmekcfkfkpbfeaaW.PrintLast Go.Proofs.YtmekcfkfkpbfeaaW.PrintMore
open Go.Proofs.Ytmekcfkfkpbfeaa.Ga
attribute [local go_sem] max2_int min2_int max_two min_two max_three min_three max_four min_four
set_option linter.unusedVariables false
set_option linter.unusedSimpArgs false
set_option maxRecDepth 100000 in
set_option maxHeartbeats 16000000 in
theorem quotient_walk (n : Int) (hn0 : 0 ≤ n) (hn1 : n ≤ 255) (A : Option Addr) (c : Nat) (xs : List M4) (y0 y1 y2 y3 z0 z1 z2 z3 : Int) (hy : B8 (y0, y1, y2, y3)) (hz : B8 (z0, z1, z2, z3)) (w : World) (hr : Rows8 w A xs)
    (l : List (List Int)) (hl : madeL (n % 4 + 1) xs 12 = l) (m : List Int) (hm : toL (n % 4 + 1) (m7 (y0, y1, y2, y3)) = m) (hml : (m.length : Int) = n % 4 + 1) (hmy : ∀ y ∈ m, 0 ≤ y ∧ y ≤ 6)
    (d : List Int) (hd : toL (n % 4 + 1) (m7 (z0, z1, z2, z3)) = d) (hdl : (d.length : Int) = n % 4 + 1) (hdy : ∀ y ∈ d, 0 ≤ y ∧ y ≤ 6) (g o : List (List Int)) (is : Bool) (q : List Int) (hq : List.zipWith (· + ·) m d = q) (zs : List Int) (hzs : List.replicate (n % 4 + 1).toNat 0 = zs) (K17 K18 K20 : Nat)
    (h31 : pack_Over.f (n % 4 + 1) l m = some (o, 0)) (h31z : pack_Over.f (n % 4 + 1) l zs = some (g, 0)) (h15 : pack_Minimal.f (n % 4 + 1) l = some (g, 0)) (h16 : pack_Has.f (n % 4 + 1) o d = some (is, 0))
    (h17 : woggleref01_SameLists.f K17 g g = some true) (h18 : woggleref04_Ideal.f K18 (n % 4 + 1) [o] = some 0) (h20 : woggleref04_Has.f K20 l q = some is) :
    Calls Try.prog 9 #[.int .u8 n, .slice A xs.length c, .agg #[.int .u8 y0, .int .u8 y1, .int .u8 y2, .int .u8 y3, .int .u8 z0, .int .u8 z1, .int .u8 z2, .int .u8 z3]] w fun e w' => e = .returned (.bool true) ∧ Below w.heap.size w w' := by
  subst hl
  subst hm
  subst hd
  have HK : Aside0 (1 ≤ n % 4 + 1 ∧ n % 4 + 1 ≤ 4) := ⟨by omega⟩
  have HY := Aside0.mk hy
  have HZZ := Aside0.mk hz
  have HML := Aside0.mk hml
  have HMY := Aside0.mk hmy
  have HDL := Aside0.mk hdl
  have HDY := Aside0.mk hdy
  have HQ := Aside0.mk hq
  have HZS := Aside0.mk hzs
  have H31 := Aside0.mk h31
  have H31z := Aside0.mk h31z
  have H15 := Aside0.mk h15
  have H16 := Aside0.mk h16
  have H17 := Aside0.mk h17
  have H18 := Aside0.mk h18
  have H20 := Aside0.mk h20
  have HBL : Aside0 (∀ W o, Below w.heap.size w W → Below w.heap.size w (W.alloc o)) := ⟨fun W o h => below_alloc h o⟩
  have HB0 := Aside0.mk (below_alloc (Below.refl w.heap.size w) (.cells #[.int .u8 y0, .int .u8 y1, .int .u8 y2, .int .u8 y3, .int .u8 z0, .int .u8 z1, .int .u8 z2, .int .u8 z3] 55))
  have L0_p := Aside0.mk (heap_alloc_new w (.cells #[.int .u8 y0, .int .u8 y1, .int .u8 y2, .int .u8 y3, .int .u8 z0, .int .u8 z1, .int .u8 z2, .int .u8 z3] 55))
  have L0_x := Aside0.mk (Rows8.alloc hr (.cells #[.int .u8 y0, .int .u8 y1, .int .u8 y2, .int .u8 y3, .int .u8 z0, .int .u8 z1, .int .u8 z2, .int .u8 z3] 55))
  clear hr hy hz hzs h31 h31z h15 h16 h17 h18 h20 hml hmy hdl hdy hq
  have T1 := Aside0.mk trivial
  go_enter Try.func9, Try.ntmps9
  go_wp2_with (first
    | (clear T1; have T2 := Aside0.mk trivial; go_at_call 13; refine (made_calls n hn0 hn1 A c xs 12 (by decide) _ L0_x.out).mono ?_; rintro e w1 ⟨A_l, c_l, rfl, hc_, hC_, hb⟩; have HB1 := Aside0.mk (below_step HB0.out hb); have L1_p := Aside0.mk (heap_below L0_p.out hb); have L1_l := Aside0.mk hC_; have N_l := Aside0.mk hc_; generalize hl_ : madeL (n % 4 + 1) xs 12 = l at *; have q0 := (blk_cell L1_p.out 0).trans rfl; have q1 := (blk_cell L1_p.out 1).trans rfl; have q2 := (blk_cell L1_p.out 2).trans rfl; have q3 := (blk_cell L1_p.out 3).trans rfl; have q4 := (blk_cell L1_p.out 4).trans rfl; have q5 := (blk_cell L1_p.out 5).trans rfl; have q6 := (blk_cell L1_p.out 6).trans rfl; have q7 := (blk_cell L1_p.out 7).trans rfl; clear hC_ hc_ hb))
  have HMM := Aside0.mk (fun W => monomial_callsL (n % 4 + 1) HK.out.1 HK.out.2 (y0, y1, y2, y3) HY.out W)
  have HDD := Aside0.mk (fun W => monomial_callsL (n % 4 + 1) HK.out.1 HK.out.2 (z0, z1, z2, z3) HZZ.out W)
  generalize hm_ : toL (n % 4 + 1) (m7 (y0, y1, y2, y3)) = m at *
  generalize hd_ : toL (n % 4 + 1) (m7 (z0, z1, z2, z3)) = d at *
  go_region_held3 (fun w' => w'.cell? ⟨w.heap.size, 0, none⟩ = some (.int .u8 y0) ∧ w'.cell? ⟨w.heap.size, 1, none⟩ = some (.int .u8 y1) ∧ w'.cell? ⟨w.heap.size, 2, none⟩ = some (.int .u8 y2) ∧ w'.cell? ⟨w.heap.size, 3, none⟩ = some (.int .u8 y3) ∧ w'.cell? ⟨w.heap.size, 4, none⟩ = some (.int .u8 z0) ∧ w'.cell? ⟨w.heap.size, 5, none⟩ = some (.int .u8 z1) ∧ w'.cell? ⟨w.heap.size, 6, none⟩ = some (.int .u8 z2) ∧ w'.cell? ⟨w.heap.size, 7, none⟩ = some (.int .u8 z3)) (first | go_keep | (exact ⟨pw_cell_below hb2 (pw_cell_below hb1 q0), pw_cell_below hb2 (pw_cell_below hb1 q1), pw_cell_below hb2 (pw_cell_below hb1 q2), pw_cell_below hb2 (pw_cell_below hb1 q3), pw_cell_below hb2 (pw_cell_below hb1 q4), pw_cell_below hb2 (pw_cell_below hb1 q5), pw_cell_below hb2 (pw_cell_below hb1 q6), pw_cell_below hb2 (pw_cell_below hb1 q7)⟩) | (exact ⟨pw_cell_below hb1 q0, pw_cell_below hb1 q1, pw_cell_below hb1 q2, pw_cell_below hb1 q3, pw_cell_below hb1 q4, pw_cell_below hb1 q5, pw_cell_below hb1 q6, pw_cell_below hb1 q7⟩) | (exact ⟨q0, q1, q2, q3, q4, q5, q6, q7⟩)) (first | (clear T2; have T3 := Aside0.mk trivial; go_at_call 14; refine (HMM.out _).mono ?_; rintro e w2 ⟨A_m, c_m, rfl, hcm, hCm, hb1⟩) | (clear T3; have T4 := Aside0.mk trivial; go_at_call 14; refine (HDD.out _).mono ?_; rintro e w3 ⟨A_d, c_d, rfl, hcd, hCd, hb2⟩))

  have HB3 := Aside0.mk (below_step (below_step HB1.out (below_undrew hb1)) hb2)
  have L3_l := Aside0.mk (Kd.C_below (Kd.C_below L1_l.out (below_undrew hb1)) hb2)
  have L3_m := Aside0.mk (Kd.C_below hCm hb2)
  have L3_d := Aside0.mk hCd
  have N_m := Aside0.mk hcm
  have N_d := Aside0.mk hcd
  clear q0 q1 q2 q3 q4 q5 q6 q7 hb1 hb2 hCm hCd hcm hcd HMM HDD hm_ hd_
  go_wp2_with (first
    | (clear T4; have T5 := Aside0.mk trivial; go_at_call 31; refine (pack_Over.calls (n % 4 + 1) A_l c_l l A_m c_m m o 0 _ L3_l.out N_l.out L3_m.out N_m.out H31.out).mono ?_; rintro e w4 ⟨v_, rfl, ho, hb⟩; obtain ⟨A_o, c_o, e_, hc_, hC_⟩ := Kd.R_reads ho; subst e_; have HB4 := Aside0.mk (below_step HB3.out hb); have L4_l := Aside0.mk (Kd.C_below L3_l.out hb); have L4_m := Aside0.mk (Kd.C_below L3_m.out hb); have L4_d := Aside0.mk (Kd.C_below L3_d.out hb); have L4_o := Aside0.mk hC_; have N_o := Aside0.mk hc_; clear hC_ hc_ ho hb)
    | ((with_reducible refine gate_dst (N := 46) rfl ?_); refine Kd.R_make KI _ 3 rfl (N := 46) rfl 27 _ _ rfl (n % 4 + 1) rfl rfl Try.underlying27 (.int .i64 0) 8 Ga.info3 rfl (by decide) (by omega) 0 (ok := fun _ => True) (okp := fun _ => True) rfl (fun _ hk => hk) trivial (by have := HK.out; omega) (by have := HK.out; omega) (Below.refl _ _) (Nat.le_refl _) ?_; intro v_ wm ho hb hg_ hnew_; clear hg_ hnew_; rw [HZS.out] at ho; obtain ⟨A_z, c_z, e_, hc_, hC_⟩ := Kd.R_reads ho; subst e_; have LM_z := Aside0.mk hC_; have N_z := Aside0.mk hc_; have HBM0 := Aside0.mk (below_step HB4.out hb); have LM_l := Aside0.mk (Kd.C_below L4_l.out hb); have LM_m := Aside0.mk (Kd.C_below L4_m.out hb); have LM_d := Aside0.mk (Kd.C_below L4_d.out hb); have LM_o := Aside0.mk (Kd.C_below L4_o.out hb); clear hC_ hc_ ho hb)
    | (clear T5; have T6 := Aside0.mk trivial; go_at_call 31; refine (pack_Over.calls (n % 4 + 1) A_l c_l l A_z c_z zs g 0 _ LM_l.out N_l.out LM_z.out N_z.out H31z.out).mono ?_; rintro e w5 ⟨v_, rfl, ho, hb⟩; obtain ⟨A_u, c_u, e_, hc_, hC_⟩ := Kd.R_reads ho; subst e_; have HB5 := Aside0.mk (below_step HBM0.out hb); have L5_l := Aside0.mk (Kd.C_below LM_l.out hb); have L5_m := Aside0.mk (Kd.C_below LM_m.out hb); have L5_d := Aside0.mk (Kd.C_below LM_d.out hb); have L5_o := Aside0.mk (Kd.C_below LM_o.out hb); have L5_u := Aside0.mk hC_; have N_u := Aside0.mk hc_; clear hC_ hc_ ho hb)
    | (clear T6; have T7 := Aside0.mk trivial; go_at_call 15; refine (pack_Minimal.calls (n % 4 + 1) A_l c_l l g 0 _ L5_l.out N_l.out H15.out).mono ?_; rintro e w6 ⟨v_, rfl, ho, hb⟩; obtain ⟨A_g, c_g, e_, hc_, hC_⟩ := Kd.R_reads ho; subst e_; have HB6 := Aside0.mk (below_step HB5.out hb); have L6_l := Aside0.mk (Kd.C_below L5_l.out hb); have L6_m := Aside0.mk (Kd.C_below L5_m.out hb); have L6_d := Aside0.mk (Kd.C_below L5_d.out hb); have L6_o := Aside0.mk (Kd.C_below L5_o.out hb); have L6_u := Aside0.mk (Kd.C_below L5_u.out hb); have L6_g := Aside0.mk hC_; have N_g := Aside0.mk hc_; clear hC_ hc_ ho hb)
    | (clear T7; have T8 := Aside0.mk trivial; go_at_call 17; refine (woggleref01_SameLists.calls K17 A_u c_u g A_g c_g g true _ L6_u.out N_u.out L6_g.out N_g.out H17.out).mono ?_; rintro e w7 ⟨rfl, hd⟩; have hb := hd.below; have HB7 := Aside0.mk (below_step HB6.out hb); have L7_l := Aside0.mk (Kd.C_below L6_l.out hb); have L7_m := Aside0.mk (Kd.C_below L6_m.out hb); have L7_d := Aside0.mk (Kd.C_below L6_d.out hb); have L7_o := Aside0.mk (Kd.C_below L6_o.out hb); clear hd hb)
    | (clear T8; have T9 := Aside0.mk trivial; go_at_call 18; refine (woggleref04_Ideal.calls K18 (n % 4 + 1) _ 1 [o] 0 _ (C_var1 L7_o.out N_o.out) (Nat.le_refl 1) H18.out).mono ?_; rintro e w8 ⟨rfl, hd⟩; have hb := hd.below; have HB8 := Aside0.mk (below_step (HBL.out _ _ HB7.out) hb); have L8_l := Aside0.mk (Kd.C_below (Kd.C_alloc L7_l.out _) hb); have L8_m := Aside0.mk (Kd.C_below (Kd.C_alloc L7_m.out _) hb); have L8_d := Aside0.mk (Kd.C_below (Kd.C_alloc L7_d.out _) hb); have L8_o := Aside0.mk (Kd.C_below (Kd.C_alloc L7_o.out _) hb); clear hd hb)
    | (clear T9; have T10 := Aside0.mk trivial; go_at_call 19; refine (lives_calls _).mono ?_; rintro e w9 ⟨rfl, hb⟩; have HB9 := Aside0.mk (below_step HB8.out hb); have L9_l := Aside0.mk (Kd.C_below L8_l.out hb); have L9_m := Aside0.mk (Kd.C_below L8_m.out hb); have L9_d := Aside0.mk (Kd.C_below L8_d.out hb); have L9_o := Aside0.mk (Kd.C_below L8_o.out hb); clear hb)
    | ((with_reducible refine gate_dst (N := 83) rfl ?_); refine Kd.R_lit KI _ 3 ?hg (N := 83) ?hd (xs := ([] : List Int)) (inner := []) (ok := fun _ => True) (okp := fun _ => True) ?hr ?hp (fun _ hk => hk) trivial (Below.refl _ _) (Nat.le_refl _) (by simp) ?_; (case hd => rfl); (case hg => rfl); (case hr => first | (go_simp; done) | (go_simp; rfl)); (case hp => exact (Reps.none _ _)); intro vz wz ho3 hb hg_ hnew_; clear hg_ hnew_; have HO0 := Aside0.mk ho3; have HZ0 := Aside0.mk hb; clear hb ho3))
  go_loopw [17, 18] (fun v17 v18 w' => ∃ (j : Nat), j ≤ m.length ∧ v18 = .int .i64 (j : Int) ∧ Aside0 (Kd.R KI 3 w' w9.heap.size (fun _ => True) v17 (q.take j)) ∧ Aside0 (Below w9.heap.size w9 w')) (fun _ v18 _ => m.length - (intOf v18).toNat)
  case atStart => exact ⟨0, Nat.zero_le _, rfl, HO0, HZ0⟩
  case round =>
    clear HO0 HZ0
    obtain ⟨j, hj, rfl, HO, HZ⟩ := hrel
    have hmk : (m.length : Int) = n % 4 + 1 := HML.out
    have hdk : (d.length : Int) = n % 4 + 1 := HDL.out
    have hql : q.length = m.length := by rw [← HQ.out, List.length_zipWith]; omega
    by_cases hlt : j < m.length
    · have hltb : decide ((j : Int) < n % 4 + 1) = true := decide_eq_true (by omega)
      have hj0 : (0 : Int) ≤ (j : Int) := by omega
      have hjd : j < d.length := by omega
      obtain ⟨ad, e, e0⟩ := Kd.at_int L9_m.out (j : Int) (by omega) (by omega)
      subst e
      obtain ⟨bd, e, e1⟩ := Kd.at_int L9_d.out (j : Int) (by omega) (by omega)
      subst e
      have c0 := pw_cell_below HZ.out e0
      have c1 := pw_cell_below HZ.out e1
      rw [Int.toNat_natCast] at c0 c1 e0 e1
      have hrd : rd m (j : Int) = m[j] := by
        unfold rd
        rw [Int.toNat_natCast, List.getD_eq_getElem?_getD, List.getElem?_eq_getElem hlt]
        rfl
      have hrd2 : rd d (j : Int) = d[j] := by
        unfold rd
        rw [Int.toNat_natCast, List.getD_eq_getElem?_getD, List.getElem?_eq_getElem hjd]
        rfl
      have hb7 := HMY.out m[j] (List.getElem_mem hlt)
      have hb8 := HDY.out d[j] (List.getElem_mem hjd)
      rw [← hrd] at hb7
      rw [← hrd2] at hb8
      have HST : Aside0 (q.take (j + 1) = q.take j ++ [rd m (j : Int) + rd d (j : Int)]) := ⟨by
        rw [List.take_succ_eq_append_getElem (by omega)]
        congr 2
        rw [hrd, hrd2]
        simp [← HQ.out]⟩
      have HOL : Aside0 ((q.take j).length ≤ 4) := ⟨by rw [List.length_take]; have := HK.out; omega⟩
      obtain ⟨A14, c14, hu14⟩ := Kd.R_slice HO.out
      subst hu14
      generalize hout : q.take j = out at *
      clear hout hrd hrd2
      generalize hrv : rd m (j : Int) = rv at *
      generalize hrv2 : rd d (j : Int) = rv2 at *
      obtain ⟨hb70, hb71⟩ := hb7
      obtain ⟨hb80, hb81⟩ := hb8
      have h7 : IntKind.i64.wrap (rv + rv2) = rv + rv2 := IntWalk.i64_in _ (by omega)
      have hdlt : (j : Int) < (d.length : Int) := by omega
      have hmlt : (j : Int) < (m.length : Int) := by omega
      go_wp2
      clear hmk hdk hltb
      go_region_held3 (fun w' => w'.cell? (ad.add j) = some (.int .i64 rv) ∧ w'.cell? (bd.add j) = some (.int .i64 rv2)) (first | (exact ⟨ck0, ck1⟩) | go_keep | (exact ⟨c0, c1⟩)) (first | (refine Kd.R_append_step KI (w0 := w9) (W := wr.drew) w9.heap.size ?h1 (.tmp 89) (.tmp 99) 27 3 (.int .i64 0) 8 ?h2 Try.underlying27 Ga.info3 rfl (by decide) (by omega) (.slice A14 out.length c14) out (rv + rv2) [.int .i64 (rv + rv2)] (fun _ => True) (fun _ => False) ?h3 ?h4 ?h5 (fun _ h => h.elim) (fun _ _ => trivial) ?h7 ?h8 ?h9 ?hA ?_; (case h1 => rfl); (case h2 => rfl); (case h3 => rfl); (case h4 => rfl); (case h5 => rfl); (case h7 => exact (Kd.R_drew HO.out)); (case h8 => exact (below_drew1 HZ.out)); (case h9 => exact HZ.out.size); (case hA => have := HOL.out; omega); intro v161 w11 ho hb hg hat; have ck0 := pw_cell_below hb e0; have ck1 := pw_cell_below hb e1))
      have hjs : (j : Int) ≤ 4 := by have h_1 := HK.out; have h_2 := HML.out; omega
      have HZ2 := Aside0.mk hb
      have HO2 := Aside0.mk ho
      clear ho hb hg hat c0 c1 e0 e1 ck0 ck1
      go_wp2
      go_roundw
      case rel => exact ⟨j + 1, by omega, by go_num, ⟨by rw [HST.out]; exact HO2.out⟩, HZ2⟩
      case measure => simp [intOf]; omega
    · have hltb : decide ((j : Int) < n % 4 + 1) = false := decide_eq_false (by omega)
      obtain rfl : j = m.length := by omega
      rw [List.take_of_length_le (by omega)] at HO
      have M_l := Aside0.mk (Kd.C_below L9_l.out HZ.out)
      have M_m := Aside0.mk (Kd.C_below L9_m.out HZ.out)
      have M_d := Aside0.mk (Kd.C_below L9_d.out HZ.out)
      have M_o := Aside0.mk (Kd.C_below L9_o.out HZ.out)
      have HBM := Aside0.mk (below_step HB9.out HZ.out)
      obtain ⟨A_q, c_q, eq_, hcq, hCq⟩ := Kd.R_reads HO.out
      subst eq_
      have M_q := Aside0.mk hCq
      have N_q := Aside0.mk hcq
      clear hcq hCq HO hql hmk hdk
      go_wp2_with (first
    | (clear T10; have T11 := Aside0.mk trivial; go_at_call 16; refine (pack_Has.calls (n % 4 + 1) A_o c_o o A_d c_d d is 0 _ M_o.out N_o.out M_d.out N_d.out H16.out).mono ?_; rintro e w10 ⟨rfl, hb⟩; have HB10 := Aside0.mk (below_step HBM.out hb); have L10_l := Aside0.mk (Kd.C_below M_l.out hb); have L10_q := Aside0.mk (Kd.C_below M_q.out hb); clear hb)
    | (clear T11; have T12 := Aside0.mk trivial; go_at_call 20; refine (woggleref04_Has.calls K20 A_l c_l l A_q c_q q is _ L10_l.out N_l.out L10_q.out N_q.out H20.out).mono ?_; rintro e w11 ⟨rfl, hd⟩; have hb := hd.below; have HB11 := Aside0.mk (below_step HB10.out hb); clear hd hb))
      go_ret
      exact ⟨by simp, HB11.out⟩
end Go.Proofs.Ytmekcfkfkpbfeaa.H
