/- The walk of wogglelaw04.PackMinimals. -/
import Derived.Test.YtmekcfkfkpbfeaaHFew
import Derived.Test.YtmekcfkfkpbfeaaHGens
import Derived.Test.YtmekcfkfkpbfeaaGa1
import Derived.Test.YtmekcfkfkpbfeaaGa2
import Derived.Test.YtmekcfkfkpbfeaaGa3
namespace Go.Proofs.Ytmekcfkfkpbfeaa.H
open Go.RowKit Go.Proofs.YtmekcfkfkpbfeaaW.PrintWords Go.Proofs.YtmekcfkfkpbfeaaW.PrintLast Go.Proofs.YtmekcfkfkpbfeaaW.PrintMore
open Go.Proofs.Ytmekcfkfkpbfeaa.Ga
attribute [local go_sem] max2_int min2_int max_two min_two max_three min_three max_four min_four
set_option linter.unusedVariables false
set_option linter.unusedSimpArgs false
set_option maxRecDepth 100000 in
set_option maxHeartbeats 16000000 in
theorem minimals_bad (n : Int) (A : Option Addr) (c : Nat) (xs : List (List Int)) (w : World) (hr : Kd.C KL w A xs.length xs) (hc : xs.length ≤ c) (KL0 : Nat) (ys : List (List Int)) (hls : wogglelaw04_lists.f KL0 xs = some ys) (K18 : Nat) (E : Int) (he : E ≠ 0)
    (h15 : pack_Minimal.f n ys = some ([], E)) (h22 : pack_Radical.f n ys = some ([], E)) (h18 : woggleref04_Ideal.f K18 n [ys] = some E) :
    Calls Try.prog 4 #[.agg #[.int .i64 n, .slice A xs.length c]] w fun e w' => e = .returned (.bool true) ∧ Below w.heap.size w w' := by
  have heb : (E != 0) = true := bne_iff_ne.mpr he
  have H15 := Aside0.mk h15
  have H22 := Aside0.mk h22
  have H18 := Aside0.mk h18
  have HLS := Aside0.mk hls
  have HE := Aside0.mk he
  have HBL : Aside0 (∀ W o, Below w.heap.size w W → Below w.heap.size w (W.alloc o)) := ⟨fun W o h => below_alloc h o⟩
  have HB0 := Aside0.mk (below_alloc (Below.refl w.heap.size w) (.cells #[.int .i64 n, .slice A xs.length c] 40))
  have HP0 := Aside0.mk (heap_alloc_new w (.cells #[.int .i64 n, .slice A xs.length c] 40))
  have q0 := (blk_cell HP0.out 0).trans rfl
  have q1 := (blk_cell HP0.out 1).trans rfl
  have L0_x := Aside0.mk (Kd.C_alloc hr (.cells #[.int .i64 n, .slice A xs.length c] 40))
  have N_x := Aside0.mk hc
  clear hr hc hls h15 h22 h18 he
  have T1 := Aside0.mk trivial
  go_enter Try.func4, Try.ntmps4
  go_wp2_with (first
    | (clear T1; have T2 := Aside0.mk trivial; go_at_call 21; refine (few_calls n A c xs _ L0_x.out N_x.out KL0 ys HLS.out).mono ?_; rintro e w1 ⟨A_l, c_l, rfl, hc_, hC_, hb⟩; have HB1 := Aside0.mk (below_step HB0.out hb); have L1_l := Aside0.mk hC_; have N_l := Aside0.mk hc_; clear q0 q1; clear hC_ hc_ hb)
    | (clear T2; have T3 := Aside0.mk trivial; go_at_call 15; refine (pack_Minimal.calls n A_l c_l ys [] E _ L1_l.out N_l.out H15.out).mono ?_; rintro e w2 ⟨v_, rfl, ho, hb⟩; obtain ⟨A_g, c_g, e_, hc_, hC_⟩ := Kd.R_reads ho; subst e_; have HB2 := Aside0.mk (below_step HB1.out hb); have L2_l := Aside0.mk (Kd.C_below L1_l.out hb); have L2_g := Aside0.mk hC_; have N_g := Aside0.mk hc_; clear hC_ hc_ ho hb)
    | (clear T3; have T4 := Aside0.mk trivial; go_at_call 22; refine (pack_Radical.calls n A_l c_l ys [] E _ L2_l.out N_l.out H22.out).mono ?_; rintro e w3 ⟨v_, rfl, ho, hb⟩; obtain ⟨A_r, c_r, e_, hc_, hC_⟩ := Kd.R_reads ho; subst e_; have HB3 := Aside0.mk (below_step HB2.out hb); have L3_l := Aside0.mk (Kd.C_below L2_l.out hb); have L3_g := Aside0.mk (Kd.C_below L2_g.out hb); have L3_r := Aside0.mk hC_; have N_r := Aside0.mk hc_; clear hC_ hc_ ho hb)
    | (clear T4; have T5 := Aside0.mk trivial; go_at_call 18; refine (woggleref04_Ideal.calls K18 n _ 1 [ys] E _ (C_var1 L3_l.out N_l.out) (Nat.le_refl 1) H18.out).mono ?_; rintro e w4 ⟨rfl, hd⟩; have hb := hd.below; have HB4 := Aside0.mk (below_step (HBL.out _ _ HB3.out) hb); have L4_l := Aside0.mk (Kd.C_below (Kd.C_alloc L3_l.out _) hb); have L4_g := Aside0.mk (Kd.C_below (Kd.C_alloc L3_g.out _) hb); have L4_r := Aside0.mk (Kd.C_below (Kd.C_alloc L3_r.out _) hb); clear hd hb)
    | (clear T5; have T6 := Aside0.mk trivial; go_at_call 19; refine (lives_calls _).mono ?_; rintro e w5 ⟨rfl, hb⟩; have HB5 := Aside0.mk (below_step HB4.out hb); have L5_l := Aside0.mk (Kd.C_below L4_l.out hb); have L5_g := Aside0.mk (Kd.C_below L4_g.out hb); have L5_r := Aside0.mk (Kd.C_below L4_r.out hb); clear hb))
  go_ret
  exact ⟨by simp, HB5.out⟩
set_option maxRecDepth 100000 in
set_option maxHeartbeats 16000000 in
theorem minimals_good (n : Int) (A : Option Addr) (c : Nat) (xs : List (List Int)) (w : World) (hr : Kd.C KL w A xs.length xs) (hc : xs.length ≤ c) (KL0 : Nat) (ys : List (List Int)) (hls : wogglelaw04_lists.f KL0 xs = some ys) (K18 : Nat) (he : True) (g r : List (List Int)) (K17 K17r : Nat)
    (h15 : pack_Minimal.f n ys = some (g, 0)) (h22 : pack_Radical.f n ys = some (r, 0)) (h18 : woggleref04_Ideal.f K18 n [ys] = some 0)
    (h17 : woggleref01_SameLists.f K17 g g = some true) (h17r : woggleref01_SameLists.f K17r r r = some true)
    (hm : ∀ A c W, Kd.C KL W A ys.length ys → Calls Try.prog 23 #[.slice A ys.length c] W fun e w' => ∃ A1 c1, e = .returned (.slice A1 g.length c1) ∧ g.length ≤ c1 ∧ Kd.C KL w' A1 g.length g ∧ Below W.heap.size W w')
    (hn : ∀ A c W, Kd.C KL W A ys.length ys → Calls Try.prog 24 #[.slice A ys.length c] W fun e w' => ∃ A1 c1, e = .returned (.slice A1 r.length c1) ∧ r.length ≤ c1 ∧ Kd.C KL w' A1 r.length r ∧ Below W.heap.size W w') :
    Calls Try.prog 4 #[.agg #[.int .i64 n, .slice A xs.length c]] w fun e w' => e = .returned (.bool true) ∧ Below w.heap.size w w' := by
  have H15 := Aside0.mk h15
  have H22 := Aside0.mk h22
  have H18 := Aside0.mk h18
  have H17 := Aside0.mk h17
  have H17r := Aside0.mk h17r
  have HM := Aside0.mk hm
  have HN := Aside0.mk hn
  have HLS := Aside0.mk hls
  have HE := Aside0.mk he
  have HBL : Aside0 (∀ W o, Below w.heap.size w W → Below w.heap.size w (W.alloc o)) := ⟨fun W o h => below_alloc h o⟩
  have HB0 := Aside0.mk (below_alloc (Below.refl w.heap.size w) (.cells #[.int .i64 n, .slice A xs.length c] 40))
  have HP0 := Aside0.mk (heap_alloc_new w (.cells #[.int .i64 n, .slice A xs.length c] 40))
  have q0 := (blk_cell HP0.out 0).trans rfl
  have q1 := (blk_cell HP0.out 1).trans rfl
  have L0_x := Aside0.mk (Kd.C_alloc hr (.cells #[.int .i64 n, .slice A xs.length c] 40))
  have N_x := Aside0.mk hc
  clear hr hc hls h15 h22 h18 he h17 h17r hm hn
  have T1 := Aside0.mk trivial
  go_enter Try.func4, Try.ntmps4
  go_wp2_with (first
    | (clear T1; have T2 := Aside0.mk trivial; go_at_call 21; refine (few_calls n A c xs _ L0_x.out N_x.out KL0 ys HLS.out).mono ?_; rintro e w1 ⟨A_l, c_l, rfl, hc_, hC_, hb⟩; have HB1 := Aside0.mk (below_step HB0.out hb); have L1_l := Aside0.mk hC_; have N_l := Aside0.mk hc_; clear q0 q1; clear hC_ hc_ hb)
    | (clear T2; have T3 := Aside0.mk trivial; go_at_call 15; refine (pack_Minimal.calls n A_l c_l ys g 0 _ L1_l.out N_l.out H15.out).mono ?_; rintro e w2 ⟨v_, rfl, ho, hb⟩; obtain ⟨A_g, c_g, e_, hc_, hC_⟩ := Kd.R_reads ho; subst e_; have HB2 := Aside0.mk (below_step HB1.out hb); have L2_l := Aside0.mk (Kd.C_below L1_l.out hb); have L2_g := Aside0.mk hC_; have N_g := Aside0.mk hc_; clear hC_ hc_ ho hb)
    | (clear T3; have T4 := Aside0.mk trivial; go_at_call 22; refine (pack_Radical.calls n A_l c_l ys r 0 _ L2_l.out N_l.out H22.out).mono ?_; rintro e w3 ⟨v_, rfl, ho, hb⟩; obtain ⟨A_r, c_r, e_, hc_, hC_⟩ := Kd.R_reads ho; subst e_; have HB3 := Aside0.mk (below_step HB2.out hb); have L3_l := Aside0.mk (Kd.C_below L2_l.out hb); have L3_g := Aside0.mk (Kd.C_below L2_g.out hb); have L3_r := Aside0.mk hC_; have N_r := Aside0.mk hc_; clear hC_ hc_ ho hb)
    | (clear T4; have T5 := Aside0.mk trivial; go_at_call 18; refine (woggleref04_Ideal.calls K18 n _ 1 [ys] 0 _ (C_var1 L3_l.out N_l.out) (Nat.le_refl 1) H18.out).mono ?_; rintro e w4 ⟨rfl, hd⟩; have hb := hd.below; have HB4 := Aside0.mk (below_step (HBL.out _ _ HB3.out) hb); have L4_l := Aside0.mk (Kd.C_below (Kd.C_alloc L3_l.out _) hb); have L4_g := Aside0.mk (Kd.C_below (Kd.C_alloc L3_g.out _) hb); have L4_r := Aside0.mk (Kd.C_below (Kd.C_alloc L3_r.out _) hb); clear hd hb)
    | (clear T5; have T6 := Aside0.mk trivial; go_at_call 23; refine (HM.out A_l c_l _ L4_l.out).mono ?_; rintro e w5 ⟨A_p, c_p, rfl, hc_, hC_, hb⟩; have HB5 := Aside0.mk (below_step HB4.out hb); have L5_l := Aside0.mk (Kd.C_below L4_l.out hb); have L5_g := Aside0.mk (Kd.C_below L4_g.out hb); have L5_r := Aside0.mk (Kd.C_below L4_r.out hb); have L5_p := Aside0.mk hC_; have N_p := Aside0.mk hc_; clear hC_ hc_ hb)
    | (clear T6; have T7 := Aside0.mk trivial; go_at_call 17; refine (woggleref01_SameLists.calls K17 A_g c_g g A_p c_p g true _ L5_g.out N_g.out L5_p.out N_p.out H17.out).mono ?_; rintro e w6 ⟨rfl, hd⟩; have hb := hd.below; have HB6 := Aside0.mk (below_step HB5.out hb); have L6_l := Aside0.mk (Kd.C_below L5_l.out hb); have L6_g := Aside0.mk (Kd.C_below L5_g.out hb); have L6_r := Aside0.mk (Kd.C_below L5_r.out hb); have L6_p := Aside0.mk (Kd.C_below L5_p.out hb); clear hd hb)
    | (clear T7; have T8 := Aside0.mk trivial; go_at_call 24; refine (HN.out A_l c_l _ L6_l.out).mono ?_; rintro e w7 ⟨A_q, c_q, rfl, hc_, hC_, hb⟩; have HB7 := Aside0.mk (below_step HB6.out hb); have L7_l := Aside0.mk (Kd.C_below L6_l.out hb); have L7_g := Aside0.mk (Kd.C_below L6_g.out hb); have L7_r := Aside0.mk (Kd.C_below L6_r.out hb); have L7_p := Aside0.mk (Kd.C_below L6_p.out hb); have L7_q := Aside0.mk hC_; have N_q := Aside0.mk hc_; clear hC_ hc_ hb)
    | (clear T8; have T9 := Aside0.mk trivial; go_at_call 17; refine (woggleref01_SameLists.calls K17r A_r c_r r A_q c_q r true _ L7_r.out N_r.out L7_q.out N_q.out H17r.out).mono ?_; rintro e w8 ⟨rfl, hd⟩; have hb := hd.below; have HB8 := Aside0.mk (below_step HB7.out hb); have L8_l := Aside0.mk (Kd.C_below L7_l.out hb); have L8_g := Aside0.mk (Kd.C_below L7_g.out hb); have L8_r := Aside0.mk (Kd.C_below L7_r.out hb); have L8_p := Aside0.mk (Kd.C_below L7_p.out hb); have L8_q := Aside0.mk (Kd.C_below L7_q.out hb); clear hd hb)
    | (clear T9; have T10 := Aside0.mk trivial; go_at_call 19; refine (lives_calls _).mono ?_; rintro e w9 ⟨rfl, hb⟩; have HB9 := Aside0.mk (below_step HB8.out hb); have L9_l := Aside0.mk (Kd.C_below L8_l.out hb); have L9_g := Aside0.mk (Kd.C_below L8_g.out hb); have L9_r := Aside0.mk (Kd.C_below L8_r.out hb); have L9_p := Aside0.mk (Kd.C_below L8_p.out hb); have L9_q := Aside0.mk (Kd.C_below L8_q.out hb); clear hb))
  go_ret
  exact ⟨by simp, HB9.out⟩
end Go.Proofs.Ytmekcfkfkpbfeaa.H
