/- The walk of wogglelaw04.PackHas. -/
import Derived.Test.YtmekcfkfkpbfeaaHFew
import Derived.Test.YtmekcfkfkpbfeaaHRefOver
import Derived.Test.YtmekcfkfkpbfeaaHGens
import Derived.Test.YtmekcfkfkpbfeaaGa1
import Derived.Test.YtmekcfkfkpbfeaaGa2
import Derived.Test.YtmekcfkfkpbfeaaGa3
namespace Go.Proofs.Ytmekcfkfkpbfeaa.H
open Go.RowKit Go.Proofs.YtmekcfkfkpbfeaaW.PrintWords Go.Proofs.YtmekcfkfkpbfeaaW.PrintLast Go.Proofs.YtmekcfkfkpbfeaaW.PrintMore
open Go.Proofs.Ytmekcfkfkpbfeaa.Ga
attribute [local go_sem] max2_int min2_int max_two min_two max_three min_three max_four min_four
set_option linter.unusedVariables false
set_option linter.unusedSimpArgs false
set_option maxRecDepth 100000 in
set_option maxHeartbeats 16000000 in
theorem has_bad (n : Int) (A : Option Addr) (c : Nat) (xs : List (List Int)) (A1 : Option Addr) (c1 : Nat) (y : List Int) (w : World) (hr : Kd.C KL w A xs.length xs) (hc : xs.length ≤ c) (hy : Kd.C KI w A1 y.length y) (hcy : y.length ≤ c1) (KL0 : Nat) (ys : List (List Int)) (hls : wogglelaw04_lists.f KL0 xs = some ys) (m : List Int) (hcu : wogglelaw04_cut.f y = some m) (K18 : Nat) (E : Int) (he : E ≠ 0)
    (h16 : pack_Has.f n ys m = some (false, E)) (h31 : pack_Over.f n ys m = some ([], E)) (h18 : woggleref04_Ideal.f K18 n [ys] = some E) :
    Calls Try.prog 8 #[.agg #[.int .i64 n, .slice A xs.length c], .slice A1 y.length c1] w fun e w' => e = .returned (.bool true) ∧ Below w.heap.size w w' := by
  have heb : (E != 0) = true := bne_iff_ne.mpr he
  have hec : (E == 0) = false := beq_eq_false_iff_ne.mpr he
  have H16 := Aside0.mk h16
  have H31 := Aside0.mk h31
  have H18 := Aside0.mk h18
  have HLS := Aside0.mk hls
  have HCU := Aside0.mk hcu
  have HBL : Aside0 (∀ W o, Below w.heap.size w W → Below w.heap.size w (W.alloc o)) := ⟨fun W o h => below_alloc h o⟩
  have HB0 := Aside0.mk (below_alloc (Below.refl w.heap.size w) (.cells #[.int .i64 n, .slice A xs.length c] 40))
  have HP0 := Aside0.mk (heap_alloc_new w (.cells #[.int .i64 n, .slice A xs.length c] 40))
  have q0 := (blk_cell HP0.out 0).trans rfl
  have q1 := (blk_cell HP0.out 1).trans rfl
  have L0_x := Aside0.mk (Kd.C_alloc hr (.cells #[.int .i64 n, .slice A xs.length c] 40))
  have L0_y := Aside0.mk (Kd.C_alloc hy (.cells #[.int .i64 n, .slice A xs.length c] 40))
  have N_x := Aside0.mk hc
  have N_y := Aside0.mk hcy
  clear hr hc hy hcy hls hcu h16 h31 h18 he
  have T1 := Aside0.mk trivial
  go_enter Try.func8, Try.ntmps8
  go_wp2_with (first
    | (clear T1; have T2 := Aside0.mk trivial; go_at_call 21; refine (few_calls n A c xs _ L0_x.out N_x.out KL0 ys HLS.out).mono ?_; rintro e w1 ⟨A_l, c_l, rfl, hc_, hC_, hb⟩; have HB1 := Aside0.mk (below_step HB0.out hb); have L1_y := Aside0.mk (Kd.C_below L0_y.out hb); have L1_l := Aside0.mk hC_; have N_l := Aside0.mk hc_; clear q0 q1; clear hC_ hc_ hb)
    | (clear T2; have T3 := Aside0.mk trivial; go_at_call 30; refine (wogglelaw04_cut.calls A1 c1 y m _ L1_y.out N_y.out HCU.out).mono ?_; rintro e w2 ⟨v_, rfl, ho, hb⟩; obtain ⟨A_m, c_m, e_, hc_, hC_⟩ := Kd.R_reads ho; subst e_; have HB2 := Aside0.mk (below_step HB1.out hb); have L2_l := Aside0.mk (Kd.C_below L1_l.out hb); have L2_m := Aside0.mk hC_; have N_m := Aside0.mk hc_; clear hC_ hc_ ho hb)
    | (clear T3; have T4 := Aside0.mk trivial; go_at_call 16; refine (pack_Has.calls n A_l c_l ys A_m c_m m false E _ L2_l.out N_l.out L2_m.out N_m.out H16.out).mono ?_; rintro e w3 ⟨rfl, hb⟩; have HB3 := Aside0.mk (below_step HB2.out hb); have L3_l := Aside0.mk (Kd.C_below L2_l.out hb); have L3_m := Aside0.mk (Kd.C_below L2_m.out hb); clear hb)
    | (clear T4; have T5 := Aside0.mk trivial; go_at_call 31; refine (pack_Over.calls n A_l c_l ys A_m c_m m [] E _ L3_l.out N_l.out L3_m.out N_m.out H31.out).mono ?_; rintro e w4 ⟨v_, rfl, ho, hb⟩; obtain ⟨A_o, c_o, e_, hc_, hC_⟩ := Kd.R_reads ho; subst e_; have HB4 := Aside0.mk (below_step HB3.out hb); have L4_l := Aside0.mk (Kd.C_below L3_l.out hb); have L4_m := Aside0.mk (Kd.C_below L3_m.out hb); have L4_o := Aside0.mk hC_; have N_o := Aside0.mk hc_; clear hC_ hc_ ho hb)
    | (clear T5; have T6 := Aside0.mk trivial; go_at_call 18; refine (woggleref04_Ideal.calls K18 n _ 1 [ys] E _ (C_var1 L4_l.out N_l.out) (Nat.le_refl 1) H18.out).mono ?_; rintro e w5 ⟨rfl, hd⟩; have hb := hd.below; have HB5 := Aside0.mk (below_step (HBL.out _ _ HB4.out) hb); have L5_l := Aside0.mk (Kd.C_below (Kd.C_alloc L4_l.out _) hb); have L5_m := Aside0.mk (Kd.C_below (Kd.C_alloc L4_m.out _) hb); have L5_o := Aside0.mk (Kd.C_below (Kd.C_alloc L4_o.out _) hb); clear hd hb)
    | (clear T6; have T7 := Aside0.mk trivial; go_at_call 19; refine (lives_calls _).mono ?_; rintro e w6 ⟨rfl, hb⟩; have HB6 := Aside0.mk (below_step HB5.out hb); have L6_l := Aside0.mk (Kd.C_below L5_l.out hb); have L6_m := Aside0.mk (Kd.C_below L5_m.out hb); have L6_o := Aside0.mk (Kd.C_below L5_o.out hb); clear hb))
  go_ret
  exact ⟨by simp, HB6.out⟩
set_option maxRecDepth 100000 in
set_option maxHeartbeats 16000000 in
theorem has_mono (n : Int) (A : Option Addr) (c : Nat) (xs : List (List Int)) (A1 : Option Addr) (c1 : Nat) (y : List Int) (w : World) (hr : Kd.C KL w A xs.length xs) (hc : xs.length ≤ c) (hy : Kd.C KI w A1 y.length y) (hcy : y.length ≤ c1) (KL0 : Nat) (ys : List (List Int)) (hls : wogglelaw04_lists.f KL0 xs = some ys) (m : List Int) (hcu : wogglelaw04_cut.f y = some m) (K18 : Nat) (K32 : Nat)
    (h16 : pack_Has.f n ys m = some (false, 1)) (h31 : pack_Over.f n ys m = some ([], 1)) (h18 : woggleref04_Ideal.f K18 n [ys] = some 0) (h32 : woggleref04_Monomial.f K32 n m = some false) :
    Calls Try.prog 8 #[.agg #[.int .i64 n, .slice A xs.length c], .slice A1 y.length c1] w fun e w' => e = .returned (.bool true) ∧ Below w.heap.size w w' := by
  have H16 := Aside0.mk h16
  have H31 := Aside0.mk h31
  have H18 := Aside0.mk h18
  have H32 := Aside0.mk h32
  have HLS := Aside0.mk hls
  have HCU := Aside0.mk hcu
  have HBL : Aside0 (∀ W o, Below w.heap.size w W → Below w.heap.size w (W.alloc o)) := ⟨fun W o h => below_alloc h o⟩
  have HB0 := Aside0.mk (below_alloc (Below.refl w.heap.size w) (.cells #[.int .i64 n, .slice A xs.length c] 40))
  have HP0 := Aside0.mk (heap_alloc_new w (.cells #[.int .i64 n, .slice A xs.length c] 40))
  have q0 := (blk_cell HP0.out 0).trans rfl
  have q1 := (blk_cell HP0.out 1).trans rfl
  have L0_x := Aside0.mk (Kd.C_alloc hr (.cells #[.int .i64 n, .slice A xs.length c] 40))
  have L0_y := Aside0.mk (Kd.C_alloc hy (.cells #[.int .i64 n, .slice A xs.length c] 40))
  have N_x := Aside0.mk hc
  have N_y := Aside0.mk hcy
  clear hr hc hy hcy hls hcu h16 h31 h18 h32
  have T1 := Aside0.mk trivial
  go_enter Try.func8, Try.ntmps8
  go_wp2_with (first
    | (clear T1; have T2 := Aside0.mk trivial; go_at_call 21; refine (few_calls n A c xs _ L0_x.out N_x.out KL0 ys HLS.out).mono ?_; rintro e w1 ⟨A_l, c_l, rfl, hc_, hC_, hb⟩; have HB1 := Aside0.mk (below_step HB0.out hb); have L1_y := Aside0.mk (Kd.C_below L0_y.out hb); have L1_l := Aside0.mk hC_; have N_l := Aside0.mk hc_; clear q0 q1; clear hC_ hc_ hb)
    | (clear T2; have T3 := Aside0.mk trivial; go_at_call 30; refine (wogglelaw04_cut.calls A1 c1 y m _ L1_y.out N_y.out HCU.out).mono ?_; rintro e w2 ⟨v_, rfl, ho, hb⟩; obtain ⟨A_m, c_m, e_, hc_, hC_⟩ := Kd.R_reads ho; subst e_; have HB2 := Aside0.mk (below_step HB1.out hb); have L2_l := Aside0.mk (Kd.C_below L1_l.out hb); have L2_m := Aside0.mk hC_; have N_m := Aside0.mk hc_; clear hC_ hc_ ho hb)
    | (clear T3; have T4 := Aside0.mk trivial; go_at_call 16; refine (pack_Has.calls n A_l c_l ys A_m c_m m false 1 _ L2_l.out N_l.out L2_m.out N_m.out H16.out).mono ?_; rintro e w3 ⟨rfl, hb⟩; have HB3 := Aside0.mk (below_step HB2.out hb); have L3_l := Aside0.mk (Kd.C_below L2_l.out hb); have L3_m := Aside0.mk (Kd.C_below L2_m.out hb); clear hb)
    | (clear T4; have T5 := Aside0.mk trivial; go_at_call 31; refine (pack_Over.calls n A_l c_l ys A_m c_m m [] 1 _ L3_l.out N_l.out L3_m.out N_m.out H31.out).mono ?_; rintro e w4 ⟨v_, rfl, ho, hb⟩; obtain ⟨A_o, c_o, e_, hc_, hC_⟩ := Kd.R_reads ho; subst e_; have HB4 := Aside0.mk (below_step HB3.out hb); have L4_l := Aside0.mk (Kd.C_below L3_l.out hb); have L4_m := Aside0.mk (Kd.C_below L3_m.out hb); have L4_o := Aside0.mk hC_; have N_o := Aside0.mk hc_; clear hC_ hc_ ho hb)
    | (clear T5; have T6 := Aside0.mk trivial; go_at_call 18; refine (woggleref04_Ideal.calls K18 n _ 1 [ys] 0 _ (C_var1 L4_l.out N_l.out) (Nat.le_refl 1) H18.out).mono ?_; rintro e w5 ⟨rfl, hd⟩; have hb := hd.below; have HB5 := Aside0.mk (below_step (HBL.out _ _ HB4.out) hb); have L5_l := Aside0.mk (Kd.C_below (Kd.C_alloc L4_l.out _) hb); have L5_m := Aside0.mk (Kd.C_below (Kd.C_alloc L4_m.out _) hb); have L5_o := Aside0.mk (Kd.C_below (Kd.C_alloc L4_o.out _) hb); clear hd hb)
    | (clear T6; have T7 := Aside0.mk trivial; go_at_call 32; refine (woggleref04_Monomial.calls K32 n A_m c_m m false _ L5_m.out N_m.out H32.out).mono ?_; rintro e w6 ⟨rfl, hd⟩; have hb := hd.below; have HB6 := Aside0.mk (below_step HB5.out hb); have L6_l := Aside0.mk (Kd.C_below L5_l.out hb); have L6_m := Aside0.mk (Kd.C_below L5_m.out hb); have L6_o := Aside0.mk (Kd.C_below L5_o.out hb); clear hd hb)
    | (clear T7; have T8 := Aside0.mk trivial; go_at_call 19; refine (lives_calls _).mono ?_; rintro e w7 ⟨rfl, hb⟩; have HB7 := Aside0.mk (below_step HB6.out hb); have L7_l := Aside0.mk (Kd.C_below L6_l.out hb); have L7_m := Aside0.mk (Kd.C_below L6_m.out hb); have L7_o := Aside0.mk (Kd.C_below L6_o.out hb); clear hb))
  go_ret
  exact ⟨by simp, HB7.out⟩
set_option maxRecDepth 100000 in
set_option maxHeartbeats 16000000 in
theorem has_good (n : Int) (A : Option Addr) (c : Nat) (xs : List (List Int)) (A1 : Option Addr) (c1 : Nat) (y : List Int) (w : World) (hr : Kd.C KL w A xs.length xs) (hc : xs.length ≤ c) (hy : Kd.C KI w A1 y.length y) (hcy : y.length ≤ c1) (KL0 : Nat) (ys : List (List Int)) (hls : wogglelaw04_lists.f KL0 xs = some ys) (m : List Int) (hcu : wogglelaw04_cut.f y = some m) (K18 : Nat) (K32 K20 K17 : Nat) (is : Bool) (o : List (List Int))
    (h16 : pack_Has.f n ys m = some (is, 0)) (h31 : pack_Over.f n ys m = some (o, 0)) (h18 : woggleref04_Ideal.f K18 n [ys] = some 0) (h32 : woggleref04_Monomial.f K32 n m = some true)
    (h20 : woggleref04_Has.f K20 ys m = some is) (h17 : woggleref01_SameLists.f K17 o o = some true)
    (hv : ∀ A c A1 c1 W, Kd.C KL W A ys.length ys → Kd.C KI W A1 m.length m → Calls Try.prog 33 #[.slice A ys.length c, .slice A1 m.length c1] W fun e w' => ∃ A1 c1, e = .returned (.slice A1 o.length c1) ∧ o.length ≤ c1 ∧ Kd.C KL w' A1 o.length o ∧ Below W.heap.size W w') :
    Calls Try.prog 8 #[.agg #[.int .i64 n, .slice A xs.length c], .slice A1 y.length c1] w fun e w' => e = .returned (.bool true) ∧ Below w.heap.size w w' := by
  have H16 := Aside0.mk h16
  have H31 := Aside0.mk h31
  have H18 := Aside0.mk h18
  have H32 := Aside0.mk h32
  have H20 := Aside0.mk h20
  have H17 := Aside0.mk h17
  have HV := Aside0.mk hv
  have HLS := Aside0.mk hls
  have HCU := Aside0.mk hcu
  have HBL : Aside0 (∀ W o, Below w.heap.size w W → Below w.heap.size w (W.alloc o)) := ⟨fun W o h => below_alloc h o⟩
  have HB0 := Aside0.mk (below_alloc (Below.refl w.heap.size w) (.cells #[.int .i64 n, .slice A xs.length c] 40))
  have HP0 := Aside0.mk (heap_alloc_new w (.cells #[.int .i64 n, .slice A xs.length c] 40))
  have q0 := (blk_cell HP0.out 0).trans rfl
  have q1 := (blk_cell HP0.out 1).trans rfl
  have L0_x := Aside0.mk (Kd.C_alloc hr (.cells #[.int .i64 n, .slice A xs.length c] 40))
  have L0_y := Aside0.mk (Kd.C_alloc hy (.cells #[.int .i64 n, .slice A xs.length c] 40))
  have N_x := Aside0.mk hc
  have N_y := Aside0.mk hcy
  clear hr hc hy hcy hls hcu h16 h31 h18 h32 h20 h17 hv
  have T1 := Aside0.mk trivial
  go_enter Try.func8, Try.ntmps8
  go_wp2_with (first
    | (clear T1; have T2 := Aside0.mk trivial; go_at_call 21; refine (few_calls n A c xs _ L0_x.out N_x.out KL0 ys HLS.out).mono ?_; rintro e w1 ⟨A_l, c_l, rfl, hc_, hC_, hb⟩; have HB1 := Aside0.mk (below_step HB0.out hb); have L1_y := Aside0.mk (Kd.C_below L0_y.out hb); have L1_l := Aside0.mk hC_; have N_l := Aside0.mk hc_; clear q0 q1; clear hC_ hc_ hb)
    | (clear T2; have T3 := Aside0.mk trivial; go_at_call 30; refine (wogglelaw04_cut.calls A1 c1 y m _ L1_y.out N_y.out HCU.out).mono ?_; rintro e w2 ⟨v_, rfl, ho, hb⟩; obtain ⟨A_m, c_m, e_, hc_, hC_⟩ := Kd.R_reads ho; subst e_; have HB2 := Aside0.mk (below_step HB1.out hb); have L2_l := Aside0.mk (Kd.C_below L1_l.out hb); have L2_m := Aside0.mk hC_; have N_m := Aside0.mk hc_; clear hC_ hc_ ho hb)
    | (clear T3; have T4 := Aside0.mk trivial; go_at_call 16; refine (pack_Has.calls n A_l c_l ys A_m c_m m is 0 _ L2_l.out N_l.out L2_m.out N_m.out H16.out).mono ?_; rintro e w3 ⟨rfl, hb⟩; have HB3 := Aside0.mk (below_step HB2.out hb); have L3_l := Aside0.mk (Kd.C_below L2_l.out hb); have L3_m := Aside0.mk (Kd.C_below L2_m.out hb); clear hb)
    | (clear T4; have T5 := Aside0.mk trivial; go_at_call 31; refine (pack_Over.calls n A_l c_l ys A_m c_m m o 0 _ L3_l.out N_l.out L3_m.out N_m.out H31.out).mono ?_; rintro e w4 ⟨v_, rfl, ho, hb⟩; obtain ⟨A_o, c_o, e_, hc_, hC_⟩ := Kd.R_reads ho; subst e_; have HB4 := Aside0.mk (below_step HB3.out hb); have L4_l := Aside0.mk (Kd.C_below L3_l.out hb); have L4_m := Aside0.mk (Kd.C_below L3_m.out hb); have L4_o := Aside0.mk hC_; have N_o := Aside0.mk hc_; clear hC_ hc_ ho hb)
    | (clear T5; have T6 := Aside0.mk trivial; go_at_call 18; refine (woggleref04_Ideal.calls K18 n _ 1 [ys] 0 _ (C_var1 L4_l.out N_l.out) (Nat.le_refl 1) H18.out).mono ?_; rintro e w5 ⟨rfl, hd⟩; have hb := hd.below; have HB5 := Aside0.mk (below_step (HBL.out _ _ HB4.out) hb); have L5_l := Aside0.mk (Kd.C_below (Kd.C_alloc L4_l.out _) hb); have L5_m := Aside0.mk (Kd.C_below (Kd.C_alloc L4_m.out _) hb); have L5_o := Aside0.mk (Kd.C_below (Kd.C_alloc L4_o.out _) hb); clear hd hb)
    | (clear T6; have T7 := Aside0.mk trivial; go_at_call 32; refine (woggleref04_Monomial.calls K32 n A_m c_m m true _ L5_m.out N_m.out H32.out).mono ?_; rintro e w6 ⟨rfl, hd⟩; have hb := hd.below; have HB6 := Aside0.mk (below_step HB5.out hb); have L6_l := Aside0.mk (Kd.C_below L5_l.out hb); have L6_m := Aside0.mk (Kd.C_below L5_m.out hb); have L6_o := Aside0.mk (Kd.C_below L5_o.out hb); clear hd hb)
    | (clear T7; have T8 := Aside0.mk trivial; go_at_call 20; refine (woggleref04_Has.calls K20 A_l c_l ys A_m c_m m is _ L6_l.out N_l.out L6_m.out N_m.out H20.out).mono ?_; rintro e w7 ⟨rfl, hd⟩; have hb := hd.below; have HB7 := Aside0.mk (below_step HB6.out hb); have L7_l := Aside0.mk (Kd.C_below L6_l.out hb); have L7_m := Aside0.mk (Kd.C_below L6_m.out hb); have L7_o := Aside0.mk (Kd.C_below L6_o.out hb); clear hd hb)
    | (clear T8; have T9 := Aside0.mk trivial; go_at_call 33; refine (HV.out A_l c_l A_m c_m _ L7_l.out L7_m.out).mono ?_; rintro e w8 ⟨A_p, c_p, rfl, hc_, hC_, hb⟩; have HB8 := Aside0.mk (below_step HB7.out hb); have L8_l := Aside0.mk (Kd.C_below L7_l.out hb); have L8_m := Aside0.mk (Kd.C_below L7_m.out hb); have L8_o := Aside0.mk (Kd.C_below L7_o.out hb); have L8_p := Aside0.mk hC_; have N_p := Aside0.mk hc_; clear hC_ hc_ hb)
    | (clear T9; have T10 := Aside0.mk trivial; go_at_call 17; refine (woggleref01_SameLists.calls K17 A_o c_o o A_p c_p o true _ L8_o.out N_o.out L8_p.out N_p.out H17.out).mono ?_; rintro e w9 ⟨rfl, hd⟩; have hb := hd.below; have HB9 := Aside0.mk (below_step HB8.out hb); have L9_l := Aside0.mk (Kd.C_below L8_l.out hb); have L9_m := Aside0.mk (Kd.C_below L8_m.out hb); have L9_o := Aside0.mk (Kd.C_below L8_o.out hb); have L9_p := Aside0.mk (Kd.C_below L8_p.out hb); clear hd hb)
    | (clear T10; have T11 := Aside0.mk trivial; go_at_call 19; refine (lives_calls _).mono ?_; rintro e w10 ⟨rfl, hb⟩; have HB10 := Aside0.mk (below_step HB9.out hb); have L10_l := Aside0.mk (Kd.C_below L9_l.out hb); have L10_m := Aside0.mk (Kd.C_below L9_m.out hb); have L10_o := Aside0.mk (Kd.C_below L9_o.out hb); have L10_p := Aside0.mk (Kd.C_below L9_p.out hb); clear hb))
  go_ret
  exact ⟨by simp, HB10.out⟩
end Go.Proofs.Ytmekcfkfkpbfeaa.H
