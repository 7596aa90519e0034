/- The walk of wogglelaw04.PackGenerators. -/
import Derived.Test.YtmekcfkfkpbfeaaK7
import Derived.Test.YtmekcfkfkpbfeaaGa1
import Derived.Test.YtmekcfkfkpbfeaaGa2
import Derived.Test.YtmekcfkfkpbfeaaGa3
namespace Go.Proofs.Ytmekcfkfkpbfeaa.H
open Go.RowKit Go.Proofs.YtmekcfkfkpbfeaaW.PrintWords Go.Proofs.YtmekcfkfkpbfeaaW.PrintLast Go.Proofs.YtmekcfkfkpbfeaaW.PrintMore
open Go.Proofs.Ytmekcfkfkpbfeaa.Ga
attribute [local go_sem] max2_int min2_int max_two min_two max_three min_three max_four min_four
set_option linter.unusedVariables false
set_option linter.unusedSimpArgs false
theorem Rows8.alloc {w : World} {A : Option Addr} {xs : List M4} (h : Rows8 w A xs) (o : Obj) : Rows8 (w.alloc o) A xs := h.below (below_alloc (Below.refl _ _) o)
theorem monomial_callsL (n : Int) (hn1 : 1 ≤ n) (hn4 : n ≤ 4) (x : M4) (hx : B8 x) (w : World) :
    Calls Try.prog 14 #[.int .i64 n, .agg (enc8 x).toArray] w fun e w' => ∃ A c, e = .returned (.slice A (toL n (m7 x)).length c) ∧ (toL n (m7 x)).length ≤ c ∧ Kd.C KI w' A (toL n (m7 x)).length (toL n (m7 x)) ∧ Below w.heap.size w w' := by
  refine (monomial_R n hn1 hn4 x hx w).mono ?_
  rintro e w' ⟨v, rfl, ho, hb⟩
  obtain ⟨A, c, e, hc, hC⟩ := Kd.R_reads ho
  subst e
  exact ⟨A, c, rfl, hc, hC, hb⟩
/-- One list of lists, as an argument of many. -/
theorem C_var1 {W : World} {A : Option Addr} {c : Nat} {g : List (List Int)} {t : TypeId} (h : Kd.C KL W A g.length g) (hc : g.length ≤ c) : Kd.C (Kd.slice 27 KL) (W.alloc (.cells #[.slice A g.length c] t)) (some ⟨W.heap.size, 0, none⟩) 1 [g] := by
  refine ⟨rfl, by decide, fun _ => ⟨_, rfl, fun j xs hj => ?_⟩⟩
  match j, hj with
  | 0, hj =>
    injection hj with hj
    subst hj
    refine ⟨[.slice A g.length c], rfl, ⟨_, _, rfl, hc, Kd.C_alloc h _⟩, fun i u hu => ?_⟩
    match i, hu with
    | 0, hu =>
      rw [add_plain, blk_cell (heap_alloc_new _ _)]
      exact hu
    | i + 1, hu => simp at hu
  | j + 1, hj => simp at hj
set_option maxRecDepth 100000 in
set_option maxHeartbeats 16000000 in
theorem generators_walk (n : Int) (hn0 : 0 ≤ n) (hn1 : n ≤ 255) (A : Option Addr) (c : Nat) (xs : List M4) (y0 y1 y2 y3 : Int) (hy : B8 (y0, y1, y2, y3)) (w : World) (hr : Rows8 w A xs)
    (l : List (List Int)) (hl : madeL (n % 4 + 1) xs 12 = l) (m : List Int) (hm : toL (n % 4 + 1) (m7 (y0, y1, y2, y3)) = m) (g : List (List Int)) (is : Bool) (K17 K18 K20 : Nat)
    (h15 : pack_Minimal.f (n % 4 + 1) l = some (g, 0)) (h15g : pack_Minimal.f (n % 4 + 1) g = some (g, 0)) (h16 : pack_Has.f (n % 4 + 1) l m = some (is, 0))
    (h17 : woggleref01_SameLists.f K17 g g = some true) (h18 : woggleref04_Ideal.f K18 (n % 4 + 1) [g] = some 0) (h20 : woggleref04_Has.f K20 g m = some is) :
    Calls Try.prog 3 #[.int .u8 n, .slice A xs.length c, .agg #[.int .u8 y0, .int .u8 y1, .int .u8 y2, .int .u8 y3]] w fun e w' => e = .returned (.bool true) ∧ Below w.heap.size w w' := by
  subst hl
  subst hm
  have HK : Aside0 (1 ≤ n % 4 + 1 ∧ n % 4 + 1 ≤ 4) := ⟨by omega⟩
  have HY := Aside0.mk hy
  have H15 := Aside0.mk h15
  have H15g := Aside0.mk h15g
  have H16 := Aside0.mk h16
  have H17 := Aside0.mk h17
  have H18 := Aside0.mk h18
  have H20 := Aside0.mk h20
  have HBL : Aside0 (∀ W o, Below w.heap.size w W → Below w.heap.size w (W.alloc o)) := ⟨fun W o h => below_alloc h o⟩
  have HB0 := Aside0.mk (below_alloc (Below.refl w.heap.size w) (.cells #[.int .u8 y0, .int .u8 y1, .int .u8 y2, .int .u8 y3] 23))
  have L0_p := Aside0.mk (heap_alloc_new w (.cells #[.int .u8 y0, .int .u8 y1, .int .u8 y2, .int .u8 y3] 23))
  have L0_x := Aside0.mk (Rows8.alloc hr (.cells #[.int .u8 y0, .int .u8 y1, .int .u8 y2, .int .u8 y3] 23))
  clear hr hy h15 h15g h16 h17 h18 h20
  have T1 := Aside0.mk trivial
  go_enter Try.func3, Try.ntmps3
  go_wp2_with (first
    | (clear T1; have T2 := Aside0.mk trivial; go_at_call 13; refine (made_calls n hn0 hn1 A c xs 12 (by decide) _ L0_x.out).mono ?_; rintro e w1 ⟨A_l, c_l, rfl, hc_, hC_, hb⟩; have HB1 := Aside0.mk (below_step HB0.out hb); have L1_p := Aside0.mk (heap_below L0_p.out hb); have L1_l := Aside0.mk hC_; have N_l := Aside0.mk hc_; generalize hl_ : madeL (n % 4 + 1) xs 12 = l at *; have q0 := (blk_cell L1_p.out 0).trans rfl; have q1 := (blk_cell L1_p.out 1).trans rfl; have q2 := (blk_cell L1_p.out 2).trans rfl; have q3 := (blk_cell L1_p.out 3).trans rfl; clear hC_ hc_ hb)
    | (clear T2; have T3 := Aside0.mk trivial; go_at_call 14; refine (monomial_callsL (n % 4 + 1) HK.out.1 HK.out.2 (y0, y1, y2, y3) HY.out _).mono ?_; rintro e w2 ⟨A_m, c_m, rfl, hc_, hC_, hb⟩; have HB2 := Aside0.mk (below_step HB1.out hb); have L2_l := Aside0.mk (Kd.C_below L1_l.out hb); have L2_m := Aside0.mk hC_; have N_m := Aside0.mk hc_; generalize hm_ : toL (n % 4 + 1) (m7 (y0, y1, y2, y3)) = m at *; clear q0 q1 q2 q3; clear hC_ hc_ hb)
    | (clear T3; have T4 := Aside0.mk trivial; go_at_call 15; refine (pack_Minimal.calls (n % 4 + 1) A_l c_l l g 0 _ L2_l.out N_l.out H15.out).mono ?_; rintro e w3 ⟨v_, rfl, ho, hb⟩; obtain ⟨A_g, c_g, e_, hc_, hC_⟩ := Kd.R_reads ho; subst e_; have HB3 := Aside0.mk (below_step HB2.out hb); have L3_l := Aside0.mk (Kd.C_below L2_l.out hb); have L3_m := Aside0.mk (Kd.C_below L2_m.out hb); have L3_g := Aside0.mk hC_; have N_g := Aside0.mk hc_; clear hC_ hc_ ho hb)
    | (clear T4; have T5 := Aside0.mk trivial; go_at_call 15; refine (pack_Minimal.calls (n % 4 + 1) A_g c_g g g 0 _ L3_g.out N_g.out H15g.out).mono ?_; rintro e w4 ⟨v_, rfl, ho, hb⟩; obtain ⟨A_h, c_h, e_, hc_, hC_⟩ := Kd.R_reads ho; subst e_; have HB4 := Aside0.mk (below_step HB3.out hb); have L4_l := Aside0.mk (Kd.C_below L3_l.out hb); have L4_m := Aside0.mk (Kd.C_below L3_m.out hb); have L4_g := Aside0.mk (Kd.C_below L3_g.out hb); have L4_h := Aside0.mk hC_; have N_h := Aside0.mk hc_; clear hC_ hc_ ho hb)
    | (clear T5; have T6 := Aside0.mk trivial; go_at_call 16; refine (pack_Has.calls (n % 4 + 1) A_l c_l l A_m c_m m is 0 _ L4_l.out N_l.out L4_m.out N_m.out H16.out).mono ?_; rintro e w5 ⟨rfl, hb⟩; have HB5 := Aside0.mk (below_step HB4.out hb); have L5_m := Aside0.mk (Kd.C_below L4_m.out hb); have L5_g := Aside0.mk (Kd.C_below L4_g.out hb); have L5_h := Aside0.mk (Kd.C_below L4_h.out hb); clear hb)
    | (clear T6; have T7 := Aside0.mk trivial; go_at_call 17; refine (woggleref01_SameLists.calls K17 A_g c_g g A_h c_h g true _ L5_g.out N_g.out L5_h.out N_h.out H17.out).mono ?_; rintro e w6 ⟨rfl, hd⟩; have hb := hd.below; have HB6 := Aside0.mk (below_step HB5.out hb); have L6_m := Aside0.mk (Kd.C_below L5_m.out hb); have L6_g := Aside0.mk (Kd.C_below L5_g.out hb); clear hd hb)
    | (clear T7; have T8 := Aside0.mk trivial; go_at_call 18; refine (woggleref04_Ideal.calls K18 (n % 4 + 1) _ 1 [g] 0 _ (C_var1 L6_g.out N_g.out) (Nat.le_refl 1) H18.out).mono ?_; rintro e w7 ⟨rfl, hd⟩; have hb := hd.below; have HB7 := Aside0.mk (below_step (HBL.out _ _ HB6.out) hb); have L7_m := Aside0.mk (Kd.C_below (Kd.C_alloc L6_m.out _) hb); have L7_g := Aside0.mk (Kd.C_below (Kd.C_alloc L6_g.out _) hb); clear hd hb)
    | (clear T8; have T9 := Aside0.mk trivial; go_at_call 19; refine (lives_calls _).mono ?_; rintro e w8 ⟨rfl, hb⟩; have HB8 := Aside0.mk (below_step HB7.out hb); have L8_m := Aside0.mk (Kd.C_below L7_m.out hb); have L8_g := Aside0.mk (Kd.C_below L7_g.out hb); clear hb)
    | (clear T9; have T10 := Aside0.mk trivial; go_at_call 20; refine (woggleref04_Has.calls K20 A_g c_g g A_m c_m m is _ L8_g.out N_g.out L8_m.out N_m.out H20.out).mono ?_; rintro e w9 ⟨rfl, hd⟩; have hb := hd.below; have HB9 := Aside0.mk (below_step HB8.out hb); clear hd hb))
  go_ret
  exact ⟨by simp, HB9.out⟩
end Go.Proofs.Ytmekcfkfkpbfeaa.H
