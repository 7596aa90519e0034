/- The walks of tug.Split and tug.Even: (splitter).find walked once for whatever test it is handed, Split's and Even's own closures. Condition: the function value's contract is a premise of find's, paid below for both. -/
import Derived.Test.YtpfbdpeohlohoaaHBase
import Derived.Test.YtpfbdpeohlohoaaGa1
import Derived.Test.YtpfbdpeohlohoaaGa5
namespace Go.Proofs.Ytpfbdpeohlohoaa.H
open Go.Proofs.Ytpfbdpeohlohoaa.Ga
open Go.RowKit Go.Proofs.YtpfbdpeohlohoaaW.PrintWords Go.Proofs.YtpfbdpeohlohoaaW.PrintLast Go.Proofs.YtpfbdpeohlohoaaW.PrintMore
attribute [local go_sem] max2_int min2_int max_two min_two max_three min_three max_four min_four
set_option linter.unusedVariables false
set_option linter.unusedSimpArgs false

def find.l0 (m : Nat → List Int → Option Bool) (x0 : List Int) (x21 : Int) : Nat → Int → List Int → Int → Option (Int × List Int × Int)
  | 0, _, _, _ => none
  | k + 1, x6, x7, x22 => if x22 < x21 then ((tug_sides.f k x22 (x0.length : Int)).bind fun t9 => ((tug_difference.f k x0 t9).bind fun t10 => ((m k t9).bind fun b => (if b = true then (if x6 < 0 then (find.l0 m x0 x21 k t10 t9 (wrap64 (x22 + 1))) else (if t10 < x6 then (find.l0 m x0 x21 k t10 t9 (wrap64 (x22 + 1))) else (find.l0 m x0 x21 k x6 x7 (wrap64 (x22 + 1))))) else (find.l0 m x0 x21 k x6 x7 (wrap64 (x22 + 1))))))) else (some (x6, x7, 0))
def find.f (m : Nat → List Int → Option Bool) (k : Nat) (l0 : List Int) : Option (Int × List Int × Int) := (tug_check.f k l0 14).bind fun t5 => (if t5 = 0 then (if 0 ≤ (wrap64 ((l0.length : Int) - 1)) then (find.l0 m l0 (shl .i64 1 (wrap64 ((l0.length : Int) - 1))) k (-1) [] 0) else (none)) else (some (0, [], t5)))

set_option maxHeartbeats 8000000 in
set_option maxRecDepth 100000 in
theorem find.calls (m : Nat → List Int → Option Bool) (g : FuncId) (fng : Func) (hfg : Try.prog.funcs[g]? = some fng) (hng : (fng.name == "runtime.NumGoroutine") = false) (hbg : fng.body.isSome = true)
    (hm : ∀ (k : Nat) (A : Option Addr) (c : Nat) (l : List Int) (b : Bool) (w : World), Kd.C (Kd.int .i64) w A l.length l → l.length ≤ c → m k l = some b → Calls Try.prog g #[.slice A l.length c] w fun e w' => e = .returned (.bool b) ∧ Below w.heap.size w w')
    (k : Nat) (A0 : Option Addr) (c0 : Nat) (l0 : List Int) (r1 : Int) (r2 : List Int) (r3 : Int) (w : World) (hr0 : Kd.C (Kd.int .i64) w A0 l0.length l0) (hc0 : l0.length ≤ c0) (h : find.f m k l0 = some (r1, r2, r3)) :
    Calls Try.prog 55 #[.agg #[.slice A0 l0.length c0, .func (.func g) #[] #[]]] w fun e w' => ∃ v2_ : Value, e = .returned (.tuple #[.int .i64 r1, v2_, .int .i64 r3]) ∧ Kd.R (Kd.int .i64) 3 w' w.heap.size (fun _ => True) v2_ r2 ∧ Below w.heap.size w w' := by
  have HR0 := Aside0.mk hr0
  have HC0 := Aside0.mk hc0
  have HM := Aside0.mk hm
  have HFG := Aside0.mk hfg
  clear hr0 hc0 hm hfg
  have HB := Aside0.mk (below_alloc (Below.refl w.heap.size w) (.cells #[.slice A0 l0.length c0, .func (.func g) #[] #[]] 77))
  have HX0 := Aside0.mk (show (w.alloc (.cells #[.slice A0 l0.length c0, .func (.func g) #[] #[]] 77)).cell? ⟨w.heap.size, 0, none⟩ = some (.slice A0 l0.length c0) from (blk_cell (heap_alloc_new w _) 0).trans rfl)
  have HX1 := Aside0.mk (show (w.alloc (.cells #[.slice A0 l0.length c0, .func (.func g) #[] #[]] 77)).cell? ⟨w.heap.size, 1, none⟩ = some (.func (.func g) #[] #[]) from (blk_cell (heap_alloc_new w _) 1).trans rfl)
  have hx0 := HX0.out
  have hx1 := HX1.out
  unfold find.f at h
  obtain ⟨t5, A3, H⟩ := Option.bind_eq_some_iff.mp h
  clear h
  have A3 := Aside0.mk A3
  by_cases c4 : t5 = 0
  · rw [if_pos c4] at H
    have c4b0 : (t5 == 0) = true := beq_iff_eq.mpr c4
    have c4b1 : (t5 != 0) = false := bne_eq_false_iff_eq.mpr c4
    clear c4
    obtain ⟨ji7, hji7⟩ : ∃ j_ : Int, (wrap64 ((l0.length : Int) - 1)) = j_ := ⟨_, rfl⟩
    rw [hji7] at H
    have hji7w : (IntKind.i64.wrap ((l0.length : Int) - 1)) = ji7 := (i64_w _).trans hji7
    by_cases c8 : 0 ≤ (ji7)
    · rw [if_pos c8] at H
      have c8b0 := eq_true c8
      have c8b1 : decide (0 ≤ (ji7)) = true := decide_eq_true c8
      clear c8
      obtain ⟨ji9, hji9⟩ : ∃ j_ : Int, (shl .i64 1 (ji7)) = j_ := ⟨_, rfl⟩
      rw [hji9] at H
      have hji9_ : (IntKind.i64.wrap (1 * 2 ^ min (ji7).toNat 64)) = ji9 := hji9
      have hji9z : (ji7) ≤ 64 → (IntKind.i64.wrap (1 * 2 ^ (ji7).toNat)) = ji9 := shl_small hji9
      have hji9u : (IntKind.i64.wrap (2 ^ min (ji7).toNat 64)) = ji9 := by have h_ := hji9_; rw [Int.one_mul] at h_; exact h_
      have hji9v : (ji7) ≤ 64 → (IntKind.i64.wrap (2 ^ (ji7).toNat)) = ji9 := fun hle_ => by have h_ := hji9z hle_; rw [Int.one_mul] at h_; exact h_
      have hji9y : (wrap64 (1 * 2 ^ min (ji7).toNat 64)) = ji9 := (i64_w _).symm.trans hji9_
      have hji9x : (ji7) ≤ 64 → (wrap64 (1 * 2 ^ (ji7).toNat)) = ji9 := fun h_ => (i64_w _).symm.trans (hji9z h_)
      have H' := Aside0.mk H
      clear H
      go_enter Try.func55, Try.ntmps55
      go_wp2_with (first | ((with_reducible refine gate_callee (f := 43) rfl ?_); refine goesL_ (some 13) rfl rfl Try.func43 (by kernel_rfl) rfl #[.slice A0 l0.length c0, .int .i64 14] rfl (by (try simp only [List.map_toArray, List.map_cons, List.map_nil]); first | done | rfl) ?_; (with_reducible refine (tug_check.calls k _ _ l0 14 t5 _ ?side1 ?side2 A3.out).mono ?_); (case side1 => repeat (first | exact (Kd.C_below HR0.out HB.out) | (with_reducible refine Kd.C_alloc ?_ _) | (with_reducible refine Kd.C_drewN ?_ _) | (with_reducible refine Kd.C_drew ?_))); (case side2 => exact HC0.out); rintro e w5 ⟨rfl, hb⟩; refine ⟨_, rfl, ?_⟩; have n1_ := Aside0.mk (below_step (by repeat (first | (with_reducible first | exact HB.out | apply below_alloc | apply pw_below_drewN | apply below_drew1) | exact HB.out)) hb); have m0_ := Aside0.mk (cell_keeps hb HX0.out); have m1_ := Aside0.mk (cell_keeps hb HX1.out); clear HX0 HX1 hx0 hx1; have HX0 := m0_; have HX1 := m1_; clear m0_ m1_; have hx0 := HX0.out; have hx1 := HX1.out; clear HB; have HB := n1_; clear n1_; clear hb))
      go_loopg [6, 7, 22] k (fun kq v6 v7 v22 w' => ∃ (x6 : Int) (x7 : List Int) (x22 : Int), v6 = .int .i64 x6 ∧ v22 = .int .i64 x22 ∧ Aside0 (find.l0 m l0 ji9 kq x6 x7 x22 = some (r1, r2, r3)) ∧ Aside0 (kq ≤ k) ∧ Aside0 (Kd.R (Kd.int .i64) 3 w' w.heap.size (fun _ => True) v7 x7) ∧ Aside0 (Below w.heap.size w w') ∧ Aside0 (w'.cell? ⟨w.heap.size, 0, none⟩ = some (.slice A0 l0.length c0)) ∧ Aside0 (w'.cell? ⟨w.heap.size, 1, none⟩ = some (.func (.func g) #[] #[])))
      case atStart => exact ⟨(-1), [], 0, (by first | rfl | (simp; done) | (simp [*]; done)), (by first | rfl | (simp; done) | (simp [*]; done)), H', ⟨Nat.le_refl _⟩, ⟨Kd.R_nil _ _ _ _ _⟩, ⟨by repeat (first | (with_reducible first | exact HB.out | apply below_alloc | apply pw_below_drewN | apply below_drew1) | exact HB.out)⟩, HX0, HX1⟩
      case round =>
        clear H' hx0 hx1 HX0 HX1 HB
        try clear c4b0
        try clear c4b1
        try clear c8b0
        try clear c8b1
        obtain ⟨x6, x7, x22, rfl, rfl, HA, HK1, HO7, HB, HX0, HX1⟩ := hrel
        have hx0 := HX0.out
        have hx1 := HX1.out
        cases gk with
        | zero => exact absurd HA.out (by simp [find.l0])
        | succ k1 =>
          have H := HA.out
          clear HA
          simp only [find.l0] at H
          by_cases c11 : x22 < ji9
          · rw [if_pos c11] at H
            have c11b0 : decide (x22 < ji9) = true := decide_eq_true c11
            clear c11
            obtain ⟨t9, A12, H⟩ := Option.bind_eq_some_iff.mp H
            have A12 := Aside0.mk A12
            obtain ⟨t10, A13, H⟩ := Option.bind_eq_some_iff.mp H
            have A13 := Aside0.mk A13
            obtain ⟨b, A14, H⟩ := Option.bind_eq_some_iff.mp H
            have A14 := Aside0.mk A14
            have HS : Aside0 (∃ x6n x7n, ((b = true ∧ (x6 < 0 ∨ t10 < x6)) → x6n = t10 ∧ x7n = t9) ∧ (¬ (b = true ∧ (x6 < 0 ∨ t10 < x6)) → x6n = x6 ∧ x7n = x7) ∧ find.l0 m l0 ji9 k1 x6n x7n (wrap64 (x22 + 1)) = some (r1, r2, r3)) := ⟨by
              by_cases d1 : b = true
              · rw [if_pos d1] at H
                by_cases d2 : x6 < 0
                · rw [if_pos d2] at H
                  exact ⟨t10, t9, fun _ => ⟨rfl, rfl⟩, fun hn => absurd ⟨d1, .inl d2⟩ hn, H⟩
                · rw [if_neg d2] at H
                  by_cases d3 : t10 < x6
                  · rw [if_pos d3] at H
                    exact ⟨t10, t9, fun _ => ⟨rfl, rfl⟩, fun hn => absurd ⟨d1, .inr d3⟩ hn, H⟩
                  · rw [if_neg d3] at H
                    exact ⟨x6, x7, fun hn => absurd hn.2 (by omega), fun _ => ⟨rfl, rfl⟩, H⟩
              · rw [if_neg d1] at H
                exact ⟨x6, x7, fun hn => absurd hn.1 d1, fun _ => ⟨rfl, rfl⟩, H⟩⟩
            clear H
            cases b with
            | false =>
              go_wp2_with (first | ((with_reducible refine gate_callee (f := 60) rfl ?_); refine goesL_ (some 29) rfl rfl Try.func60 (by kernel_rfl) rfl #[.int .i64 x22, .int .i64 (l0.length : Int)] rfl (by (try simp only [List.map_toArray, List.map_cons, List.map_nil]); first | done | rfl) ?_; (with_reducible refine (tug_sides.calls k1 x22 (l0.length : Int) t9 _ A12.out).mono ?_); skip; rintro e w15 ⟨v9_, rfl, ho0, hb⟩; refine ⟨_, rfl, ?_⟩; have n0_ := Aside0.mk (Kd.R_lower ho0 (below_size (by repeat (first | (with_reducible first | exact HB.out | apply below_alloc | apply pw_below_drewN | apply below_drew1) | exact HB.out)))); have n2_ := Aside0.mk (Kd.R_below HO7.out hb); clear HO7; have HO9 := n0_; have HO7 := n2_; clear n0_ n2_; have n1_ := Aside0.mk (below_step (by repeat (first | (with_reducible first | exact HB.out | apply below_alloc | apply pw_below_drewN | apply below_drew1) | exact HB.out)) hb); have m0_ := Aside0.mk (cell_keeps hb HX0.out); have m1_ := Aside0.mk (cell_keeps hb HX1.out); clear HX0 HX1 hx0 hx1; have HX0 := m0_; have HX1 := m1_; clear m0_ m1_; have hx0 := HX0.out; have hx1 := HX1.out; clear HB; have HB := n1_; clear n1_; clear hb; (try clear ho0); obtain ⟨Ao16, co16, eo16⟩ := Kd.R_slice HO9.out; subst eo16) | ((with_reducible refine gate_callee (f := 57) rfl ?_); refine goesL_ (some 33) rfl rfl Try.func57 (by kernel_rfl) rfl #[.slice A0 l0.length c0, .slice Ao16 t9.length co16] rfl (by (try simp only [List.map_toArray, List.map_cons, List.map_nil]); first | done | rfl) ?_; (with_reducible refine (tug_difference.calls k1 _ _ l0 _ _ t9 t10 _ ?side1 ?side2 ?side3 ?side4 A13.out).mono ?_); (case side1 => repeat (first | exact (Kd.C_below HR0.out HB.out) | (with_reducible refine Kd.C_alloc ?_ _) | (with_reducible refine Kd.C_drewN ?_ _) | (with_reducible refine Kd.C_drew ?_))); (case side2 => exact HC0.out); (case side3 => repeat (first | exact (Kd.R_reads' HO9.out).2.2 | (with_reducible refine Kd.C_alloc ?_ _) | (with_reducible refine Kd.C_drewN ?_ _) | (with_reducible refine Kd.C_drew ?_))); (case side4 => exact (Kd.R_reads' HO9.out).2.1); rintro e w17 ⟨rfl, hb⟩; refine ⟨_, rfl, ?_⟩; have n0_ := Aside0.mk (Kd.R_below HO9.out hb); have n2_ := Aside0.mk (Kd.R_below HO7.out hb); clear HO7 HO9; have HO9 := n0_; have HO7 := n2_; clear n0_ n2_; have n1_ := Aside0.mk (below_step (by repeat (first | (with_reducible first | exact HB.out | apply below_alloc | apply pw_below_drewN | apply below_drew1) | exact HB.out)) hb); have m0_ := Aside0.mk (cell_keeps hb HX0.out); have m1_ := Aside0.mk (cell_keeps hb HX1.out); clear HX0 HX1 hx0 hx1; have HX0 := m0_; have HX1 := m1_; clear m0_ m1_; have hx0 := HX0.out; have hx1 := HX1.out; clear HB; have HB := n1_; clear n1_; clear hb) | ((with_reducible refine gate_value (x := 35) rfl ?_); refine goesF_ (some 37) rfl rfl HFG.out hng hbg #[.slice Ao16 t9.length co16] #[] #[.slice Ao16 t9.length co16] rfl rfl (by (try simp only [List.map_toArray, List.map_cons, List.map_nil]); first | done | rfl) rfl ?_; (refine (HM.out k1 _ _ t9 _ _ ?side3 ?side4 A14.out).mono ?_); (case side3 => repeat (first | exact (Kd.R_reads' HO9.out).2.2 | (with_reducible refine Kd.C_alloc ?_ _) | (with_reducible refine Kd.C_drewN ?_ _) | (with_reducible refine Kd.C_drew ?_))); (case side4 => exact (Kd.R_reads' HO9.out).2.1); rintro e w19 ⟨rfl, hb⟩; refine ⟨_, rfl, ?_⟩; have n0_ := Aside0.mk (Kd.R_below HO9.out hb); have n2_ := Aside0.mk (Kd.R_below HO7.out hb); clear HO7 HO9; have HO9 := n0_; have HO7 := n2_; clear n0_ n2_; have n1_ := Aside0.mk (below_step (by repeat (first | (with_reducible first | exact HB.out | apply below_alloc | apply pw_below_drewN | apply below_drew1) | exact HB.out)) hb); have m0_ := Aside0.mk (cell_keeps hb HX0.out); have m1_ := Aside0.mk (cell_keeps hb HX1.out); clear HX0 HX1 hx0 hx1; have HX0 := m0_; have HX1 := m1_; clear m0_ m1_; have hx0 := HX0.out; have hx1 := HX1.out; clear HB; have HB := n1_; clear n1_; clear hb))
              go_roundg k1
              case measure => have := HK1.out; omega
              case rel => obtain ⟨x6n, x7n, g1, g2, HN⟩ := HS.out; obtain ⟨rfl, rfl⟩ := g2 (by simp); exact ⟨x6n, x7n, (wrap64 (x22 + 1)), (by first | rfl | (simp; done) | (simp [*]; done)), (by first | rfl | (simp; done) | (simp [*]; done)), ⟨HN⟩, ⟨by have := HK1.out; omega⟩, HO7, HB, HX0, HX1⟩
            | true =>
              by_cases d2 : x6 < 0
              · have d2b : decide (x6 < 0) = true := decide_eq_true d2
                go_wp2_with (first | ((with_reducible refine gate_callee (f := 60) rfl ?_); refine goesL_ (some 29) rfl rfl Try.func60 (by kernel_rfl) rfl #[.int .i64 x22, .int .i64 (l0.length : Int)] rfl (by (try simp only [List.map_toArray, List.map_cons, List.map_nil]); first | done | rfl) ?_; (with_reducible refine (tug_sides.calls k1 x22 (l0.length : Int) t9 _ A12.out).mono ?_); skip; rintro e w15 ⟨v9_, rfl, ho0, hb⟩; refine ⟨_, rfl, ?_⟩; have n0_ := Aside0.mk (Kd.R_lower ho0 (below_size (by repeat (first | (with_reducible first | exact HB.out | apply below_alloc | apply pw_below_drewN | apply below_drew1) | exact HB.out)))); have n2_ := Aside0.mk (Kd.R_below HO7.out hb); clear HO7; have HO9 := n0_; have HO7 := n2_; clear n0_ n2_; have n1_ := Aside0.mk (below_step (by repeat (first | (with_reducible first | exact HB.out | apply below_alloc | apply pw_below_drewN | apply below_drew1) | exact HB.out)) hb); have m0_ := Aside0.mk (cell_keeps hb HX0.out); have m1_ := Aside0.mk (cell_keeps hb HX1.out); clear HX0 HX1 hx0 hx1; have HX0 := m0_; have HX1 := m1_; clear m0_ m1_; have hx0 := HX0.out; have hx1 := HX1.out; clear HB; have HB := n1_; clear n1_; clear hb; (try clear ho0); obtain ⟨Ao16, co16, eo16⟩ := Kd.R_slice HO9.out; subst eo16) | ((with_reducible refine gate_callee (f := 57) rfl ?_); refine goesL_ (some 33) rfl rfl Try.func57 (by kernel_rfl) rfl #[.slice A0 l0.length c0, .slice Ao16 t9.length co16] rfl (by (try simp only [List.map_toArray, List.map_cons, List.map_nil]); first | done | rfl) ?_; (with_reducible refine (tug_difference.calls k1 _ _ l0 _ _ t9 t10 _ ?side1 ?side2 ?side3 ?side4 A13.out).mono ?_); (case side1 => repeat (first | exact (Kd.C_below HR0.out HB.out) | (with_reducible refine Kd.C_alloc ?_ _) | (with_reducible refine Kd.C_drewN ?_ _) | (with_reducible refine Kd.C_drew ?_))); (case side2 => exact HC0.out); (case side3 => repeat (first | exact (Kd.R_reads' HO9.out).2.2 | (with_reducible refine Kd.C_alloc ?_ _) | (with_reducible refine Kd.C_drewN ?_ _) | (with_reducible refine Kd.C_drew ?_))); (case side4 => exact (Kd.R_reads' HO9.out).2.1); rintro e w17 ⟨rfl, hb⟩; refine ⟨_, rfl, ?_⟩; have n0_ := Aside0.mk (Kd.R_below HO9.out hb); have n2_ := Aside0.mk (Kd.R_below HO7.out hb); clear HO7 HO9; have HO9 := n0_; have HO7 := n2_; clear n0_ n2_; have n1_ := Aside0.mk (below_step (by repeat (first | (with_reducible first | exact HB.out | apply below_alloc | apply pw_below_drewN | apply below_drew1) | exact HB.out)) hb); have m0_ := Aside0.mk (cell_keeps hb HX0.out); have m1_ := Aside0.mk (cell_keeps hb HX1.out); clear HX0 HX1 hx0 hx1; have HX0 := m0_; have HX1 := m1_; clear m0_ m1_; have hx0 := HX0.out; have hx1 := HX1.out; clear HB; have HB := n1_; clear n1_; clear hb) | ((with_reducible refine gate_value (x := 35) rfl ?_); refine goesF_ (some 37) rfl rfl HFG.out hng hbg #[.slice Ao16 t9.length co16] #[] #[.slice Ao16 t9.length co16] rfl rfl (by (try simp only [List.map_toArray, List.map_cons, List.map_nil]); first | done | rfl) rfl ?_; (refine (HM.out k1 _ _ t9 _ _ ?side3 ?side4 A14.out).mono ?_); (case side3 => repeat (first | exact (Kd.R_reads' HO9.out).2.2 | (with_reducible refine Kd.C_alloc ?_ _) | (with_reducible refine Kd.C_drewN ?_ _) | (with_reducible refine Kd.C_drew ?_))); (case side4 => exact (Kd.R_reads' HO9.out).2.1); rintro e w19 ⟨rfl, hb⟩; refine ⟨_, rfl, ?_⟩; have n0_ := Aside0.mk (Kd.R_below HO9.out hb); have n2_ := Aside0.mk (Kd.R_below HO7.out hb); clear HO7 HO9; have HO9 := n0_; have HO7 := n2_; clear n0_ n2_; have n1_ := Aside0.mk (below_step (by repeat (first | (with_reducible first | exact HB.out | apply below_alloc | apply pw_below_drewN | apply below_drew1) | exact HB.out)) hb); have m0_ := Aside0.mk (cell_keeps hb HX0.out); have m1_ := Aside0.mk (cell_keeps hb HX1.out); clear HX0 HX1 hx0 hx1; have HX0 := m0_; have HX1 := m1_; clear m0_ m1_; have hx0 := HX0.out; have hx1 := HX1.out; clear HB; have HB := n1_; clear n1_; clear hb))
                go_roundg k1
                case measure => have := HK1.out; omega
                case rel => obtain ⟨x6n, x7n, g1, g2, HN⟩ := HS.out; obtain ⟨rfl, rfl⟩ := g1 ⟨by trivial, .inl (of_decide_eq_true d2b)⟩; exact ⟨x6n, x7n, (wrap64 (x22 + 1)), (by first | rfl | (simp; done) | (simp [*]; done)), (by first | rfl | (simp; done) | (simp [*]; done)), ⟨HN⟩, ⟨by have := HK1.out; omega⟩, HO9, HB, HX0, HX1⟩
              · have d2b : decide (x6 < 0) = false := decide_eq_false d2
                by_cases d3 : t10 < x6
                · have d3b : decide (t10 < x6) = true := decide_eq_true d3
                  go_wp2_with (first | ((with_reducible refine gate_callee (f := 60) rfl ?_); refine goesL_ (some 29) rfl rfl Try.func60 (by kernel_rfl) rfl #[.int .i64 x22, .int .i64 (l0.length : Int)] rfl (by (try simp only [List.map_toArray, List.map_cons, List.map_nil]); first | done | rfl) ?_; (with_reducible refine (tug_sides.calls k1 x22 (l0.length : Int) t9 _ A12.out).mono ?_); skip; rintro e w15 ⟨v9_, rfl, ho0, hb⟩; refine ⟨_, rfl, ?_⟩; have n0_ := Aside0.mk (Kd.R_lower ho0 (below_size (by repeat (first | (with_reducible first | exact HB.out | apply below_alloc | apply pw_below_drewN | apply below_drew1) | exact HB.out)))); have n2_ := Aside0.mk (Kd.R_below HO7.out hb); clear HO7; have HO9 := n0_; have HO7 := n2_; clear n0_ n2_; have n1_ := Aside0.mk (below_step (by repeat (first | (with_reducible first | exact HB.out | apply below_alloc | apply pw_below_drewN | apply below_drew1) | exact HB.out)) hb); have m0_ := Aside0.mk (cell_keeps hb HX0.out); have m1_ := Aside0.mk (cell_keeps hb HX1.out); clear HX0 HX1 hx0 hx1; have HX0 := m0_; have HX1 := m1_; clear m0_ m1_; have hx0 := HX0.out; have hx1 := HX1.out; clear HB; have HB := n1_; clear n1_; clear hb; (try clear ho0); obtain ⟨Ao16, co16, eo16⟩ := Kd.R_slice HO9.out; subst eo16) | ((with_reducible refine gate_callee (f := 57) rfl ?_); refine goesL_ (some 33) rfl rfl Try.func57 (by kernel_rfl) rfl #[.slice A0 l0.length c0, .slice Ao16 t9.length co16] rfl (by (try simp only [List.map_toArray, List.map_cons, List.map_nil]); first | done | rfl) ?_; (with_reducible refine (tug_difference.calls k1 _ _ l0 _ _ t9 t10 _ ?side1 ?side2 ?side3 ?side4 A13.out).mono ?_); (case side1 => repeat (first | exact (Kd.C_below HR0.out HB.out) | (with_reducible refine Kd.C_alloc ?_ _) | (with_reducible refine Kd.C_drewN ?_ _) | (with_reducible refine Kd.C_drew ?_))); (case side2 => exact HC0.out); (case side3 => repeat (first | exact (Kd.R_reads' HO9.out).2.2 | (with_reducible refine Kd.C_alloc ?_ _) | (with_reducible refine Kd.C_drewN ?_ _) | (with_reducible refine Kd.C_drew ?_))); (case side4 => exact (Kd.R_reads' HO9.out).2.1); rintro e w17 ⟨rfl, hb⟩; refine ⟨_, rfl, ?_⟩; have n0_ := Aside0.mk (Kd.R_below HO9.out hb); have n2_ := Aside0.mk (Kd.R_below HO7.out hb); clear HO7 HO9; have HO9 := n0_; have HO7 := n2_; clear n0_ n2_; have n1_ := Aside0.mk (below_step (by repeat (first | (with_reducible first | exact HB.out | apply below_alloc | apply pw_below_drewN | apply below_drew1) | exact HB.out)) hb); have m0_ := Aside0.mk (cell_keeps hb HX0.out); have m1_ := Aside0.mk (cell_keeps hb HX1.out); clear HX0 HX1 hx0 hx1; have HX0 := m0_; have HX1 := m1_; clear m0_ m1_; have hx0 := HX0.out; have hx1 := HX1.out; clear HB; have HB := n1_; clear n1_; clear hb) | ((with_reducible refine gate_value (x := 35) rfl ?_); refine goesF_ (some 37) rfl rfl HFG.out hng hbg #[.slice Ao16 t9.length co16] #[] #[.slice Ao16 t9.length co16] rfl rfl (by (try simp only [List.map_toArray, List.map_cons, List.map_nil]); first | done | rfl) rfl ?_; (refine (HM.out k1 _ _ t9 _ _ ?side3 ?side4 A14.out).mono ?_); (case side3 => repeat (first | exact (Kd.R_reads' HO9.out).2.2 | (with_reducible refine Kd.C_alloc ?_ _) | (with_reducible refine Kd.C_drewN ?_ _) | (with_reducible refine Kd.C_drew ?_))); (case side4 => exact (Kd.R_reads' HO9.out).2.1); rintro e w19 ⟨rfl, hb⟩; refine ⟨_, rfl, ?_⟩; have n0_ := Aside0.mk (Kd.R_below HO9.out hb); have n2_ := Aside0.mk (Kd.R_below HO7.out hb); clear HO7 HO9; have HO9 := n0_; have HO7 := n2_; clear n0_ n2_; have n1_ := Aside0.mk (below_step (by repeat (first | (with_reducible first | exact HB.out | apply below_alloc | apply pw_below_drewN | apply below_drew1) | exact HB.out)) hb); have m0_ := Aside0.mk (cell_keeps hb HX0.out); have m1_ := Aside0.mk (cell_keeps hb HX1.out); clear HX0 HX1 hx0 hx1; have HX0 := m0_; have HX1 := m1_; clear m0_ m1_; have hx0 := HX0.out; have hx1 := HX1.out; clear HB; have HB := n1_; clear n1_; clear hb))
                  go_roundg k1
                  case measure => have := HK1.out; omega
                  case rel => obtain ⟨x6n, x7n, g1, g2, HN⟩ := HS.out; obtain ⟨rfl, rfl⟩ := g1 ⟨by trivial, .inr (of_decide_eq_true d3b)⟩; exact ⟨x6n, x7n, (wrap64 (x22 + 1)), (by first | rfl | (simp; done) | (simp [*]; done)), (by first | rfl | (simp; done) | (simp [*]; done)), ⟨HN⟩, ⟨by have := HK1.out; omega⟩, HO9, HB, HX0, HX1⟩
                · have d3b : decide (t10 < x6) = false := decide_eq_false d3
                  go_wp2_with (first | ((with_reducible refine gate_callee (f := 60) rfl ?_); refine goesL_ (some 29) rfl rfl Try.func60 (by kernel_rfl) rfl #[.int .i64 x22, .int .i64 (l0.length : Int)] rfl (by (try simp only [List.map_toArray, List.map_cons, List.map_nil]); first | done | rfl) ?_; (with_reducible refine (tug_sides.calls k1 x22 (l0.length : Int) t9 _ A12.out).mono ?_); skip; rintro e w15 ⟨v9_, rfl, ho0, hb⟩; refine ⟨_, rfl, ?_⟩; have n0_ := Aside0.mk (Kd.R_lower ho0 (below_size (by repeat (first | (with_reducible first | exact HB.out | apply below_alloc | apply pw_below_drewN | apply below_drew1) | exact HB.out)))); have n2_ := Aside0.mk (Kd.R_below HO7.out hb); clear HO7; have HO9 := n0_; have HO7 := n2_; clear n0_ n2_; have n1_ := Aside0.mk (below_step (by repeat (first | (with_reducible first | exact HB.out | apply below_alloc | apply pw_below_drewN | apply below_drew1) | exact HB.out)) hb); have m0_ := Aside0.mk (cell_keeps hb HX0.out); have m1_ := Aside0.mk (cell_keeps hb HX1.out); clear HX0 HX1 hx0 hx1; have HX0 := m0_; have HX1 := m1_; clear m0_ m1_; have hx0 := HX0.out; have hx1 := HX1.out; clear HB; have HB := n1_; clear n1_; clear hb; (try clear ho0); obtain ⟨Ao16, co16, eo16⟩ := Kd.R_slice HO9.out; subst eo16) | ((with_reducible refine gate_callee (f := 57) rfl ?_); refine goesL_ (some 33) rfl rfl Try.func57 (by kernel_rfl) rfl #[.slice A0 l0.length c0, .slice Ao16 t9.length co16] rfl (by (try simp only [List.map_toArray, List.map_cons, List.map_nil]); first | done | rfl) ?_; (with_reducible refine (tug_difference.calls k1 _ _ l0 _ _ t9 t10 _ ?side1 ?side2 ?side3 ?side4 A13.out).mono ?_); (case side1 => repeat (first | exact (Kd.C_below HR0.out HB.out) | (with_reducible refine Kd.C_alloc ?_ _) | (with_reducible refine Kd.C_drewN ?_ _) | (with_reducible refine Kd.C_drew ?_))); (case side2 => exact HC0.out); (case side3 => repeat (first | exact (Kd.R_reads' HO9.out).2.2 | (with_reducible refine Kd.C_alloc ?_ _) | (with_reducible refine Kd.C_drewN ?_ _) | (with_reducible refine Kd.C_drew ?_))); (case side4 => exact (Kd.R_reads' HO9.out).2.1); rintro e w17 ⟨rfl, hb⟩; refine ⟨_, rfl, ?_⟩; have n0_ := Aside0.mk (Kd.R_below HO9.out hb); have n2_ := Aside0.mk (Kd.R_below HO7.out hb); clear HO7 HO9; have HO9 := n0_; have HO7 := n2_; clear n0_ n2_; have n1_ := Aside0.mk (below_step (by repeat (first | (with_reducible first | exact HB.out | apply below_alloc | apply pw_below_drewN | apply below_drew1) | exact HB.out)) hb); have m0_ := Aside0.mk (cell_keeps hb HX0.out); have m1_ := Aside0.mk (cell_keeps hb HX1.out); clear HX0 HX1 hx0 hx1; have HX0 := m0_; have HX1 := m1_; clear m0_ m1_; have hx0 := HX0.out; have hx1 := HX1.out; clear HB; have HB := n1_; clear n1_; clear hb) | ((with_reducible refine gate_value (x := 35) rfl ?_); refine goesF_ (some 37) rfl rfl HFG.out hng hbg #[.slice Ao16 t9.length co16] #[] #[.slice Ao16 t9.length co16] rfl rfl (by (try simp only [List.map_toArray, List.map_cons, List.map_nil]); first | done | rfl) rfl ?_; (refine (HM.out k1 _ _ t9 _ _ ?side3 ?side4 A14.out).mono ?_); (case side3 => repeat (first | exact (Kd.R_reads' HO9.out).2.2 | (with_reducible refine Kd.C_alloc ?_ _) | (with_reducible refine Kd.C_drewN ?_ _) | (with_reducible refine Kd.C_drew ?_))); (case side4 => exact (Kd.R_reads' HO9.out).2.1); rintro e w19 ⟨rfl, hb⟩; refine ⟨_, rfl, ?_⟩; have n0_ := Aside0.mk (Kd.R_below HO9.out hb); have n2_ := Aside0.mk (Kd.R_below HO7.out hb); clear HO7 HO9; have HO9 := n0_; have HO7 := n2_; clear n0_ n2_; have n1_ := Aside0.mk (below_step (by repeat (first | (with_reducible first | exact HB.out | apply below_alloc | apply pw_below_drewN | apply below_drew1) | exact HB.out)) hb); have m0_ := Aside0.mk (cell_keeps hb HX0.out); have m1_ := Aside0.mk (cell_keeps hb HX1.out); clear HX0 HX1 hx0 hx1; have HX0 := m0_; have HX1 := m1_; clear m0_ m1_; have hx0 := HX0.out; have hx1 := HX1.out; clear HB; have HB := n1_; clear n1_; clear hb))
                  go_roundg k1
                  case measure => have := HK1.out; omega
                  case rel => obtain ⟨x6n, x7n, g1, g2, HN⟩ := HS.out; obtain ⟨rfl, rfl⟩ := g2 (by have := of_decide_eq_false d2b; have := of_decide_eq_false d3b; omega); exact ⟨x6n, x7n, (wrap64 (x22 + 1)), (by first | rfl | (simp; done) | (simp [*]; done)), (by first | rfl | (simp; done) | (simp [*]; done)), ⟨HN⟩, ⟨by have := HK1.out; omega⟩, HO7, HB, HX0, HX1⟩
          · rw [if_neg c11] at H
            have c11b0 : decide (x22 < ji9) = false := decide_eq_false c11
            clear c11
            simp only [Option.some.injEq, Prod.mk.injEq] at H
            obtain ⟨rfl, rfl, rfl⟩ := H
            go_wp2
            go_ret3
            exact ⟨_, by first | rfl | (simp; done) | (simp [*]; done), HO7.out, by repeat (first | (with_reducible first | exact HB.out | apply below_alloc | apply pw_below_drewN | apply below_drew1) | exact HB.out)⟩
    · rw [if_neg c8] at H
      exact absurd H (by simp)
  · rw [if_neg c4] at H
    have c4b0 : (t5 == 0) = false := beq_eq_false_iff_ne.mpr c4
    have c4b1 : (t5 != 0) = true := bne_iff_ne.mpr c4
    clear c4
    simp only [Option.some.injEq, Prod.mk.injEq] at H
    obtain ⟨rfl, rfl, rfl⟩ := H
    go_enter Try.func55, Try.ntmps55
    go_wp2_with (first | ((with_reducible refine gate_callee (f := 43) rfl ?_); refine goesL_ (some 13) rfl rfl Try.func43 (by kernel_rfl) rfl #[.slice A0 l0.length c0, .int .i64 14] rfl (by (try simp only [List.map_toArray, List.map_cons, List.map_nil]); first | done | rfl) ?_; (with_reducible refine (tug_check.calls k _ _ l0 14 t5 _ ?side1 ?side2 A3.out).mono ?_); (case side1 => repeat (first | exact (Kd.C_below HR0.out HB.out) | (with_reducible refine Kd.C_alloc ?_ _) | (with_reducible refine Kd.C_drewN ?_ _) | (with_reducible refine Kd.C_drew ?_))); (case side2 => exact HC0.out); rintro e w5 ⟨rfl, hb⟩; refine ⟨_, rfl, ?_⟩; have n1_ := Aside0.mk (below_step (by repeat (first | (with_reducible first | exact HB.out | apply below_alloc | apply pw_below_drewN | apply below_drew1) | exact HB.out)) hb); have m0_ := Aside0.mk (cell_keeps hb HX0.out); have m1_ := Aside0.mk (cell_keeps hb HX1.out); clear HX0 HX1 hx0 hx1; have HX0 := m0_; have HX1 := m1_; clear m0_ m1_; have hx0 := HX0.out; have hx1 := HX1.out; clear HB; have HB := n1_; clear n1_; clear hb))
    go_ret3
    exact ⟨_, by first | rfl | (simp; done) | (simp [*]; done), Kd.R_nil _ _ _ _ _, by repeat (first | (with_reducible first | exact HB.out | apply below_alloc | apply pw_below_drewN | apply below_drew1) | exact HB.out)⟩

theorem split_may (A : Option Addr) (c : Nat) (l : List Int) (w : World) : Calls Try.prog 54 #[.slice A l.length c] w fun e w' => e = .returned (.bool true) ∧ Below w.heap.size w w' := by
  go_enter Try.func54, Try.ntmps54
  go_wp2
  go_ret
  exact ⟨rfl, Below.refl _ _⟩
theorem find.mono_l (m : Nat → List Int → Option Bool) (hm : ∀ l k, LeO (m k l) (m (k + 1) l)) (x0 : List Int) (x21 : Int) : ∀ k y0 y1 y2, LeO (find.l0 m x0 x21 k y0 y1 y2) (find.l0 m x0 x21 (k + 1) y0 y1 y2)
  | 0 => fun _ _ _ r h => by simp [find.l0] at h
  | k + 1 => by
    have ih0 := find.mono_l m hm x0 x21 k
    intro y0 y1 y2
    unfold find.l0
    repeat' first
      | (with_reducible exact ih0 _ _ _)
      | (with_reducible exact hm _ _)
      | (with_reducible exact tug_difference.mono _ _ _)
      | (with_reducible exact tug_sides.mono _ _ _)
      | (with_reducible exact LeO.refl _)
      | (with_reducible exact LeO.none _)
      | (with_reducible refine LeO.ite ?_ ?_)
      | (with_reducible refine LeO.bind ?_ (fun _ => ?_))
theorem find.mono (m : Nat → List Int → Option Bool) (hm : ∀ l k, LeO (m k l) (m (k + 1) l)) (a0 : List Int) (k : Nat) : LeO (find.f m k a0) (find.f m (k + 1) a0) := by
  unfold find.f
  repeat' first
    | (with_reducible exact find.mono_l m hm _ _ _ _ _ _)
    | (with_reducible exact tug_check.mono _ _ _)
    | (with_reducible exact LeO.refl _)
    | (with_reducible exact LeO.none _)
    | (with_reducible refine LeO.ite ?_ ?_)
    | (with_reducible refine LeO.bind ?_ (fun _ => ?_))
def tug_Split.f (k : Nat) (l0 : List Int) : Option (Int × List Int × Int) := find.f (fun _ _ => some true) k l0
def tug_Even.f (k : Nat) (l0 : List Int) : Option (Int × List Int × Int) := find.f tug_Even_1.f k l0
theorem tug_Split.mono : ∀ a0 k, LeO (tug_Split.f k a0) (tug_Split.f (k + 1) a0) := fun a0 k => find.mono _ (fun _ _ => LeO.refl _) a0 k
theorem tug_Even.mono : ∀ a0 k, LeO (tug_Even.f k a0) (tug_Even.f (k + 1) a0) := fun a0 k => find.mono _ (fun l k => tug_Even_1.mono l k) a0 k
set_option maxHeartbeats 8000000 in
set_option maxRecDepth 100000 in
theorem tug_Split.calls (k : Nat) (A0 : Option Addr) (c0 : Nat) (l0 : List Int) (r1 : Int) (r2 : List Int) (r3 : Int) (w : World) (hr0 : Kd.C (Kd.int .i64) w A0 l0.length l0) (hc0 : l0.length ≤ c0) (h : tug_Split.f k l0 = some (r1, r2, r3)) :
    Calls Try.prog 30 #[.slice A0 l0.length c0] w fun e w' => ∃ v2_ : Value, e = .returned (.tuple #[.int .i64 r1, v2_, .int .i64 r3]) ∧ Kd.R (Kd.int .i64) 3 w' w.heap.size (fun _ => True) v2_ r2 ∧ Below w.heap.size w w' := by
  have HR0 := Aside0.mk hr0
  have HC0 := Aside0.mk hc0
  have HH := Aside0.mk h
  clear hr0 hc0 h
  go_enter Try.func30, Try.ntmps30
  go_wp2_with (first | ((with_reducible refine gate_callee (f := 55) rfl ?_); refine goesL_ (some 7) rfl rfl Try.func55 (by kernel_rfl) rfl #[.agg #[.slice A0 l0.length c0, .func (.func 54) #[] #[]]] rfl (by (try simp only [List.map_toArray, List.map_cons, List.map_nil]); first | done | rfl) ?_; (refine (find.calls (fun _ _ => some true) 54 Try.f54 Try.func54 (by kernel_rfl) rfl (fun k A c l b w _ _ hb => by obtain rfl := Option.some.inj hb; exact split_may A c l w) k A0 c0 l0 r1 r2 r3 _ HR0.out HC0.out HH.out).mono ?_); rintro e w5 ⟨v2_, rfl, ho, hb⟩; refine ⟨_, rfl, ?_⟩; have HO := Aside0.mk ho; have HB := Aside0.mk hb; clear ho hb))
  go_ret3
  exact ⟨v2_, rfl, HO.out, HB.out⟩
set_option maxHeartbeats 8000000 in
set_option maxRecDepth 100000 in
theorem tug_Even.calls (k : Nat) (A0 : Option Addr) (c0 : Nat) (l0 : List Int) (r1 : Int) (r2 : List Int) (r3 : Int) (w : World) (hr0 : Kd.C (Kd.int .i64) w A0 l0.length l0) (hc0 : l0.length ≤ c0) (h : tug_Even.f k l0 = some (r1, r2, r3)) :
    Calls Try.prog 33 #[.slice A0 l0.length c0] w fun e w' => ∃ v2_ : Value, e = .returned (.tuple #[.int .i64 r1, v2_, .int .i64 r3]) ∧ Kd.R (Kd.int .i64) 3 w' w.heap.size (fun _ => True) v2_ r2 ∧ Below w.heap.size w w' := by
  have HR0 := Aside0.mk hr0
  have HC0 := Aside0.mk hc0
  have HH := Aside0.mk h
  clear hr0 hc0 h
  go_enter Try.func33, Try.ntmps33
  go_wp2_with (first | ((with_reducible refine gate_callee (f := 55) rfl ?_); refine goesL_ (some 9) rfl rfl Try.func55 (by kernel_rfl) rfl #[.agg #[.slice A0 l0.length c0, .func (.func 58) #[] #[]]] rfl (by (try simp only [List.map_toArray, List.map_cons, List.map_nil]); first | done | rfl) ?_; (refine (find.calls tug_Even_1.f 58 Try.f58 Try.func58 (by kernel_rfl) rfl (fun k A c l b w hr hc hb => (tug_Even_1.calls k A c l b w hr hc hb).mono fun e w' hq => ⟨hq.1, hq.2.below⟩) k A0 c0 l0 r1 r2 r3 _ HR0.out HC0.out HH.out).mono ?_); rintro e w5 ⟨v2_, rfl, ho, hb⟩; refine ⟨_, rfl, ?_⟩; have HO := Aside0.mk ho; have HB := Aside0.mk hb; clear ho hb))
  go_ret3
  exact ⟨v2_, rfl, HO.out, HB.out⟩
end Go.Proofs.Ytpfbdpeohlohoaa.H
