/- The walk of tug.Teams: the least load and the first teams with it, told by the function asg. Condition: at most 1000 pulls (else the function says none). -/
import Derived.Test.YtpfbdpeohlohoaaHTeamsA
import Derived.Laws.EntriesVeiled
import Derived.Outline
namespace Go.Proofs.Ytpfbdpeohlohoaa.H
open Go.Proofs.Ytpfbdpeohlohoaa.Ga
open Go.RowKit Go.Proofs.YtpfbdpeohlohoaaW.PrintWords Go.Proofs.YtpfbdpeohlohoaaW.PrintLast Go.Proofs.YtpfbdpeohlohoaaW.PrintMore
attribute [local go_sem] max2_int min2_int max_two min_two max_three min_three max_four min_four
set_option linter.unusedVariables false
set_option linter.unusedSimpArgs false

def tug_Teams.f (k : Nat) (l0 : List Int) (a1 : Int) : Option (Int × List Int × Int) := (tug_check.f k l0 10).bind fun t7 => (if t7 = 0 then (if a1 < 1 then some (0, [], 1) else (if a1 > 4 then some (0, [], 1) else (if l0.length ≤ 1000 then ((asg l0 a1 k [] (List.replicate a1.toNat 0) 0 (-1) []).bind fun r => some (r.1, r.2.1, 0)) else none))) else some (0, [], t7))
theorem tug_Teams.mono : ∀ a0 a1 k, LeO (tug_Teams.f k a0 a1) (tug_Teams.f (k + 1) a0 a1) := by
  intro a0 a1 k
  unfold tug_Teams.f
  repeat' first
    | (with_reducible exact (asg_mono _ _ _).1 _ _ _ _ _)
    | (with_reducible exact tug_check.mono _ _ _)
    | (with_reducible exact LeO.refl _)
    | (with_reducible exact LeO.none _)
    | (with_reducible refine LeO.ite ?_ ?_)
    | (with_reducible refine LeO.bind ?_ (fun _ => ?_))

theorem tst_start {w w5 w1 : World} {A0 : Option Addr} {c0 : Nat} {l0 : List Int} {a1 : Int} {gs cap ns : Nat} {sums : List Int} (hx0 : w5.heap[w.heap.size]? = some (.cells #[.slice A0 l0.length c0] 22 (0, 0))) (hx1 : w5.heap[w.heap.size + 1]? = some (.cells #[.int .i64 a1] 3 (0, 0))) (hB : Below w.heap.size w w5)
    (hg : (((w5.alloc (.cells #[.int .i64 (-1)] 3)).alloc (.cells #[.slice none 0 0] 22)).alloc (.cells #[.func (.func 51) #[] (tcaps w.heap.size (w.heap.size + 1) w5.heap.size (w5.heap.size + 1) (w5.heap.size + 1 + 1))] 74)).grownBy w1 none)
    (hr : Kd.R (Kd.int .i64) 3 w1 w.heap.size (fun _ => True) (.slice (some ⟨gs, 0, none⟩) ns cap) sums) (hgs : w5.heap.size + 3 ≤ gs) :
    TSt w A0 c0 l0 a1 w.heap.size (w.heap.size + 1) w5.heap.size (w5.heap.size + 1) (w5.heap.size + 1 + 1) gs cap ns (.slice none 0 0) (.slice none 0 0) w1 (-1) [] sums ∧ TNe w w.heap.size (w.heap.size + 1) w5.heap.size (w5.heap.size + 1) (w5.heap.size + 1 + 1) gs := by
  have z1 : (w5.alloc (.cells #[.int .i64 (-1)] 3)).heap.size = w5.heap.size + 1 := by simp
  have z2 : ((w5.alloc (.cells #[.int .i64 (-1)] 3)).alloc (.cells #[.slice none 0 0] 22)).heap.size = w5.heap.size + 1 + 1 := by simp
  have h8 := blk_alloc (blk_alloc (heap_alloc_new w5 (.cells #[.int .i64 (-1)] 3)) (.cells #[.slice none 0 0] 22)) (.cells #[.func (.func 51) #[] (tcaps w.heap.size (w.heap.size + 1) w5.heap.size (w5.heap.size + 1) (w5.heap.size + 1 + 1))] 74)
  have h9 := blk_alloc (heap_alloc_new (w5.alloc (.cells #[.int .i64 (-1)] 3)) (.cells #[.slice none 0 0] 22)) (.cells #[.func (.func 51) #[] (tcaps w.heap.size (w.heap.size + 1) w5.heap.size (w5.heap.size + 1) (w5.heap.size + 1 + 1))] 74)
  rw [z1] at h9
  have h10 := heap_alloc_new ((w5.alloc (.cells #[.int .i64 (-1)] 3)).alloc (.cells #[.slice none 0 0] 22)) (.cells #[.func (.func 51) #[] (tcaps w.heap.size (w.heap.size + 1) w5.heap.size (w5.heap.size + 1) (w5.heap.size + 1 + 1))] 74)
  rw [z2] at h10
  have l1 := blk_lt hx1
  have hB3 := below_alloc (below_alloc (below_alloc hB (.cells #[.int .i64 (-1)] 3)) (.cells #[.slice none 0 0] 22)) (.cells #[.func (.func 51) #[] (tcaps w.heap.size (w.heap.size + 1) w5.heap.size (w5.heap.size + 1) (w5.heap.size + 1 + 1))] 74)
  refine ⟨⟨hB3.grown hg hB3.size (fun k hk => by cases hk), blk_grown (blk_alloc (blk_alloc (blk_alloc hx0 _) _) _) hg (by simp), blk_grown (blk_alloc (blk_alloc (blk_alloc hx1 _) _) _) hg (by simp), blk_grown h8 hg (by simp), blk_grown h9 hg (by simp), blk_grown h10 hg (by simp), Kd.R_nil _ _ _ _ _, Kd.R_reok rfl hr (fun k hk => (Option.some.inj hk).symm)⟩, ?_⟩
  exact ⟨by omega, by omega, by omega, by omega, by omega, by omega, by omega, by omega, by omega, by omega, by omega, by omega, by omega, by omega, by omega⟩
set_option maxHeartbeats 8000000 in
set_option maxRecDepth 100000 in
theorem tug_Teams.calls (k : Nat) (A0 : Option Addr) (c0 : Nat) (l0 : List Int) (a1 : Int) (r1 : Int) (r2 : List Int) (r3 : Int) (w : World) (hr0 : Kd.C (Kd.int .i64) w A0 l0.length l0) (hc0 : l0.length ≤ c0) (h : tug_Teams.f k l0 a1 = some (r1, r2, r3)) :
    Calls Try.prog 23 #[.slice A0 l0.length c0, .int .i64 a1] w fun e w' => ∃ v2_ : Value, e = .returned (.tuple #[.int .i64 r1, v2_, .int .i64 r3]) ∧ Kd.R (Kd.int .i64) 3 w' w.heap.size (fun _ => True) v2_ r2 ∧ Below w.heap.size w w' := by
  have HR0 := Aside0.mk hr0
  have HC0 := Aside0.mk hc0
  clear hr0 hc0
  have HX0 := Aside0.mk (blk_alloc (heap_alloc_new w (.cells #[.slice A0 l0.length c0] 22)) (.cells #[.int .i64 a1] 3))
  have HX1 := Aside0.mk (show ((w.alloc (.cells #[.slice A0 l0.length c0] 22)).alloc (.cells #[.int .i64 a1] 3)).heap[w.heap.size + 1]? = some (.cells #[.int .i64 a1] 3 (0, 0)) from by have h_ := heap_alloc_new (w.alloc (.cells #[.slice A0 l0.length c0] 22)) (.cells #[.int .i64 a1] 3); simpa using h_)
  have HB := Aside0.mk (below_alloc (below_alloc (Below.refl w.heap.size w) (.cells #[.slice A0 l0.length c0] 22)) (.cells #[.int .i64 a1] 3))
  have hx0 := (blk_cell HX0.out 0).trans (rfl : _ = some (Value.slice A0 l0.length c0))
  have hx1 := (blk_cell HX1.out 0).trans (rfl : _ = some (Value.int .i64 a1))
  have hmf : ∀ (fn : Fn) (first cap : Array Value) (w : World), (Instr.makeFunc fn first cap).run Try.prog w = .ok (.func fn first cap) w := fun _ _ _ _ => rfl
  unfold tug_Teams.f at h
  obtain ⟨t7, A3, H⟩ := Option.bind_eq_some_iff.mp h
  clear h
  have A3 := Aside0.mk A3
  by_cases c4 : t7 = 0
  · rw [if_pos c4] at H
    have c4b0 : (t7 == 0) = true := beq_iff_eq.mpr c4
    have c4b1 : (t7 != 0) = false := bne_eq_false_iff_eq.mpr c4
    clear c4
    by_cases c5 : a1 < 1
    · rw [if_pos c5] at H
      have c5b : decide (a1 < 1) = true := decide_eq_true c5
      simp only [Option.some.injEq, Prod.mk.injEq] at H
      obtain ⟨rfl, rfl, rfl⟩ := H
      go_enter Try.func23, Try.ntmps23
      go_wp2_with (first | ((with_reducible refine gate_callee (f := 43) rfl ?_); refine goesL_ (some 12) rfl rfl Try.func43 (by kernel_rfl) rfl #[.slice A0 l0.length c0, .int .i64 10] rfl (by (try simp only [List.map_toArray, List.map_cons, List.map_nil]); first | done | rfl) ?_; (with_reducible refine (tug_check.calls k _ _ l0 10 t7 _ ?side1 ?side2 A3.out).mono ?_); (case side1 => repeat (first | exact (Kd.C_below HR0.out HB.out) | (with_reducible refine Kd.C_alloc ?_ _) | (with_reducible refine Kd.C_drewN ?_ _) | (with_reducible refine Kd.C_drew ?_))); (case side2 => exact HC0.out); rintro e w5 ⟨rfl, hb⟩; refine ⟨_, rfl, ?_⟩; have n1_ := Aside0.mk (below_step HB.out hb); have m0_ := Aside0.mk (blk_below HX0.out hb); have m1_ := Aside0.mk (blk_below HX1.out hb); clear HB HX0 HX1 hx0 hx1 hb; have HB := n1_; have HX0 := m0_; have HX1 := m1_; clear n1_ m0_ m1_; have hx0 := (blk_cell HX0.out 0).trans (rfl : _ = some (Value.slice A0 l0.length c0)); have hx1 := (blk_cell HX1.out 0).trans (rfl : _ = some (Value.int .i64 a1))))
      go_ret3
      exact ⟨_, rfl, Kd.R_nil _ _ _ _ _, HB.out⟩
    · rw [if_neg c5] at H
      have c5b : decide (a1 < 1) = false := decide_eq_false c5
      by_cases c6 : a1 > 4
      · rw [if_pos c6] at H
        have c6b : decide (4 < a1) = true := decide_eq_true c6
        simp only [Option.some.injEq, Prod.mk.injEq] at H
        obtain ⟨rfl, rfl, rfl⟩ := H
        go_enter Try.func23, Try.ntmps23
        go_wp2_with (first | ((with_reducible refine gate_callee (f := 43) rfl ?_); refine goesL_ (some 12) rfl rfl Try.func43 (by kernel_rfl) rfl #[.slice A0 l0.length c0, .int .i64 10] rfl (by (try simp only [List.map_toArray, List.map_cons, List.map_nil]); first | done | rfl) ?_; (with_reducible refine (tug_check.calls k _ _ l0 10 t7 _ ?side1 ?side2 A3.out).mono ?_); (case side1 => repeat (first | exact (Kd.C_below HR0.out HB.out) | (with_reducible refine Kd.C_alloc ?_ _) | (with_reducible refine Kd.C_drewN ?_ _) | (with_reducible refine Kd.C_drew ?_))); (case side2 => exact HC0.out); rintro e w5 ⟨rfl, hb⟩; refine ⟨_, rfl, ?_⟩; have n1_ := Aside0.mk (below_step HB.out hb); have m0_ := Aside0.mk (blk_below HX0.out hb); have m1_ := Aside0.mk (blk_below HX1.out hb); clear HB HX0 HX1 hx0 hx1 hb; have HB := n1_; have HX0 := m0_; have HX1 := m1_; clear n1_ m0_ m1_; have hx0 := (blk_cell HX0.out 0).trans (rfl : _ = some (Value.slice A0 l0.length c0)); have hx1 := (blk_cell HX1.out 0).trans (rfl : _ = some (Value.int .i64 a1))))
        go_ret3
        exact ⟨_, rfl, Kd.R_nil _ _ _ _ _, HB.out⟩
      · rw [if_neg c6] at H
        have c6b : decide (4 < a1) = false := decide_eq_false c6
        by_cases c7 : l0.length ≤ 1000
        · rw [if_pos c7] at H
          have HL0 := Aside0.mk c7
          have HK4 := Aside0.mk (And.intro c5 c6)
          clear c5 c6 c7
          obtain ⟨r, A4, H⟩ := Option.bind_eq_some_iff.mp H
          have A4 := Aside0.mk A4
          simp only [Option.some.injEq, Prod.mk.injEq] at H
          obtain ⟨rfl, rfl, rfl⟩ := H
          go_enter Try.func23, Try.ntmps23
          go_wp2_with (first | ((with_reducible refine gate_callee (f := 43) rfl ?_); refine goesL_ (some 12) rfl rfl Try.func43 (by kernel_rfl) rfl #[.slice A0 l0.length c0, .int .i64 10] rfl (by (try simp only [List.map_toArray, List.map_cons, List.map_nil]); first | done | rfl) ?_; (with_reducible refine (tug_check.calls k _ _ l0 10 t7 _ ?side1 ?side2 A3.out).mono ?_); (case side1 => repeat (first | exact (Kd.C_below HR0.out HB.out) | (with_reducible refine Kd.C_alloc ?_ _) | (with_reducible refine Kd.C_drewN ?_ _) | (with_reducible refine Kd.C_drew ?_))); (case side2 => exact HC0.out); rintro e w5 ⟨rfl, hb⟩; refine ⟨_, rfl, ?_⟩; have n1_ := Aside0.mk (below_step HB.out hb); have m0_ := Aside0.mk (blk_below HX0.out hb); have m1_ := Aside0.mk (blk_below HX1.out hb); clear HB HX0 HX1 hx0 hx1 hb; have HB := n1_; have HX0 := m0_; have HX1 := m1_; clear n1_ m0_ m1_; have hx0 := (blk_cell HX0.out 0).trans (rfl : _ = some (Value.slice A0 l0.length c0)); have hx1 := (blk_cell HX1.out 0).trans (rfl : _ = some (Value.int .i64 a1))))
          have hst0 := fun (w1 : World) (gs cap ns : Nat) (sums : List Int) => tst_start (w1 := w1) (gs := gs) (cap := cap) (ns := ns) (sums := sums) HX0.out HX1.out HB.out
          have hz6 : ((w5.alloc (.cells #[.int .i64 (-1)] 3)).alloc (.cells #[.slice none 0 0] 22)).heap.size = w5.heap.size + 1 + 1 := by simp
          have hkq := heap_alloc_new ((w5.alloc (.cells #[.int .i64 (-1)] 3)).alloc (.cells #[.slice none 0 0] 22)) (.cells #[.func (.func 51) #[] #[.pointer (some ⟨w.heap.size, 0, none⟩), .pointer (some ⟨w5.heap.size, 0, none⟩), .pointer (some ⟨w5.heap.size + 1, 0, none⟩), .pointer (some ⟨w.heap.size + 1, 0, none⟩), .pointer (some ⟨w5.heap.size + 1 + 1, 0, none⟩)]] 74)
          rw [hz6] at hkq
          have hky := (blk_cell hkq 0).trans (rfl : _ = some (Value.func (.func 51) #[] #[.pointer (some ⟨w.heap.size, 0, none⟩), .pointer (some ⟨w5.heap.size, 0, none⟩), .pointer (some ⟨w5.heap.size + 1, 0, none⟩), .pointer (some ⟨w.heap.size + 1, 0, none⟩), .pointer (some ⟨w5.heap.size + 1 + 1, 0, none⟩)]))
          have hkz := (blk_cell (blk_alloc (blk_alloc (blk_alloc HX1.out (.cells #[.int .i64 (-1)] 3)) (.cells #[.slice none 0 0] 22)) (.cells #[.func (.func 51) #[] #[.pointer (some ⟨w.heap.size, 0, none⟩), .pointer (some ⟨w5.heap.size, 0, none⟩), .pointer (some ⟨w5.heap.size + 1, 0, none⟩), .pointer (some ⟨w.heap.size + 1, 0, none⟩), .pointer (some ⟨w5.heap.size + 1 + 1, 0, none⟩)]] 74)) 0).trans (rfl : _ = some (Value.int .i64 a1))
          have HB6 := Aside0.mk (below_alloc (below_alloc (below_alloc HB.out (.cells #[.int .i64 (-1)] 3)) (.cells #[.slice none 0 0] 22)) (.cells #[.func (.func 51) #[] #[.pointer (some ⟨w.heap.size, 0, none⟩), .pointer (some ⟨w5.heap.size, 0, none⟩), .pointer (some ⟨w5.heap.size + 1, 0, none⟩), .pointer (some ⟨w.heap.size + 1, 0, none⟩), .pointer (some ⟨w5.heap.size + 1 + 1, 0, none⟩)]] 74))
          have HZ6 := Aside0.mk (show (((w5.alloc (.cells #[.int .i64 (-1)] 3)).alloc (.cells #[.slice none 0 0] 22)).alloc (.cells #[.func (.func 51) #[] #[.pointer (some ⟨w.heap.size, 0, none⟩), .pointer (some ⟨w5.heap.size, 0, none⟩), .pointer (some ⟨w5.heap.size + 1, 0, none⟩), .pointer (some ⟨w.heap.size + 1, 0, none⟩), .pointer (some ⟨w5.heap.size + 1 + 1, 0, none⟩)]] 74)).heap.size = w5.heap.size + 3 from by simp)
          unfold tcaps at hst0
          have HST := Aside0.mk hst0
          clear hst0 hz6 hkq hx0 hx1 HB HX0 HX1
          obtain ⟨i0, hi0, hz0, hz1, hz2⟩ := info_parts info3
          have eg := fun args w => enters_ (P := Try.prog) Try.func51 (by kernel_rfl) rfl args w
          have P1 := Aside0.mk (show 0 ≤ a1 by have := HK4.out; omega)
          have P4 := Aside0.mk (show a1.toNat * 8 ≤ 281474976710656 by have := HK4.out; omega)
          generalize (((w5.alloc (.cells #[.int .i64 (-1)] 3)).alloc (.cells #[.slice none 0 0] 22)).alloc (.cells #[.func (.func 51) #[] #[.pointer (some ⟨w.heap.size, 0, none⟩), .pointer (some ⟨w5.heap.size, 0, none⟩), .pointer (some ⟨w5.heap.size + 1, 0, none⟩), .pointer (some ⟨w.heap.size + 1, 0, none⟩), .pointer (some ⟨w5.heap.size + 1 + 1, 0, none⟩)]] 74)) = w6 at HST HB6 hky hkz HZ6 ⊢
          obtain ⟨w1, hrun, hown, hg1⟩ := run_make_full (P := Try.prog) w6.drew w.heap.size 22 3 i0 (.int .i64 0) 1 Try.underlying22 hi0 hz0 hz1 .i64 .i64 a1.toNat (by rw [hz2]; have := P4.out; omega) (by unfold maxLen; have := P4.out; omega) HB6.out.size
          rw [Int.toNat_of_nonneg P1.out] at hrun
          have hr1 : Kd.R (Kd.int .i64) 3 w1 w.heap.size (fun _ => True) (.slice (some ⟨w6.heap.size, 0, none⟩) a1.toNat a1.toNat) (List.replicate a1.toNat 0) := Kd.R_of_own (by rw [List.length_replicate]; have h_ := hown; rw [show (Value.int .i64 0).cells = #[.int .i64 0] from rfl, toList_madeCells_one, Nat.mul_one] at h_; simpa [encs] using h_) (fun _ _ => trivial)
          obtain ⟨HT1, HN1⟩ := HST.out w1 w6.heap.size a1.toNat a1.toNat _ ⟨hg1.os, hg1.tape, hg1.output, hg1.size, hg1.block⟩ hr1 (by have := HZ6.out; omega)
          have HT := Aside0.mk HT1
          have HN := Aside0.mk HN1
          have hky2 := HT1.c10
          have hkz2 := HT1.c3
          unfold tcaps at hky2
          clear HT1 HN1 hr1 hg1 hown HST
          go_region_held3 (fun w' => w'.cell? ⟨w5.heap.size + 1 + 1, 0, none⟩ = some (.func (.func 51) #[] #[.pointer (some ⟨w.heap.size, 0, none⟩), .pointer (some ⟨w5.heap.size, 0, none⟩), .pointer (some ⟨w5.heap.size + 1, 0, none⟩), .pointer (some ⟨w.heap.size + 1, 0, none⟩), .pointer (some ⟨w5.heap.size + 1 + 1, 0, none⟩)]) ∧ w'.cell? ⟨w.heap.size + 1, 0, none⟩ = some (.int .i64 a1))
            (first | exact ⟨hky, hkz⟩ | exact ⟨hky2, hkz2⟩ | exact ⟨hky3, hkz3⟩ | go_keep)
            (first | (go_at_call 51; refine (asg_calls w A0 c0 l0 a1 _ _ _ _ _ w6.heap.size a1.toNat a1.toNat HN.out HR0.out HC0.out HL0.out k [] 0 rfl (List.replicate a1.toNat 0) 0 (-1) [] r.1 r.2.1 r.2.2 none 0 (.slice none 0 0) w1 HT.out (Kd.R_nil _ _ _ _ _) A4.out).mono ?_; rintro e w7 ⟨rfl, vo7, ht7, hr7, hk7, hv7⟩; have HT7 := Aside0.mk ht7; have hky3 := ht7.c10; have hkz3 := ht7.c3; unfold tcaps at hky3; clear ht7 hr7 hk7 hv7))
          all_goals
            have hc8 := HT7.out.c8
            have hc9 := HT7.out.c9
            try go_wp2
            go_quiet (fail)
            go_wp2
            go_ret3
            exact ⟨vo7, rfl, Kd.R_drewN (Kd.R_mono HT7.out.ro (fun _ _ => trivial)) _, pw_below_drewN HT7.out.hB _⟩
        · rw [if_neg c7] at H
          exact absurd H (by simp)
  · rw [if_neg c4] at H
    have c4b0 : (t7 == 0) = false := beq_eq_false_iff_ne.mpr c4
    have c4b1 : (t7 != 0) = true := bne_iff_ne.mpr c4
    clear c4
    simp only [Option.some.injEq, Prod.mk.injEq] at H
    obtain ⟨rfl, rfl, rfl⟩ := H
    go_enter Try.func23, Try.ntmps23
    go_wp2_with (first | ((with_reducible refine gate_callee (f := 43) rfl ?_); refine goesL_ (some 12) rfl rfl Try.func43 (by kernel_rfl) rfl #[.slice A0 l0.length c0, .int .i64 10] rfl (by (try simp only [List.map_toArray, List.map_cons, List.map_nil]); first | done | rfl) ?_; (with_reducible refine (tug_check.calls k _ _ l0 10 t7 _ ?side1 ?side2 A3.out).mono ?_); (case side1 => repeat (first | exact (Kd.C_below HR0.out HB.out) | (with_reducible refine Kd.C_alloc ?_ _) | (with_reducible refine Kd.C_drewN ?_ _) | (with_reducible refine Kd.C_drew ?_))); (case side2 => exact HC0.out); rintro e w5 ⟨rfl, hb⟩; refine ⟨_, rfl, ?_⟩; have n1_ := Aside0.mk (below_step HB.out hb); have m0_ := Aside0.mk (blk_below HX0.out hb); have m1_ := Aside0.mk (blk_below HX1.out hb); clear HB HX0 HX1 hx0 hx1 hb; have HB := n1_; have HX0 := m0_; have HX1 := m1_; clear n1_ m0_ m1_; have hx0 := (blk_cell HX0.out 0).trans (rfl : _ = some (Value.slice A0 l0.length c0)); have hx1 := (blk_cell HX1.out 0).trans (rfl : _ = some (Value.int .i64 a1))))
    go_ret3
    exact ⟨_, rfl, Kd.R_nil _ _ _ _ _, HB.out⟩
end Go.Proofs.Ytpfbdpeohlohoaa.H
