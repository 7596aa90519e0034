/- The walks of the closures of pack.Radical, Over, numerator, Dual, and of changed. -/
import Derived.Test.YtmekcfkfkpbfeaaGa0
import Derived.BigRegion
import Derived.BigQuiet
import Derived.Deep.RegionHeld3
import Derived.Outline
import Derived.LoopN
import Derived.Test.YtmekcfkfkpbfeaaK3
namespace Go.Proofs.Ytmekcfkfkpbfeaa.H
open Go.RowKit Go.Proofs.YtmekcfkfkpbfeaaW.PrintWords Go.Proofs.YtmekcfkfkpbfeaaW.PrintLast Go.Proofs.YtmekcfkfkpbfeaaW.PrintMore
attribute [local go_sem] max2_int min2_int max_two min_two max_three min_three max_four min_four
set_option linter.unusedVariables false
set_option linter.unusedSimpArgs false
/-- All exponents are from 0 to 6. -/
def V6 (m : M4) : Prop := (0 ≤ m.1 ∧ m.1 ≤ 6) ∧ (0 ≤ m.2.1 ∧ m.2.1 ≤ 6) ∧ (0 ≤ m.2.2.1 ∧ m.2.2.1 ≤ 6) ∧ (0 ≤ m.2.2.2 ∧ m.2.2.2 ≤ 6)
def overM (k m : M4) : M4 := (mx 0 (m.1 - k.1), mx 0 (m.2.1 - k.2.1), mx 0 (m.2.2.1 - k.2.2.1), mx 0 (m.2.2.2 - k.2.2.2))
def radM (m : M4) : M4 := (mn m.1 1, mn m.2.1 1, mn m.2.2.1 1, mn m.2.2.2 1)
def du (t p : Int) : Int := if 0 < p then t + 1 - p else p
def dualM (t p : M4) : M4 := (du t.1 p.1, du t.2.1 p.2.1, du t.2.2.1 p.2.2.1, du t.2.2.2 p.2.2.2)
theorem du_l {t p : Int} (h : 0 < p) : du t p = t + 1 - p := by unfold du; rw [if_pos h]
theorem du_r {t p : Int} (h : ¬ 0 < p) : du t p = p := by unfold du; rw [if_neg h]
set_option maxRecDepth 100000 in
set_option maxHeartbeats 4000000 in
theorem rad_calls_ (a0 a1 a2 a3 : Int) (w : World) :
    Calls Try.prog 55 #[.agg #[.int .i64 a0, .int .i64 a1, .int .i64 a2, .int .i64 a3]] w fun e w' => e = .returned (.agg #[.int .i64 (mn a0 1), .int .i64 (mn a1 1), .int .i64 (mn a2 1), .int .i64 (mn a3 1)]) ∧ Below w.heap.size w w' := by
  go_enter Try.func55, Try.ntmps55
  go_wp2
  refine wp_loop_rounds 5 ?_
  simp only [Code.rounds]
  go_wp2
  all_goals
    refine bodyPost_ret (by simp [results, Try.results55, go_sem]; rfl) rfl ?_
    refine ⟨?_, by repeat (first | exact Below.refl _ _ | apply below_alloc | apply below_drew1)⟩
    have e_ : ∀ x : Int, (1 < x → mn x 1 = 1) ∧ (¬ 1 < x → mn x 1 = x) := fun x => ⟨fun h => mn_l h, fun h => mn_r h⟩
    have c0 := e_ a0
    have c1 := e_ a1
    have c2 := e_ a2
    have c3 := e_ a3
    clear e_
    first
      | (simp_all; done)
      | (trace_state; sorry)
theorem rad_calls (m : M4) (w : World) : Calls Try.prog 55 #[mv m] w fun e w' => e = .returned (mv (radM m)) ∧ Below w.heap.size w w' := by
  obtain ⟨a0, a1, a2, a3⟩ := m
  exact rad_calls_ a0 a1 a2 a3 w
set_option maxRecDepth 100000 in
set_option maxHeartbeats 8000000 in
theorem over_calls_ (a0 a1 a2 a3 b0 b1 b2 b3 : Int) (p : Nat) (w : World) (hb : BoxAt w p (b0, b1, b2, b3))
    (h0 : 0 ≤ a0) (h0' : a0 ≤ 6) (h1 : 0 ≤ a1) (h1' : a1 ≤ 6) (h2 : 0 ≤ a2) (h2' : a2 ≤ 6) (h3 : 0 ≤ a3) (h3' : a3 ≤ 6) (k0 : 0 ≤ b0) (k0' : b0 ≤ 6) (k1 : 0 ≤ b1) (k1' : b1 ≤ 6) (k2 : 0 ≤ b2) (k2' : b2 ≤ 6) (k3 : 0 ≤ b3) (k3' : b3 ≤ 6) :
    Calls Try.prog 61 #[.agg #[.int .i64 a0, .int .i64 a1, .int .i64 a2, .int .i64 a3], .pointer (some ⟨p, 0, none⟩)] w fun e w' => e = .returned (.agg #[.int .i64 (mx 0 (a0 - b0)), .int .i64 (mx 0 (a1 - b1)), .int .i64 (mx 0 (a2 - b2)), .int .i64 (mx 0 (a3 - b3))]) ∧ Below w.heap.size w w' := by
  have hlt := hb.lt
  have HL := Aside0.mk hlt
  have hne : w.heap.size ≠ p := by omega
  have hne2 : p ≠ w.heap.size := by omega
  obtain ⟨x0, x1, x2, x3⟩ := hb
  dsimp only at x0 x1 x2 x3
  go_enter Try.func61, Try.ntmps61
  go_wp2
  refine wp_loop_rounds 5 ?_
  simp only [Code.rounds]
  go_wp2
  go_region
  all_goals go_wp2
  all_goals go_region
  all_goals go_wp2
  all_goals go_region
  all_goals go_wp2
  all_goals go_region
  all_goals go_wp2
  all_goals
    refine bodyPost_ret (by simp [results, Try.results61, go_sem]; rfl) rfl ?_
    refine ⟨?_, by repeat (first | exact Below.refl _ _ | apply below_alloc | apply below_drew1)⟩
    have e_ : ∀ x y : Int, (y < x → mx 0 (x - y) = x - y) ∧ (¬ y < x → mx 0 (x - y) = 0) := fun x y => ⟨fun h => by unfold mx; rw [if_pos (by omega)], fun h => by unfold mx; rw [if_neg (by omega)]⟩
    have c0 := e_ a0 b0
    have c1 := e_ a1 b1
    have c2 := e_ a2 b2
    have c3 := e_ a3 b3
    clear e_ x0 x1 x2 x3
    first
      | (simp_all; done)
      | (trace_state; sorry)
theorem over_calls (m k : M4) (p : Nat) (w : World) (hb : BoxAt w p k) (hm : V6 m) (hk : V6 k) : Calls Try.prog 61 #[mv m, .pointer (some ⟨p, 0, none⟩)] w fun e w' => e = .returned (mv (overM k m)) ∧ Below w.heap.size w w' := by
  obtain ⟨a0, a1, a2, a3⟩ := m
  obtain ⟨b0, b1, b2, b3⟩ := k
  exact over_calls_ a0 a1 a2 a3 b0 b1 b2 b3 p w hb hm.1.1 hm.1.2 hm.2.1.1 hm.2.1.2 hm.2.2.1.1 hm.2.2.1.2 hm.2.2.2.1 hm.2.2.2.2 hk.1.1 hk.1.2 hk.2.1.1 hk.2.1.2 hk.2.2.1.1 hk.2.2.1.2 hk.2.2.2.1 hk.2.2.2.2
set_option maxRecDepth 100000 in
set_option maxHeartbeats 8000000 in
theorem num_calls_ (a0 a1 a2 a3 b0 b1 b2 b3 : Int) (p : Nat) (w : World) (hb : BoxAt w p (b0, b1, b2, b3))
    (h0 : 0 ≤ a0) (h0' : a0 ≤ 6) (h1 : 0 ≤ a1) (h1' : a1 ≤ 6) (h2 : 0 ≤ a2) (h2' : a2 ≤ 6) (h3 : 0 ≤ a3) (h3' : a3 ≤ 6) (k0 : 0 ≤ b0) (k0' : b0 ≤ 6) (k1 : 0 ≤ b1) (k1' : b1 ≤ 6) (k2 : 0 ≤ b2) (k2' : b2 ≤ 6) (k3 : 0 ≤ b3) (k3' : b3 ≤ 6) :
    Calls Try.prog 85 #[.agg #[.int .i64 a0, .int .i64 a1, .int .i64 a2, .int .i64 a3], .pointer (some ⟨p, 0, none⟩)] w fun e w' => e = .returned (.agg #[.int .i64 (mx 0 (a0 - b0)), .int .i64 (mx 0 (a1 - b1)), .int .i64 (mx 0 (a2 - b2)), .int .i64 (mx 0 (a3 - b3))]) ∧ Below w.heap.size w w' := by
  have hlt := hb.lt
  have HL := Aside0.mk hlt
  have hne : w.heap.size ≠ p := by omega
  have hne2 : p ≠ w.heap.size := by omega
  obtain ⟨x0, x1, x2, x3⟩ := hb
  dsimp only at x0 x1 x2 x3
  go_enter Try.func85, Try.ntmps85
  go_wp2
  refine wp_loop_rounds 5 ?_
  simp only [Code.rounds]
  go_wp2
  go_region
  all_goals go_wp2
  all_goals go_region
  all_goals go_wp2
  all_goals go_region
  all_goals go_wp2
  all_goals go_region
  all_goals go_wp2
  all_goals
    refine bodyPost_ret (by simp [results, Try.results85, go_sem]; rfl) rfl ?_
    refine ⟨?_, by repeat (first | exact Below.refl _ _ | apply below_alloc | apply below_drew1)⟩
    have e_ : ∀ x y : Int, (y < x → mx 0 (x - y) = x - y) ∧ (¬ y < x → mx 0 (x - y) = 0) := fun x y => ⟨fun h => by unfold mx; rw [if_pos (by omega)], fun h => by unfold mx; rw [if_neg (by omega)]⟩
    have c0 := e_ a0 b0
    have c1 := e_ a1 b1
    have c2 := e_ a2 b2
    have c3 := e_ a3 b3
    clear e_ x0 x1 x2 x3
    first
      | (simp_all; done)
      | (trace_state; sorry)
theorem num_calls (m k : M4) (p : Nat) (w : World) (hb : BoxAt w p k) (hm : V6 m) (hk : V6 k) : Calls Try.prog 85 #[mv m, .pointer (some ⟨p, 0, none⟩)] w fun e w' => e = .returned (mv (overM k m)) ∧ Below w.heap.size w w' := by
  obtain ⟨a0, a1, a2, a3⟩ := m
  obtain ⟨b0, b1, b2, b3⟩ := k
  exact num_calls_ a0 a1 a2 a3 b0 b1 b2 b3 p w hb hm.1.1 hm.1.2 hm.2.1.1 hm.2.1.2 hm.2.2.1.1 hm.2.2.1.2 hm.2.2.2.1 hm.2.2.2.2 hk.1.1 hk.1.2 hk.2.1.1 hk.2.1.2 hk.2.2.1.1 hk.2.2.1.2 hk.2.2.2.1 hk.2.2.2.2
set_option maxRecDepth 100000 in
set_option maxHeartbeats 16000000 in
theorem dual_calls_ (a0 a1 a2 a3 b0 b1 b2 b3 : Int) (p : Nat) (w : World) (hb : BoxAt w p (b0, b1, b2, b3))
    (h0' : a0 ≤ 6) (h1' : a1 ≤ 6) (h2' : a2 ≤ 6) (h3' : a3 ≤ 6) (k0 : 0 ≤ b0) (k0' : b0 ≤ 6) (k1 : 0 ≤ b1) (k1' : b1 ≤ 6) (k2 : 0 ≤ b2) (k2' : b2 ≤ 6) (k3 : 0 ≤ b3) (k3' : b3 ≤ 6) :
    Calls Try.prog 73 #[.agg #[.int .i64 a0, .int .i64 a1, .int .i64 a2, .int .i64 a3], .pointer (some ⟨p, 0, none⟩)] w fun e w' => e = .returned (.agg #[.int .i64 (du b0 a0), .int .i64 (du b1 a1), .int .i64 (du b2 a2), .int .i64 (du b3 a3)]) ∧ Below w.heap.size w w' := by
  have hlt := hb.lt
  have HL := Aside0.mk hlt
  have hne : w.heap.size ≠ p := by omega
  have hne2 : p ≠ w.heap.size := by omega
  obtain ⟨x0, x1, x2, x3⟩ := hb
  dsimp only at x0 x1 x2 x3
  go_enter Try.func73, Try.ntmps73
  go_wp2
  refine wp_loop_rounds 5 ?_
  simp only [Code.rounds]
  go_wp2
  all_goals (try go_region)
  all_goals (try go_wp2)
  all_goals (try go_region)
  all_goals (try go_wp2)
  all_goals (try go_region)
  all_goals (try go_wp2)
  all_goals (try go_region)
  all_goals (try go_wp2)
  all_goals
    refine bodyPost_ret (by simp [results, Try.results73, go_sem]; rfl) rfl ?_
    refine ⟨?_, by repeat (first | exact Below.refl _ _ | apply below_alloc | apply below_drew1)⟩
    have e_ : ∀ t x : Int, (0 < x → du t x = t + 1 - x) ∧ (¬ 0 < x → du t x = x) := fun t x => ⟨fun h => du_l h, fun h => du_r h⟩
    have c0 := e_ b0 a0
    have c1 := e_ b1 a1
    have c2 := e_ b2 a2
    have c3 := e_ b3 a3
    clear e_ x0 x1 x2 x3
    first
      | (simp_all; done)
      | (trace_state; sorry)
theorem dual_calls (m k : M4) (p : Nat) (w : World) (hb : BoxAt w p k) (hm : V6 m) (hk : V6 k) : Calls Try.prog 73 #[mv m, .pointer (some ⟨p, 0, none⟩)] w fun e w' => e = .returned (mv (dualM k m)) ∧ Below w.heap.size w w' := by
  obtain ⟨a0, a1, a2, a3⟩ := m
  obtain ⟨b0, b1, b2, b3⟩ := k
  exact dual_calls_ a0 a1 a2 a3 b0 b1 b2 b3 p w hb hm.1.2 hm.2.1.2 hm.2.2.1.2 hm.2.2.2.2 hk.1.1 hk.1.2 hk.2.1.1 hk.2.1.2 hk.2.2.1.1 hk.2.2.1.2 hk.2.2.2.1 hk.2.2.2.2
theorem no_calls_ (y0 y1 y2 y3 m0 m1 m2 m3 : Int) (pm : Nat) (w : World) (hm : BoxAt w pm (m0, m1, m2, m3)) :
    Calls Try.prog 71 #[.agg #[.int .i64 y0, .int .i64 y1, .int .i64 y2, .int .i64 y3], .pointer (some ⟨pm, 0, none⟩)] w fun e w' => e = .returned (.bool (!divs (y0, y1, y2, y3) (m0, m1, m2, m3))) ∧ Below w.heap.size w w' := by
  have hX := Aside0.mk (boxAt_alloc hm (.cells #[.int .i64 y0, .int .i64 y1, .int .i64 y2, .int .i64 y3] 76))
  obtain ⟨x0, x1, x2, x3⟩ := hX.out
  dsimp only at x0 x1 x2 x3
  clear hm
  go_enter Try.func71, Try.ntmps71
  go_wp2_with (go_at_call 72; refine (divides_calls_ _ _ _ _ _ _ _ _ _).mono ?_; rintro e w1 ⟨rfl, hb⟩; have HB := Aside0.mk hb.below; clear hb)
  go_ret
  exact ⟨rfl, below_step (below_alloc (Below.refl _ _) _) HB.out⟩
theorem no_calls (y m : M4) (pm : Nat) (w : World) (hm : BoxAt w pm m) : Calls Try.prog 71 #[mv y, .pointer (some ⟨pm, 0, none⟩)] w fun e w' => e = .returned (.bool (!divs y m)) ∧ Below w.heap.size w w' := by
  obtain ⟨y0, y1, y2, y3⟩ := y
  obtain ⟨m0, m1, m2, m3⟩ := m
  exact no_calls_ y0 y1 y2 y3 m0 m1 m2 m3 pm w hm
end Go.Proofs.Ytmekcfkfkpbfeaa.H
namespace Go.Proofs.Ytmekcfkfkpbfeaa.H
open Go.RowKit Go.Proofs.YtmekcfkfkpbfeaaW.PrintWords Go.Proofs.YtmekcfkfkpbfeaaW.PrintLast Go.Proofs.YtmekcfkfkpbfeaaW.PrintMore
attribute [local go_sem] max2_int min2_int max_two min_two max_three min_three max_four min_four
set_option linter.unusedVariables false
set_option linter.unusedSimpArgs false
set_option maxRecDepth 100000 in
set_option maxHeartbeats 16000000 in
theorem changed_calls (f : M4 → M4) (fg : FuncId) (fn : Func) (hfb : Try.prog.funcs[fg]? = some fn) (hnb : (fn.name == "runtime.NumGoroutine") = false) (hbb : fn.body.isSome = true) (cb : Array Value) (g : Nat) (n : Int) (xs : List M4) (w : World)
    (hc : ∀ (W : World) (m : M4), m ∈ xs → Below w.heap.size w W → Calls Try.prog fg (#[mv m] ++ cb) W fun e w' => e = .returned (mv (f m)) ∧ Below W.heap.size W w') (hi : Ideal w g n xs) (hl : xs.length < 100000000) :
    Calls Try.prog 54 #[.pointer (some ⟨g, 0, none⟩), .func (.func fg) #[] cb] w fun e w' => ∃ g', e = .returned (.pointer (some ⟨g', 0, none⟩)) ∧ IdealAt w' w.heap.size g' n (least divs (xs.map f)) ∧ Below w.heap.size w w' := by
  have eb : ∀ args w, (callFunc fg args).run Try.prog w = .ok (.enter fg args) w := fun args w => enters_ (P := Try.prog) hfb hnb hbb args w
  have EB := Aside0.mk eb
  obtain ⟨A, c, i0, i1, hr⟩ := hi
  have HR := Aside0.mk hr
  have HL := Aside0.mk hl
  have HC := Aside0.mk hc
  have I1 := Aside0.mk i1
  have j1 : ∀ o, (w.alloc o).cell? ⟨g, 1, none⟩ = some (.slice A xs.length c) := fun o => pw_cell_below (below_alloc (Below.refl _ _) o) i1
  clear hr hc hfb hnb hbb eb
  go_enter Try.func54, Try.ntmps54
  go_wp2
  clear i0 i1 j1 hl
  have HB := Aside0.mk (below_alloc (Below.refl w.heap.size w) (.cells #[.int .i64 n, .slice none 0 0] 73))
  have HP := Aside0.mk (heap_alloc_new w (.cells #[.int .i64 n, .slice none 0 0] 73))
  go_loopw [19] (fun v19 w' => ∃ (k : Nat) (v : Value), k ≤ xs.length ∧ v19 = .int .i64 (k : Int) ∧ Aside0 (K4.R 76 w' w.heap.size (fun _ => True) v ((xs.take k).map f)) ∧ Aside0 (Below w.heap.size w w') ∧ Aside0 (w'.heap[w.heap.size]? = some (.cells #[.int .i64 n, v] 73 (0, 0)))) (fun v19 _ => xs.length - (intOf v19).toNat)
  case atStart => exact ⟨0, _, Nat.zero_le _, rfl, ⟨Kd.R_nil _ _ _ _ _⟩, HB, HP⟩
  case round =>
    clear HB HP
    obtain ⟨k, v, hk, rfl, HO, HB, HP⟩ := hrel
    have hxl : xs.length < 100000000 := HL.out
    by_cases hlt : k < xs.length
    · have hltb : decide ((k : Int) < (xs.length : Int)) = true := decide_eq_true (by omega)
      have hk0 : (0 : Int) ≤ (k : Int) := by omega
      obtain ⟨x, hxk⟩ : ∃ x, xs[k]? = some x := ⟨_, List.getElem?_eq_getElem hlt⟩
      obtain ⟨gg, hg, hgl, x0, x1, x2, x3⟩ := (HR.out.below HB.out).elem k x hxk
      subst hg
      have HST : Aside0 ((xs.take (k + 1)).map f = (xs.take k).map f ++ [f x]) := ⟨by
        obtain ⟨hk', e⟩ := List.getElem?_eq_some_iff.1 hxk
        rw [List.take_succ_eq_append_getElem hk', List.map_append, e]
        rfl⟩
      have HOL : Aside0 (((xs.take k).map f).length < 100000000) := ⟨by rw [List.length_map, List.length_take]; omega⟩
      have H1 := Aside0.mk (fun W h => HC.out W x (List.mem_of_getElem? hxk) h)
      clear hxk
      obtain ⟨A7, c7, hv, _, _⟩ := rows_of_R HO.out
      subst hv
      generalize hout : (xs.take k).map f = out at *
      clear hout
      generalize hfx : f x = y at *
      clear hfx
      have HX1 := Aside0.mk (boxAt_new wr x 76)
      have HB1 := Aside0.mk (below_alloc HB.out (.cells #[.int .i64 x.1, .int .i64 x.2.1, .int .i64 x.2.2.1, .int .i64 x.2.2.2] 76))
      have HP1 := Aside0.mk (blk_alloc HP.out (.cells #[.int .i64 x.1, .int .i64 x.2.1, .int .i64 x.2.2.1, .int .i64 x.2.2.2] 76))
      have HO1 := Aside0.mk (Kd.R_alloc HO.out (.cells #[.int .i64 x.1, .int .i64 x.2.1, .int .i64 x.2.2.1, .int .i64 x.2.2.2] 76))
      obtain ⟨m0, m1, m2, m3⟩ := x
      obtain ⟨y0, y1, y2, y3⟩ := y
      unfold mv at H1
      dsimp only at x0 x1 x2 x3 HX1 HB1 HP1 HO1 H1
      go_wp2
      clear x0 x1 x2 x3
      generalize (wr.alloc (.cells #[.int .i64 m0, .int .i64 m1, .int .i64 m2, .int .i64 m3] 76)) = W at *
      obtain ⟨x0, x1, x2, x3⟩ := HX1.out
      have z1 := (blk_cell HP1.out 1).trans rfl
      dsimp only at x0 x1 x2 x3
      have eb := EB.out

      have LT1 : Aside0 (w.heap.size < W.heap.size) := ⟨blk_lt HP1.out⟩
      have NB1 : Aside0 (some w.heap.size ≠ (Value.slice A7 out.length c7).ownBlock) := ⟨Kd.R_ne HO1.out HP1.out (by decide)⟩
      refine wp_region_held_drew (S := (fun w' => True)) (by kernel_rfl) ?_ (fun hHeld => ?_)
      · trivial
      refine wpAnyH_take (i := 0) (oi := { dst := some 23, op := _, type := _, pos := _, after := _, guard := _ }) (v := ?_) rfl (by kernel_rfl) (by kernel_rfl) (by kernel_rfl) (fun _ _ _ h => h) (Or.inl ⟨by rfl, ?_⟩) (by assumption) ?_
      rotate_left
      · (intro w hSw; (try dsimp only at hSw); go_simp; try (with_reducible rfl))
      try simp only [Act.put, List.setIfInBounds_toArray, List.set_cons_zero, List.set_cons_succ]
      refine wpAnyH_take (i := 1) (oi := { dst := some 24, op := _, type := _, pos := _, after := _, guard := _ }) (v := ?_) rfl (by kernel_rfl) (by kernel_rfl) (by kernel_rfl) (fun _ _ _ h => h) (Or.inl ⟨by rfl, ?_⟩) (by assumption) ?_
      rotate_left
      · (intro w hSw; (try dsimp only at hSw); go_simp; try (with_reducible rfl))
      try simp only [Act.put, List.setIfInBounds_toArray, List.set_cons_zero, List.set_cons_succ]
      refine wpAnyH_take (i := 2) (oi := { dst := some 25, op := _, type := _, pos := _, after := _, guard := _ }) (v := ?_) rfl (by kernel_rfl) (by kernel_rfl) (by kernel_rfl) (fun _ _ _ h => h) (Or.inl ⟨by rfl, ?_⟩) (by assumption) ?_
      rotate_left
      · (intro w hSw; (try dsimp only at hSw); go_simp; try (with_reducible rfl))
      try simp only [Act.put, List.setIfInBounds_toArray, List.set_cons_zero, List.set_cons_succ]
      refine wpAnyH_take (i := 3) (oi := { dst := some 26, op := _, type := _, pos := _, after := _, guard := _ }) (v := ?_) rfl (by kernel_rfl) (by kernel_rfl) (by kernel_rfl) (fun _ _ _ h => h) (Or.inl ⟨by rfl, ?_⟩) (by assumption) ?_
      rotate_left
      · (intro w hSw; (try dsimp only at hSw); go_simp; try (with_reducible rfl))
      try simp only [Act.put, List.setIfInBounds_toArray, List.set_cons_zero, List.set_cons_succ]
      refine wpAnyH_take (i := 5) (oi := { dst := some 28, op := _, type := _, pos := _, after := _, guard := _ }) (v := ?_) rfl (by kernel_rfl) (by kernel_rfl) (by kernel_rfl) (fun _ _ _ h => h) (Or.inl ⟨by rfl, ?_⟩) (by assumption) ?_
      rotate_left
      · (intro w hSw; (try dsimp only at hSw); go_simp; try (with_reducible rfl))
      try simp only [Act.put, List.setIfInBounds_toArray, List.set_cons_zero, List.set_cons_succ]
      refine wpAnyH_ready (rs := [4, 6]) (by kernel_rfl) (by simp) ?_
      refine AllReadyH.cons (o := { dst := some 27, op := _, type := _, pos := _, after := _, guard := _ }) rfl (fun K hK => ?_) (AllReadyH.cons (o := { dst := some 29, op := _, type := _, pos := _, after := _, guard := _ }) rfl (fun K hK => ?_) AllReadyH.nil)
      · go_simp
        refine hK.out _ _ ?_ (fun hHeld => ?_)
        · trivial
        clear hK K
        try simp only [Act.put, List.setIfInBounds_toArray, List.set_cons_zero, List.set_cons_succ]
        refine wpAnyH_ready (rs := [6]) (by kernel_rfl) (by simp) ?_
        refine AllReadyH.cons (o := { dst := some 29, op := _, type := _, pos := _, after := _, guard := _ }) rfl (fun K hK => ?_) AllReadyH.nil
        go_simp
        refine hK.out _ _ ?_ (fun hHeld => ?_)
        · trivial
        clear hK K
        try simp only [Act.put, List.setIfInBounds_toArray, List.set_cons_zero, List.set_cons_succ]
        refine wpAnyH_ready (rs := [7]) (by kernel_rfl) (by simp) ?_
        refine AllReadyH.cons (o := { dst := some 30, op := _, type := _, pos := _, after := _, guard := _ }) rfl (fun K hK => ?_) AllReadyH.nil
        go_simp
        (go_at_fn fg; refine (H1.out _ (below_drew1 HB1.out)).mono ?_; rintro e w1 ⟨rfl, hb1⟩; have z2 : w1.cell? ⟨w.heap.size, 1, none⟩ = some (.slice A7 out.length c7) := pw_cell_below hb1 z1; have z3 : ∀ o, (w1.alloc o).cell? ⟨w.heap.size, 1, none⟩ = some (.slice A7 out.length c7) := fun o => pw_cell_below (below_alloc (Below.refl w1.heap.size w1) o) z2; have HB2 := Aside0.mk (below_step (below_drew1 HB1.out) hb1); have HP2 := Aside0.mk (heap_below (blk_drew HP1.out) hb1); have HO2 := Aside0.mk (Kd.R_below (Kd.R_drew HO1.out) hb1); clear hb1)
        refine hK.out _ _ ?_ (fun hHeld => ?_)
        · trivial
        clear hK K
        try simp only [Act.put, List.setIfInBounds_toArray, List.set_cons_zero, List.set_cons_succ]
        refine wpAnyH_ready (rs := [8]) (by kernel_rfl) (by simp) ?_
        refine AllReadyH.cons (o := { dst := some 31, op := _, type := _, pos := _, after := _, guard := _ }) rfl (fun K hK => ?_) AllReadyH.nil
        go_simp
        refine hK.out _ _ ?_ (fun hHeld => ?_)
        · trivial
        clear hK K
        try simp only [Act.put, List.setIfInBounds_toArray, List.set_cons_zero, List.set_cons_succ]
        refine wpAnyH_ready (rs := [9]) (by kernel_rfl) (by simp) ?_
        refine AllReadyH.cons (o := { dst := some 32, op := _, type := _, pos := _, after := _, guard := _ }) rfl (fun K hK => ?_) AllReadyH.nil
        (refine Kd.R_append_step K4 (w0 := w) w.heap.size (by rfl) (.tmp 27) (.tmp 31) 71 76 (.agg #[.int .i64 0, .int .i64 0, .int .i64 0, .int .i64 0]) 32 rfl Try.underlying71 info76 rfl (by decide) (by omega) (.slice A7 out.length c7) out (y0, y1, y2, y3) (enc (y0, y1, y2, y3)) (fun _ => True) (fun _ => False) rfl rfl rfl (fun _ h => h.elim) (fun _ _ => trivial) HO2.out HB2.out HB2.out.size (by have := HOL.out; omega) ?_; intro v1 w2 ho hb hg hat; have HQ := Aside0.mk (blk_grown HP2.out hg NB1.out); have g0 := (blk_cell HQ.out 1).trans rfl; have g1 := blk_frozen HQ.out 1; obtain ⟨A8, c8, e8⟩ := Kd.R_slice ho; subst e8)
        refine hK.out _ _ ?_ (fun hHeld => ?_)
        · trivial
        clear hK K
        try simp only [Act.put, List.setIfInBounds_toArray, List.set_cons_zero, List.set_cons_succ]
        refine wpAnyH_take (i := 10) (oi := { dst := some 33, op := _, type := _, pos := _, after := _, guard := _ }) (v := ?_) rfl (by kernel_rfl) (by kernel_rfl) (by kernel_rfl) (fun _ _ _ h => h) (Or.inl ⟨by rfl, ?_⟩) (by assumption) ?_
        rotate_left
        · (intro w hSw; (try dsimp only at hSw); go_simp; try (with_reducible rfl))
        try simp only [Act.put, List.setIfInBounds_toArray, List.set_cons_zero, List.set_cons_succ]
        refine wpAnyH_take (i := 11) (oi := { dst := some 34, op := _, type := _, pos := _, after := _, guard := _ }) (v := ?_) rfl (by kernel_rfl) (by kernel_rfl) (by kernel_rfl) (fun _ _ _ h => h) (Or.inl ⟨by rfl, ?_⟩) (by assumption) ?_
        rotate_left
        · (intro w hSw; (try dsimp only at hSw); go_simp; try (with_reducible rfl))
        try simp only [Act.put, List.setIfInBounds_toArray, List.set_cons_zero, List.set_cons_succ]
        refine wpAnyH_ready (rs := [12]) (by kernel_rfl) (by simp) ?_
        refine AllReadyH.cons (o := { dst := none, op := _, type := _, pos := _, after := _, guard := _ }) rfl (fun K hK => ?_) AllReadyH.nil
        go_simp
        refine hK.out _ _ ?_ (fun hHeld => ?_)
        · trivial
        clear hK K
        try simp only [Act.put, List.setIfInBounds_toArray, List.set_cons_zero, List.set_cons_succ]
        refine wpAnyH_done (by kernel_rfl) ?_ _
        rw [List.length_append, List.length_singleton] at ho
        have HP3 := Aside0.mk (blk_put HQ.out 1 (.slice A8 (out.length + 1) c8) rfl)
        have HO3 := Aside0.mk (Kd.R_set ho HQ.out (by intro q hq; rw [List.mem_singleton.1 hq]; decide) 1 (.slice A8 (out.length + 1) c8))
        have HB3 := Aside0.mk (hb.setCell (p := ⟨w.heap.size, 1, none⟩) (Nat.le_refl _) (.slice A8 (out.length + 1) c8))
        clear ho hb hg hat g0 g1 z1 x0 x1 x2 x3
        try clear z2 z3
        clear eb
        go_wp2
        go_roundw
        case rel => exact ⟨k + 1, _, by omega, by go_num, ⟨by rw [HST.out]; exact HO3.out⟩, HB3, HP3⟩
        case measure => simp [intOf]; omega
      · go_simp
        refine hK.out _ _ ?_ (fun hHeld => ?_)
        · trivial
        clear hK K
        try simp only [Act.put, List.setIfInBounds_toArray, List.set_cons_zero, List.set_cons_succ]
        refine wpAnyH_ready (rs := [4, 7]) (by kernel_rfl) (by simp) ?_
        refine AllReadyH.cons (o := { dst := some 27, op := _, type := _, pos := _, after := _, guard := _ }) rfl (fun K hK => ?_) (AllReadyH.cons (o := { dst := some 30, op := _, type := _, pos := _, after := _, guard := _ }) rfl (fun K hK => ?_) AllReadyH.nil)
        · go_simp
          refine hK.out _ _ ?_ (fun hHeld => ?_)
          · trivial
          clear hK K
          try simp only [Act.put, List.setIfInBounds_toArray, List.set_cons_zero, List.set_cons_succ]
          refine wpAnyH_ready (rs := [7]) (by kernel_rfl) (by simp) ?_
          refine AllReadyH.cons (o := { dst := some 30, op := _, type := _, pos := _, after := _, guard := _ }) rfl (fun K hK => ?_) AllReadyH.nil
          go_simp
          (go_at_fn fg; refine (H1.out _ (below_drew1 HB1.out)).mono ?_; rintro e w1 ⟨rfl, hb1⟩; have z2 : w1.cell? ⟨w.heap.size, 1, none⟩ = some (.slice A7 out.length c7) := pw_cell_below hb1 z1; have z3 : ∀ o, (w1.alloc o).cell? ⟨w.heap.size, 1, none⟩ = some (.slice A7 out.length c7) := fun o => pw_cell_below (below_alloc (Below.refl w1.heap.size w1) o) z2; have HB2 := Aside0.mk (below_step (below_drew1 HB1.out) hb1); have HP2 := Aside0.mk (heap_below (blk_drew HP1.out) hb1); have HO2 := Aside0.mk (Kd.R_below (Kd.R_drew HO1.out) hb1); clear hb1)
          refine hK.out _ _ ?_ (fun hHeld => ?_)
          · trivial
          clear hK K
          try simp only [Act.put, List.setIfInBounds_toArray, List.set_cons_zero, List.set_cons_succ]
          refine wpAnyH_ready (rs := [8]) (by kernel_rfl) (by simp) ?_
          refine AllReadyH.cons (o := { dst := some 31, op := _, type := _, pos := _, after := _, guard := _ }) rfl (fun K hK => ?_) AllReadyH.nil
          go_simp
          refine hK.out _ _ ?_ (fun hHeld => ?_)
          · trivial
          clear hK K
          try simp only [Act.put, List.setIfInBounds_toArray, List.set_cons_zero, List.set_cons_succ]
          refine wpAnyH_ready (rs := [9]) (by kernel_rfl) (by simp) ?_
          refine AllReadyH.cons (o := { dst := some 32, op := _, type := _, pos := _, after := _, guard := _ }) rfl (fun K hK => ?_) AllReadyH.nil
          (refine Kd.R_append_step K4 (w0 := w) w.heap.size (by rfl) (.tmp 27) (.tmp 31) 71 76 (.agg #[.int .i64 0, .int .i64 0, .int .i64 0, .int .i64 0]) 32 rfl Try.underlying71 info76 rfl (by decide) (by omega) (.slice A7 out.length c7) out (y0, y1, y2, y3) (enc (y0, y1, y2, y3)) (fun _ => True) (fun _ => False) rfl rfl rfl (fun _ h => h.elim) (fun _ _ => trivial) HO2.out HB2.out HB2.out.size (by have := HOL.out; omega) ?_; intro v1 w2 ho hb hg hat; have HQ := Aside0.mk (blk_grown HP2.out hg NB1.out); have g0 := (blk_cell HQ.out 1).trans rfl; have g1 := blk_frozen HQ.out 1; obtain ⟨A8, c8, e8⟩ := Kd.R_slice ho; subst e8)
          refine hK.out _ _ ?_ (fun hHeld => ?_)
          · trivial
          clear hK K
          try simp only [Act.put, List.setIfInBounds_toArray, List.set_cons_zero, List.set_cons_succ]
          refine wpAnyH_take (i := 10) (oi := { dst := some 33, op := _, type := _, pos := _, after := _, guard := _ }) (v := ?_) rfl (by kernel_rfl) (by kernel_rfl) (by kernel_rfl) (fun _ _ _ h => h) (Or.inl ⟨by rfl, ?_⟩) (by assumption) ?_
          rotate_left
          · (intro w hSw; (try dsimp only at hSw); go_simp; try (with_reducible rfl))
          try simp only [Act.put, List.setIfInBounds_toArray, List.set_cons_zero, List.set_cons_succ]
          refine wpAnyH_take (i := 11) (oi := { dst := some 34, op := _, type := _, pos := _, after := _, guard := _ }) (v := ?_) rfl (by kernel_rfl) (by kernel_rfl) (by kernel_rfl) (fun _ _ _ h => h) (Or.inl ⟨by rfl, ?_⟩) (by assumption) ?_
          rotate_left
          · (intro w hSw; (try dsimp only at hSw); go_simp; try (with_reducible rfl))
          try simp only [Act.put, List.setIfInBounds_toArray, List.set_cons_zero, List.set_cons_succ]
          refine wpAnyH_ready (rs := [12]) (by kernel_rfl) (by simp) ?_
          refine AllReadyH.cons (o := { dst := none, op := _, type := _, pos := _, after := _, guard := _ }) rfl (fun K hK => ?_) AllReadyH.nil
          go_simp
          refine hK.out _ _ ?_ (fun hHeld => ?_)
          · trivial
          clear hK K
          try simp only [Act.put, List.setIfInBounds_toArray, List.set_cons_zero, List.set_cons_succ]
          refine wpAnyH_done (by kernel_rfl) ?_ _
          rw [List.length_append, List.length_singleton] at ho
          have HP3 := Aside0.mk (blk_put HQ.out 1 (.slice A8 (out.length + 1) c8) rfl)
          have HO3 := Aside0.mk (Kd.R_set ho HQ.out (by intro q hq; rw [List.mem_singleton.1 hq]; decide) 1 (.slice A8 (out.length + 1) c8))
          have HB3 := Aside0.mk (hb.setCell (p := ⟨w.heap.size, 1, none⟩) (Nat.le_refl _) (.slice A8 (out.length + 1) c8))
          clear ho hb hg hat g0 g1 z1 x0 x1 x2 x3
          try clear z2 z3
          clear eb
          go_wp2
          go_roundw
          case rel => exact ⟨k + 1, _, by omega, by go_num, ⟨by rw [HST.out]; exact HO3.out⟩, HB3, HP3⟩
          case measure => simp [intOf]; omega
        · go_simp
          (go_at_fn fg; refine (H1.out _ (below_drew1 HB1.out)).mono ?_; rintro e w1 ⟨rfl, hb1⟩; have z2 : w1.cell? ⟨w.heap.size, 1, none⟩ = some (.slice A7 out.length c7) := pw_cell_below hb1 z1; have z3 : ∀ o, (w1.alloc o).cell? ⟨w.heap.size, 1, none⟩ = some (.slice A7 out.length c7) := fun o => pw_cell_below (below_alloc (Below.refl w1.heap.size w1) o) z2; have HB2 := Aside0.mk (below_step (below_drew1 HB1.out) hb1); have HP2 := Aside0.mk (heap_below (blk_drew HP1.out) hb1); have HO2 := Aside0.mk (Kd.R_below (Kd.R_drew HO1.out) hb1); clear hb1)
          refine hK.out _ _ ?_ (fun hHeld => ?_)
          · trivial
          clear hK K
          try simp only [Act.put, List.setIfInBounds_toArray, List.set_cons_zero, List.set_cons_succ]
          refine wpAnyH_ready (rs := [4, 8]) (by kernel_rfl) (by simp) ?_
          refine AllReadyH.cons (o := { dst := some 27, op := _, type := _, pos := _, after := _, guard := _ }) rfl (fun K hK => ?_) (AllReadyH.cons (o := { dst := some 31, op := _, type := _, pos := _, after := _, guard := _ }) rfl (fun K hK => ?_) AllReadyH.nil)
          · go_simp
            refine hK.out _ _ ?_ (fun hHeld => ?_)
            · trivial
            clear hK K
            try simp only [Act.put, List.setIfInBounds_toArray, List.set_cons_zero, List.set_cons_succ]
            refine wpAnyH_ready (rs := [8]) (by kernel_rfl) (by simp) ?_
            refine AllReadyH.cons (o := { dst := some 31, op := _, type := _, pos := _, after := _, guard := _ }) rfl (fun K hK => ?_) AllReadyH.nil
            go_simp
            refine hK.out _ _ ?_ (fun hHeld => ?_)
            · trivial
            clear hK K
            try simp only [Act.put, List.setIfInBounds_toArray, List.set_cons_zero, List.set_cons_succ]
            refine wpAnyH_ready (rs := [9]) (by kernel_rfl) (by simp) ?_
            refine AllReadyH.cons (o := { dst := some 32, op := _, type := _, pos := _, after := _, guard := _ }) rfl (fun K hK => ?_) AllReadyH.nil
            (refine Kd.R_append_step K4 (w0 := w) w.heap.size (by rfl) (.tmp 27) (.tmp 31) 71 76 (.agg #[.int .i64 0, .int .i64 0, .int .i64 0, .int .i64 0]) 32 rfl Try.underlying71 info76 rfl (by decide) (by omega) (.slice A7 out.length c7) out (y0, y1, y2, y3) (enc (y0, y1, y2, y3)) (fun _ => True) (fun _ => False) rfl rfl rfl (fun _ h => h.elim) (fun _ _ => trivial) HO2.out HB2.out HB2.out.size (by have := HOL.out; omega) ?_; intro v1 w2 ho hb hg hat; have HQ := Aside0.mk (blk_grown HP2.out hg NB1.out); have g0 := (blk_cell HQ.out 1).trans rfl; have g1 := blk_frozen HQ.out 1; obtain ⟨A8, c8, e8⟩ := Kd.R_slice ho; subst e8)
            refine hK.out _ _ ?_ (fun hHeld => ?_)
            · trivial
            clear hK K
            try simp only [Act.put, List.setIfInBounds_toArray, List.set_cons_zero, List.set_cons_succ]
            refine wpAnyH_take (i := 10) (oi := { dst := some 33, op := _, type := _, pos := _, after := _, guard := _ }) (v := ?_) rfl (by kernel_rfl) (by kernel_rfl) (by kernel_rfl) (fun _ _ _ h => h) (Or.inl ⟨by rfl, ?_⟩) (by assumption) ?_
            rotate_left
            · (intro w hSw; (try dsimp only at hSw); go_simp; try (with_reducible rfl))
            try simp only [Act.put, List.setIfInBounds_toArray, List.set_cons_zero, List.set_cons_succ]
            refine wpAnyH_take (i := 11) (oi := { dst := some 34, op := _, type := _, pos := _, after := _, guard := _ }) (v := ?_) rfl (by kernel_rfl) (by kernel_rfl) (by kernel_rfl) (fun _ _ _ h => h) (Or.inl ⟨by rfl, ?_⟩) (by assumption) ?_
            rotate_left
            · (intro w hSw; (try dsimp only at hSw); go_simp; try (with_reducible rfl))
            try simp only [Act.put, List.setIfInBounds_toArray, List.set_cons_zero, List.set_cons_succ]
            refine wpAnyH_ready (rs := [12]) (by kernel_rfl) (by simp) ?_
            refine AllReadyH.cons (o := { dst := none, op := _, type := _, pos := _, after := _, guard := _ }) rfl (fun K hK => ?_) AllReadyH.nil
            go_simp
            refine hK.out _ _ ?_ (fun hHeld => ?_)
            · trivial
            clear hK K
            try simp only [Act.put, List.setIfInBounds_toArray, List.set_cons_zero, List.set_cons_succ]
            refine wpAnyH_done (by kernel_rfl) ?_ _
            rw [List.length_append, List.length_singleton] at ho
            have HP3 := Aside0.mk (blk_put HQ.out 1 (.slice A8 (out.length + 1) c8) rfl)
            have HO3 := Aside0.mk (Kd.R_set ho HQ.out (by intro q hq; rw [List.mem_singleton.1 hq]; decide) 1 (.slice A8 (out.length + 1) c8))
            have HB3 := Aside0.mk (hb.setCell (p := ⟨w.heap.size, 1, none⟩) (Nat.le_refl _) (.slice A8 (out.length + 1) c8))
            clear ho hb hg hat g0 g1 z1 x0 x1 x2 x3
            try clear z2 z3
            clear eb
            go_wp2
            go_roundw
            case rel => exact ⟨k + 1, _, by omega, by go_num, ⟨by rw [HST.out]; exact HO3.out⟩, HB3, HP3⟩
            case measure => simp [intOf]; omega
          · go_simp
            refine hK.out _ _ ?_ (fun hHeld => ?_)
            · trivial
            clear hK K
            try simp only [Act.put, List.setIfInBounds_toArray, List.set_cons_zero, List.set_cons_succ]
            refine wpAnyH_ready (rs := [4]) (by kernel_rfl) (by simp) ?_
            refine AllReadyH.cons (o := { dst := some 27, op := _, type := _, pos := _, after := _, guard := _ }) rfl (fun K hK => ?_) AllReadyH.nil
            go_simp
            refine hK.out _ _ ?_ (fun hHeld => ?_)
            · trivial
            clear hK K
            try simp only [Act.put, List.setIfInBounds_toArray, List.set_cons_zero, List.set_cons_succ]
            refine wpAnyH_ready (rs := [9]) (by kernel_rfl) (by simp) ?_
            refine AllReadyH.cons (o := { dst := some 32, op := _, type := _, pos := _, after := _, guard := _ }) rfl (fun K hK => ?_) AllReadyH.nil
            (refine Kd.R_append_step K4 (w0 := w) w.heap.size (by rfl) (.tmp 27) (.tmp 31) 71 76 (.agg #[.int .i64 0, .int .i64 0, .int .i64 0, .int .i64 0]) 32 rfl Try.underlying71 info76 rfl (by decide) (by omega) (.slice A7 out.length c7) out (y0, y1, y2, y3) (enc (y0, y1, y2, y3)) (fun _ => True) (fun _ => False) rfl rfl rfl (fun _ h => h.elim) (fun _ _ => trivial) HO2.out HB2.out HB2.out.size (by have := HOL.out; omega) ?_; intro v1 w2 ho hb hg hat; have HQ := Aside0.mk (blk_grown HP2.out hg NB1.out); have g0 := (blk_cell HQ.out 1).trans rfl; have g1 := blk_frozen HQ.out 1; obtain ⟨A8, c8, e8⟩ := Kd.R_slice ho; subst e8)
            refine hK.out _ _ ?_ (fun hHeld => ?_)
            · trivial
            clear hK K
            try simp only [Act.put, List.setIfInBounds_toArray, List.set_cons_zero, List.set_cons_succ]
            refine wpAnyH_take (i := 10) (oi := { dst := some 33, op := _, type := _, pos := _, after := _, guard := _ }) (v := ?_) rfl (by kernel_rfl) (by kernel_rfl) (by kernel_rfl) (fun _ _ _ h => h) (Or.inl ⟨by rfl, ?_⟩) (by assumption) ?_
            rotate_left
            · (intro w hSw; (try dsimp only at hSw); go_simp; try (with_reducible rfl))
            try simp only [Act.put, List.setIfInBounds_toArray, List.set_cons_zero, List.set_cons_succ]
            refine wpAnyH_take (i := 11) (oi := { dst := some 34, op := _, type := _, pos := _, after := _, guard := _ }) (v := ?_) rfl (by kernel_rfl) (by kernel_rfl) (by kernel_rfl) (fun _ _ _ h => h) (Or.inl ⟨by rfl, ?_⟩) (by assumption) ?_
            rotate_left
            · (intro w hSw; (try dsimp only at hSw); go_simp; try (with_reducible rfl))
            try simp only [Act.put, List.setIfInBounds_toArray, List.set_cons_zero, List.set_cons_succ]
            refine wpAnyH_ready (rs := [12]) (by kernel_rfl) (by simp) ?_
            refine AllReadyH.cons (o := { dst := none, op := _, type := _, pos := _, after := _, guard := _ }) rfl (fun K hK => ?_) AllReadyH.nil
            go_simp
            refine hK.out _ _ ?_ (fun hHeld => ?_)
            · trivial
            clear hK K
            try simp only [Act.put, List.setIfInBounds_toArray, List.set_cons_zero, List.set_cons_succ]
            refine wpAnyH_done (by kernel_rfl) ?_ _
            rw [List.length_append, List.length_singleton] at ho
            have HP3 := Aside0.mk (blk_put HQ.out 1 (.slice A8 (out.length + 1) c8) rfl)
            have HO3 := Aside0.mk (Kd.R_set ho HQ.out (by intro q hq; rw [List.mem_singleton.1 hq]; decide) 1 (.slice A8 (out.length + 1) c8))
            have HB3 := Aside0.mk (hb.setCell (p := ⟨w.heap.size, 1, none⟩) (Nat.le_refl _) (.slice A8 (out.length + 1) c8))
            clear ho hb hg hat g0 g1 z1 x0 x1 x2 x3
            try clear z2 z3
            clear eb
            go_wp2
            go_roundw
            case rel => exact ⟨k + 1, _, by omega, by go_num, ⟨by rw [HST.out]; exact HO3.out⟩, HB3, HP3⟩
            case measure => simp [intOf]; omega
    · have hltb : decide ((k : Int) < (xs.length : Int)) = false := decide_eq_false (by omega)
      obtain rfl : k = xs.length := by omega
      rw [List.take_length] at HO
      have HM : Aside0 (∀ W, IdealAt W w.heap.size w.heap.size n (xs.map f) → Calls Try.prog 47 #[.pointer (some ⟨w.heap.size, 0, none⟩)] W fun e w' => ∃ g', e = .returned (.pointer (some ⟨g', 0, none⟩)) ∧ IdealAt w' W.heap.size g' n (least divs (xs.map f)) ∧ Below W.heap.size W w') := ⟨fun W h => minimal_calls _ n (xs.map f) W h.reads (by rw [List.length_map]; have := HL.out; omega)⟩
      go_wp2_with (go_at_call 47; refine (HM.out _ ⟨v, Nat.le_refl _, HP.out, HO.out⟩).mono ?_; rintro e w1 ⟨g', rfl, hi1, hb1⟩; have HI1 := Aside0.mk (hi1.lower HB.out.size); have HB2 := Aside0.mk (below_step HB.out hb1); clear hi1 hb1)
      go_ret
      exact ⟨_, rfl, HI1.out, HB2.out⟩
end Go.Proofs.Ytmekcfkfkpbfeaa.H
