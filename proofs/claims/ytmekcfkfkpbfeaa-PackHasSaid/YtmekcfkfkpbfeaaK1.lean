/- The walks of pack.lcm, divides, compare, within, and of the closure in least; how the library is numbered here. -/
import Derived.Test.YtmekcfkfkpbfeaaGa0
import Derived.Shelf.SlSortCmp.QuietGrown
import Derived.BigRegion
import Derived.BigQuiet
import Derived.Deep.RegionHeld3
import Derived.Outline
import Derived.LoopN
import Derived.ChangeKeysEq
import Derived.Shelf.SlGeneric
import Derived.Ground.SlgfProg
import Derived.Ground.SlgqProg
import Derived.Ground.SlsfProg
import Derived.Shelf.SlicesQ.IndexFunc
import Derived.Shelf.SlicesQ.Contains
import Derived.Shelf.SlLaysF
import Derived.Shelf.SlLaysF0
import Derived.Shelf.SlLaysH
import Derived.Test.YtmekcfkfkpbfeaaProg
namespace Go.Proofs.Ytmekcfkfkpbfeaa.H
open Go.RowKit Go.Sort Go.Proofs.YtmekcfkfkpbfeaaW.PrintWords Go.Proofs.YtmekcfkfkpbfeaaW.PrintLast Go.Proofs.YtmekcfkfkpbfeaaW.PrintMore
set_option linter.unusedVariables false
/-- Old memory is as it was; the count of draws has not gone down. -/
structure Lays (w w' : World) : Prop where
  below : Below w.heap.size w w'
  drawn : w.drawn ≤ w'.drawn
theorem Lays.refl (w : World) : Lays w w := ⟨Below.refl _ _, Nat.le_refl _⟩
theorem lays_alloc {w W : World} (h : Lays w W) (o : Obj) : Lays w (W.alloc o) := ⟨below_alloc h.below o, h.drawn⟩
theorem lays_drew {w W : World} (h : Lays w W) : Lays w W.drew := ⟨h.below.drew, Nat.le_succ_of_le h.drawn⟩
theorem lays_drewN {w W : World} (h : Lays w W) (n : Nat) : Lays w (W.drewN n) := ⟨pw_below_drewN h.below n, Nat.le_trans h.drawn (Nat.le_add_right _ _)⟩
theorem lays_set {w W : World} (h : Lays w W) {p : Addr} (hp : w.heap.size ≤ p.block) (u : Value) : Lays w (W.setCell p u) := ⟨h.below.setCell hp u, h.drawn⟩
theorem lays_grow {w W : World} (h : Lays w W) (os : Array Obj) : Lays w (grow W os) := by
  refine ⟨⟨h.below.os, h.below.tape, h.below.output, ?_, fun k hk => ?_⟩, h.drawn⟩
  · rw [size_grow]; exact Nat.le_trans h.below.size (Nat.le_add_right _ _)
  · rw [heap_grow_old _ _ (Nat.lt_of_lt_of_le hk h.below.size)]; exact h.below.block k hk
theorem Lays.step {w W W' : World} (h : Lays w W) (k : Lays W W') : Lays w W' := ⟨below_step h.below k.below, Nat.le_trans h.drawn k.drawn⟩
theorem Lays.grown {w w' : World} (h : Lays w w') : ∃ n os, w' = grow (w.drewN n) os := by
  obtain ⟨⟨h1, h2, h3, h4, h5⟩, h6⟩ := h
  refine ⟨w'.drawn - w.drawn, w'.heap.extract w.heap.size w'.heap.size, ?_⟩
  have e : w'.heap = w.heap ++ w'.heap.extract w.heap.size w'.heap.size := by
    apply Array.ext_getElem?
    intro i
    by_cases hi : i < w.heap.size
    · rw [Array.getElem?_append, if_pos hi]; exact h5 i hi
    · rw [Array.getElem?_append, if_neg hi, Array.getElem?_extract]
      by_cases hj : i < w'.heap.size
      · rw [if_pos (by omega)]; congr 1; omega
      · rw [if_neg (by omega), Array.getElem?_eq_none (by omega)]
  cases w'
  cases w
  simp only [World.drewN, Sort.grow] at *
  subst h1 h2 h3
  simp only [World.mk.injEq, true_and, and_true]
  exact ⟨e, by omega⟩
theorem lays_of_grown {w w' : World} (h : ∃ n os, w' = grow (w.drewN n) os) : Lays w w' := by
  obtain ⟨n, os, rfl⟩ := h
  exact lays_grow (lays_drewN (Lays.refl _) n) os
theorem Calls.lays_grown {P : Program} {f : FuncId} {args : Array Value} {w : World} {n : Nat} {os : Array Obj} {v : Value}
    (h : Calls P f args (grow (w.drewN n) os) fun e w' => e = .returned v ∧ Lays (grow (w.drewN n) os) w') : Calls P f args (grow (w.drewN n) os) fun e w'' => e = .returned v ∧ ∃ p : GrownBy, w'' = grow (w.drewN p.n) p.os :=
  Calls.grown_of (h.mono fun _ _ ⟨he, hq⟩ => ⟨he, hq.grown⟩)
end Go.Proofs.Ytmekcfkfkpbfeaa.H
namespace Go.Proofs.Ytmekcfkfkpbfeaa.H
open Go.RowKit Go.Sort Go.Proofs.YtmekcfkfkpbfeaaW.PrintWords Go.Proofs.YtmekcfkfkpbfeaaW.PrintLast Go.Proofs.YtmekcfkfkpbfeaaW.PrintMore
attribute [local go_sem] max2_int min2_int max_two min_two max_three min_three max_four min_four
set_option linter.unusedVariables false
set_option linter.unusedSimpArgs false
/-- A monomial: four exponents. -/
abbrev M4 := Int × Int × Int × Int
/-- Its cells. -/
def enc (m : M4) : List Value := [.int .i64 m.1, .int .i64 m.2.1, .int .i64 m.2.2.1, .int .i64 m.2.2.2]
/-- Its value. -/
def mv (m : M4) : Value := .agg #[.int .i64 m.1, .int .i64 m.2.1, .int .i64 m.2.2.1, .int .i64 m.2.2.2]
def lcm (a b : M4) : M4 := (mx a.1 b.1, mx a.2.1 b.2.1, mx a.2.2.1 b.2.2.1, mx a.2.2.2 b.2.2.2)
theorem mx_l {x y : Int} (h : x < y) : mx x y = y := by unfold mx; rw [if_pos h]
theorem mx_r {x y : Int} (h : ¬ x < y) : mx x y = x := by unfold mx; rw [if_neg h]
theorem mx_r' {x y : Int} (h : y ≤ x) : mx x y = x := by unfold mx; rw [if_neg (by omega)]
set_option maxHeartbeats 4000000 in
theorem lcm_calls_ (a0 a1 a2 a3 b0 b1 b2 b3 : Int) (w : World) :
    Calls Try.prog 82 #[.agg #[.int .i64 a0, .int .i64 a1, .int .i64 a2, .int .i64 a3], .agg #[.int .i64 b0, .int .i64 b1, .int .i64 b2, .int .i64 b3]] w fun e w' => e = .returned (.agg #[.int .i64 (mx a0 b0), .int .i64 (mx a1 b1), .int .i64 (mx a2 b2), .int .i64 (mx a3 b3)]) ∧ Lays w w' := by
  go_enter Try.func82, Try.ntmps82
  go_wp2
  refine wp_loop_rounds 5 ?_
  simp only [Code.rounds]
  go_wp2
  go_region
  all_goals go_wp2
  all_goals go_region
  all_goals go_wp2
  all_goals go_region
  all_goals go_wp2
  all_goals go_region
  all_goals go_wp2
  all_goals
    refine bodyPost_ret (by simp [results, Try.results82, go_sem]; rfl) rfl ?_
    refine ⟨?_, by repeat (first | exact Lays.refl _ | apply lays_alloc | apply lays_drew)⟩
    simp only [mx_l, mx_r, mx_r', *]
theorem lcm_calls (a b : M4) (w : World) : Calls Try.prog 82 #[mv a, mv b] w fun e w' => e = .returned (mv (lcm a b)) ∧ Lays w w' := by
  obtain ⟨a0, a1, a2, a3⟩ := a
  obtain ⟨b0, b1, b2, b3⟩ := b
  exact lcm_calls_ a0 a1 a2 a3 b0 b1 b2 b3 w
set_option maxRecDepth 100000 in
theorem eqInM (a b : M4) (w : World) : (Op.equalIn 10000 76 (mv a) (mv b)).run Try.prog w = .ok (decide (a = b)) w := by
  obtain ⟨a0, a1, a2, a3⟩ := a
  obtain ⟨b0, b1, b2, b3⟩ := b
  unfold mv
  have u3 := Try.underlying3
  have z3 := Try.sizeOf3
  have hc : Try.prog.cellsOf 3 = 1 := by kernel_rfl
  have ha := Try.isAgg3
  obtain ⟨i0, hi0, _⟩ := Option.map_eq_some_iff.1 Ga.info3
  rw [show (10000 : Nat) = 9999 + 1 from rfl, run_equalIn_array w 9999 _ _ Try.underlying76 hi0, hc]
  have hp : ∀ (l : List Value) (i : Nat) (v : Value), l[i]? = some v → (part 3 l.toArray i).run Try.prog w = .ok v w := by
    intro l i v h
    simp [part, ha, h]
  have hi : ∀ x y : Int, (Op.equalIn 9999 3 (.int .i64 x) (.int .i64 y)).run Try.prog w = .ok (x == y) w := fun x y => run_equalIn_int w 9998 3 .i64 .i64 x y u3
  have la := hp [.int .i64 a0, .int .i64 a1, .int .i64 a2, .int .i64 a3]
  have lb := hp [.int .i64 b0, .int .i64 b1, .int .i64 b2, .int .i64 b3]
  have e : List.range 4 = [0, 1, 2, 3] := rfl
  rw [e]
  simp only [Op.eqItems, Sem.run_bind, Nat.mul_one, la 0 _ rfl, la 1 _ rfl, la 2 _ rfl, la 3 _ rfl, lb 0 _ rfl, lb 1 _ rfl, lb 2 _ rfl, lb 3 _ rfl, hi, Result.andThen_ok, Sem.run_ite, Sem.run_pure]
  by_cases h0 : a0 = b0 <;> by_cases h1 : a1 = b1 <;> by_cases h2 : a2 = b2 <;> by_cases h3 : a3 = b3 <;> simp [h0, h1, h2, h3, Prod.mk.injEq]
theorem eqlM (a b : M4) (w : World) : (binOp .eql 76 (mv a) (mv b)).run Try.prog w = .ok (.bool (decide (a = b))) w := by
  have h := eqInM a b w
  unfold mv at h ⊢
  rw [run_eql_struct, h]
  rfl
theorem neqM (a b : M4) (w : World) : (binOp .neq 76 (mv a) (mv b)).run Try.prog w = .ok (.bool (!decide (a = b))) w := by
  have h := eqInM a b w
  unfold mv at h ⊢
  rw [run_neq_struct, h]
  rfl
theorem guardM : Try.prog.eqGuardType Try.prog.depth 76 = false := by kernel_rfl
/-- A box of a monomial, as it is read later. -/
def BoxAt (W : World) (b : Nat) (m : M4) : Prop := W.cell? ⟨b, 0, none⟩ = some (.int .i64 m.1) ∧ W.cell? ⟨b, 1, none⟩ = some (.int .i64 m.2.1) ∧ W.cell? ⟨b, 2, none⟩ = some (.int .i64 m.2.2.1) ∧ W.cell? ⟨b, 3, none⟩ = some (.int .i64 m.2.2.2)
theorem BoxAt.lt {W : World} {b : Nat} {m : M4} (h : BoxAt W b m) : b < W.heap.size := World.block_lt_of_cell? W ⟨b, 0, none⟩ h.1
theorem BoxAt.grown {W : World} {b : Nat} {m : M4} (h : BoxAt W b m) : (∀ n os, (grow (W.drewN n) os).cell? ⟨b, 0, none⟩ = some (.int .i64 m.1)) ∧ (∀ n os, (grow (W.drewN n) os).cell? ⟨b, 1, none⟩ = some (.int .i64 m.2.1)) ∧ (∀ n os, (grow (W.drewN n) os).cell? ⟨b, 2, none⟩ = some (.int .i64 m.2.2.1)) ∧ (∀ n os, (grow (W.drewN n) os).cell? ⟨b, 3, none⟩ = some (.int .i64 m.2.2.2)) :=
  ⟨cell_grown h.lt h.1, cell_grown h.lt h.2.1, cell_grown h.lt h.2.2.1, cell_grown h.lt h.2.2.2⟩
theorem BoxAt.below {W W1 : World} {b : Nat} {m : M4} (h : BoxAt W b m) (hb : Below W.heap.size W W1) : BoxAt W1 b m :=
  ⟨pw_cell_below hb h.1, pw_cell_below hb h.2.1, pw_cell_below hb h.2.2.1, pw_cell_below hb h.2.2.2⟩
theorem BoxAt.drewN {W : World} {b : Nat} {m : M4} (h : BoxAt W b m) (n : Nat) : BoxAt (W.drewN n) b m := h
theorem boxAt_new (w : World) (m : M4) (t : TypeId) : BoxAt (w.alloc (.cells #[.int .i64 m.1, .int .i64 m.2.1, .int .i64 m.2.2.1, .int .i64 m.2.2.2] t)) w.heap.size m :=
  ⟨(blk_cell (heap_alloc_new w _) 0).trans rfl, (blk_cell (heap_alloc_new w _) 1).trans rfl, (blk_cell (heap_alloc_new w _) 2).trans rfl, (blk_cell (heap_alloc_new w _) 3).trans rfl⟩
/-- Does a divide b? -/
def divs (a b : M4) : Bool := decide (lcm a b = b)
set_option maxRecDepth 100000 in
set_option maxHeartbeats 4000000 in
theorem divides_calls_ (a0 a1 a2 a3 b0 b1 b2 b3 : Int) (w : World) :
    Calls Try.prog 72 #[.agg #[.int .i64 a0, .int .i64 a1, .int .i64 a2, .int .i64 a3], .agg #[.int .i64 b0, .int .i64 b1, .int .i64 b2, .int .i64 b3]] w fun e w' => e = .returned (.bool (divs (a0, a1, a2, a3) (b0, b1, b2, b3))) ∧ Lays w w' := by
  go_enter Try.func72, Try.ntmps72
  go_wp2
  have hm : Try.prog.follows .mixedOrders = true := by kernel_rfl
  have hL : Lays w ((w.alloc (.cells #[.int .i64 a0, .int .i64 a1, .int .i64 a2, .int .i64 a3] 76)).alloc (.cells #[.int .i64 b0, .int .i64 b1, .int .i64 b2, .int .i64 b3] 76)) := lays_alloc (lays_alloc (Lays.refl w) _) _
  have hx : BoxAt ((w.alloc (.cells #[.int .i64 a0, .int .i64 a1, .int .i64 a2, .int .i64 a3] 76)).alloc (.cells #[.int .i64 b0, .int .i64 b1, .int .i64 b2, .int .i64 b3] 76)) w.heap.size (a0, a1, a2, a3) := (boxAt_new w (a0, a1, a2, a3) 76).below (below_alloc (Below.refl _ _) _)
  have hy : BoxAt ((w.alloc (.cells #[.int .i64 a0, .int .i64 a1, .int .i64 a2, .int .i64 a3] 76)).alloc (.cells #[.int .i64 b0, .int .i64 b1, .int .i64 b2, .int .i64 b3] 76)) (w.heap.size + 1) (b0, b1, b2, b3) := by
    have h := boxAt_new (w.alloc (.cells #[.int .i64 a0, .int .i64 a1, .int .i64 a2, .int .i64 a3] 76)) (b0, b1, b2, b3) 76
    rwa [show (w.alloc (.cells #[.int .i64 a0, .int .i64 a1, .int .i64 a2, .int .i64 a3] 76)).heap.size = w.heap.size + 1 from by simp] at h
  generalize ((w.alloc (.cells #[.int .i64 a0, .int .i64 a1, .int .i64 a2, .int .i64 a3] 76)).alloc (.cells #[.int .i64 b0, .int .i64 b1, .int .i64 b2, .int .i64 b3] 76)) = W at *
  obtain ⟨x0, x1, x2, x3⟩ := hx.grown
  obtain ⟨y0, y1, y2, y3⟩ := hy.grown
  have hq : ∀ W, (Op.equalIn 10000 76 (mv (lcm (a0, a1, a2, a3) (b0, b1, b2, b3))) (mv (b0, b1, b2, b3))).run Try.prog W = .ok (divs (a0, a1, a2, a3) (b0, b1, b2, b3)) W := fun W => eqInM (lcm (a0, a1, a2, a3) (b0, b1, b2, b3)) (b0, b1, b2, b3) W
  have hg := guardM
  unfold mv lcm at hq
  have HL := Aside0.mk hL
  clear hx hy hL
  go_quiet_grown ((go_at_call 82; exact Calls.lays_grown (lcm_calls_ _ _ _ _ _ _ _ _ _)))
  go_wp2
  go_ret
  exact ⟨rfl, lays_grow (lays_drewN HL.out _) _⟩
theorem divides_calls (a b : M4) (w : World) : Calls Try.prog 72 #[mv a, mv b] w fun e w' => e = .returned (.bool (divs a b)) ∧ Lays w w' := by
  obtain ⟨a0, a1, a2, a3⟩ := a
  obtain ⟨b0, b1, b2, b3⟩ := b
  exact divides_calls_ a0 a1 a2 a3 b0 b1 b2 b3 w
end Go.Proofs.Ytmekcfkfkpbfeaa.H
namespace Go.Proofs.Ytmekcfkfkpbfeaa.H
open Go.RowKit Go.Sort Go.Proofs.YtmekcfkfkpbfeaaW.PrintWords Go.Proofs.YtmekcfkfkpbfeaaW.PrintLast Go.Proofs.YtmekcfkfkpbfeaaW.PrintMore
attribute [local go_sem] max2_int min2_int max_two min_two max_three min_three max_four min_four
set_option linter.unusedVariables false
set_option linter.unusedSimpArgs false
/-- Three ways: less, more, or what the rest says. -/
def c3 (x y r : Int) : Int := if x < y then -1 else if y < x then 1 else r
theorem c3_l {x y r : Int} (h : x < y) : c3 x y r = -1 := by unfold c3; rw [if_pos h]
theorem c3_g {x y r : Int} (h : y < x) : c3 x y r = 1 := by unfold c3; rw [if_neg (by omega), if_pos h]
theorem c3_e {x y r : Int} (h : ¬ x < y) (h' : ¬ y < x) : c3 x y r = r := by unfold c3; rw [if_neg h, if_neg h']
/-- Lexicographic order. -/
def cmp4 (a b : M4) : Int := c3 a.1 b.1 (c3 a.2.1 b.2.1 (c3 a.2.2.1 b.2.2.1 (c3 a.2.2.2 b.2.2.2 0)))
set_option maxRecDepth 100000 in
theorem cmp_calls (x y : Int) (w : World) : Calls Try.prog 102 #[.int .i64 x, .int .i64 y] w fun e w' => e = .returned (.int .i64 (c3 x y 0)) ∧ w' = w := by
  go_enter Try.func102, Try.ntmps102
  go_wp2
  all_goals
    go_ret
    refine ⟨?_, rfl⟩
    first
      | rw [c3_l (by assumption)]; rfl
      | rw [c3_g (by assumption)]; rfl
      | rw [c3_e (by omega) (by omega)]; rfl
set_option maxRecDepth 100000 in
set_option maxHeartbeats 4000000 in
theorem Compare_calls_ (a0 a1 a2 a3 b0 b1 b2 b3 : Int) (W : World) (p q : Nat) (hx : BoxAt W p (a0, a1, a2, a3)) (hy : BoxAt W q (b0, b1, b2, b3)) :
    Calls Try.prog 91 #[.slice (some ⟨p, 0, none⟩) 4 4, .slice (some ⟨q, 0, none⟩) 4 4] W fun e w' => e = .returned (.int .i64 (cmp4 (a0, a1, a2, a3) (b0, b1, b2, b3))) ∧ w' = W := by
  obtain ⟨x0, x1, x2, x3⟩ := hx
  obtain ⟨y0, y1, y2, y3⟩ := hy
  dsimp only at x0 x1 x2 x3 y0 y1 y2 y3
  go_enter Try.func91, Try.ntmps91
  go_wp2
  refine wp_loop_rounds 5 ?_
  simp only [Code.rounds]
  go_wp2
  all_goals
    go_ret
    refine ⟨?_, rfl⟩
    unfold cmp4
    dsimp only
    repeat (first | rw [c3_l (by omega)] | rw [c3_g (by omega)] | rw [c3_e (by omega) (by omega)])
    first | rfl | trace_state

set_option maxRecDepth 100000 in
set_option maxHeartbeats 4000000 in
theorem compare_calls_ (a0 a1 a2 a3 b0 b1 b2 b3 : Int) (w : World) :
    Calls Try.prog 77 #[.agg #[.int .i64 a0, .int .i64 a1, .int .i64 a2, .int .i64 a3], .agg #[.int .i64 b0, .int .i64 b1, .int .i64 b2, .int .i64 b3]] w fun e w' => e = .returned (.int .i64 (cmp4 (a0, a1, a2, a3) (b0, b1, b2, b3))) ∧ Lays w w' := by
  go_enter Try.func77, Try.ntmps77
  go_wp2
  have hL : Lays w ((w.alloc (.cells #[.int .i64 a0, .int .i64 a1, .int .i64 a2, .int .i64 a3] 76)).alloc (.cells #[.int .i64 b0, .int .i64 b1, .int .i64 b2, .int .i64 b3] 76)) := lays_alloc (lays_alloc (Lays.refl w) _) _
  have hx : BoxAt ((w.alloc (.cells #[.int .i64 a0, .int .i64 a1, .int .i64 a2, .int .i64 a3] 76)).alloc (.cells #[.int .i64 b0, .int .i64 b1, .int .i64 b2, .int .i64 b3] 76)) w.heap.size (a0, a1, a2, a3) := (boxAt_new w (a0, a1, a2, a3) 76).below (below_alloc (Below.refl _ _) _)
  have hy : BoxAt ((w.alloc (.cells #[.int .i64 a0, .int .i64 a1, .int .i64 a2, .int .i64 a3] 76)).alloc (.cells #[.int .i64 b0, .int .i64 b1, .int .i64 b2, .int .i64 b3] 76)) (w.heap.size + 1) (b0, b1, b2, b3) := by
    have h := boxAt_new (w.alloc (.cells #[.int .i64 a0, .int .i64 a1, .int .i64 a2, .int .i64 a3] 76)) (b0, b1, b2, b3) 76
    rwa [show (w.alloc (.cells #[.int .i64 a0, .int .i64 a1, .int .i64 a2, .int .i64 a3] 76)).heap.size = w.heap.size + 1 from by simp] at h
  have HX := Aside0.mk hx
  have HY := Aside0.mk hy
  have HL := Aside0.mk hL
  clear hx hy hL
  go_quiet ((go_at_call 91; exact Calls.quiet_of_same (Compare_calls_ _ _ _ _ _ _ _ _ _ _ _ (HX.out.drewN _) (HY.out.drewN _))))
  go_wp2
  go_ret
  exact ⟨rfl, lays_drewN HL.out _⟩
theorem compare_calls (a b : M4) (w : World) : Calls Try.prog 77 #[mv a, mv b] w fun e w' => e = .returned (.int .i64 (cmp4 a b)) ∧ Lays w w' := by
  obtain ⟨a0, a1, a2, a3⟩ := a
  obtain ⟨b0, b1, b2, b3⟩ := b
  exact compare_calls_ a0 a1 a2 a3 b0 b1 b2 b3 w
end Go.Proofs.Ytmekcfkfkpbfeaa.H
namespace Go.Proofs.Ytmekcfkfkpbfeaa.H
open Go.RowKit Go.Sort Go.Proofs.YtmekcfkfkpbfeaaW.PrintWords Go.Proofs.YtmekcfkfkpbfeaaW.PrintLast Go.Proofs.YtmekcfkfkpbfeaaW.PrintMore
attribute [local go_sem] max2_int min2_int max_two min_two max_three min_three max_four min_four
set_option linter.unusedVariables false
set_option linter.unusedSimpArgs false
/-- Number i of a monomial. -/
def nth (m : M4) (i : Nat) : Int := if i = 0 then m.1 else if i = 1 then m.2.1 else if i = 2 then m.2.2.1 else m.2.2.2
theorem BoxAt.nth {W : World} {b : Nat} {m : M4} (h : BoxAt W b m) (j : Nat) (hj : j < 4) : W.cell? ⟨b, j, none⟩ = some (.int .i64 (nth m j)) := by
  obtain ⟨h0, h1, h2, h3⟩ := h
  have : j = 0 ∨ j = 1 ∨ j = 2 ∨ j = 3 := by omega
  rcases this with rfl | rfl | rfl | rfl
  · exact h0
  · exact h1
  · exact h2
  · exact h3
def w1 (x y : Int) : Bool := !(decide (0 < x) && (decide (y = 0) || decide (x < y)))
/-- Is the part a within the part b? -/
def within (a b : M4) : Bool := w1 a.1 b.1 && w1 a.2.1 b.2.1 && w1 a.2.2.1 b.2.2.1 && w1 a.2.2.2 b.2.2.2
theorem within_no {a b : M4} {j : Nat} (hj : j < 4) (h : w1 (nth a j) (nth b j) = false) : within a b = false := by
  have : j = 0 ∨ j = 1 ∨ j = 2 ∨ j = 3 := by omega
  unfold within
  rcases this with rfl | rfl | rfl | rfl
  · have h : w1 a.1 b.1 = false := h
    rw [h]; simp
  · have h : w1 a.2.1 b.2.1 = false := h
    rw [h]; simp
  · have h : w1 a.2.2.1 b.2.2.1 = false := h
    rw [h]; simp
  · have h : w1 a.2.2.2 b.2.2.2 = false := h
    rw [h]; simp
theorem within_yes {a b : M4} (h : ∀ i, i < 4 → w1 (nth a i) (nth b i) = true) : within a b = true := by
  have h0 : w1 a.1 b.1 = true := h 0 (by omega)
  have h1 : w1 a.2.1 b.2.1 = true := h 1 (by omega)
  have h2 : w1 a.2.2.1 b.2.2.1 = true := h 2 (by omega)
  have h3 : w1 a.2.2.2 b.2.2.2 = true := h 3 (by omega)
  unfold within
  rw [h0, h1, h2, h3]
  rfl
set_option maxRecDepth 100000 in
set_option maxHeartbeats 4000000 in
theorem within_calls_ (a0 a1 a2 a3 b0 b1 b2 b3 : Int) (w : World) :
    Calls Try.prog 81 #[.agg #[.int .i64 a0, .int .i64 a1, .int .i64 a2, .int .i64 a3], .agg #[.int .i64 b0, .int .i64 b1, .int .i64 b2, .int .i64 b3]] w fun e w' => e = .returned (.bool (within (a0, a1, a2, a3) (b0, b1, b2, b3))) ∧ Lays w w' := by
  have hL : Lays w ((w.alloc (.cells #[.int .i64 a0, .int .i64 a1, .int .i64 a2, .int .i64 a3] 76)).alloc (.cells #[.int .i64 b0, .int .i64 b1, .int .i64 b2, .int .i64 b3] 76)) := lays_alloc (lays_alloc (Lays.refl w) _) _
  have hx : BoxAt ((w.alloc (.cells #[.int .i64 a0, .int .i64 a1, .int .i64 a2, .int .i64 a3] 76)).alloc (.cells #[.int .i64 b0, .int .i64 b1, .int .i64 b2, .int .i64 b3] 76)) w.heap.size (a0, a1, a2, a3) := (boxAt_new w (a0, a1, a2, a3) 76).below (below_alloc (Below.refl _ _) _)
  have hy : BoxAt ((w.alloc (.cells #[.int .i64 a0, .int .i64 a1, .int .i64 a2, .int .i64 a3] 76)).alloc (.cells #[.int .i64 b0, .int .i64 b1, .int .i64 b2, .int .i64 b3] 76)) (w.heap.size + 1) (b0, b1, b2, b3) := by
    have h := boxAt_new (w.alloc (.cells #[.int .i64 a0, .int .i64 a1, .int .i64 a2, .int .i64 a3] 76)) (b0, b1, b2, b3) 76
    rwa [show (w.alloc (.cells #[.int .i64 a0, .int .i64 a1, .int .i64 a2, .int .i64 a3] 76)).heap.size = w.heap.size + 1 from by simp] at h
  have HX := Aside0.mk hx
  have HY := Aside0.mk hy
  have HL := Aside0.mk hL
  clear hx hy hL
  go_enter Try.func81, Try.ntmps81
  go_wp2
  go_loopw [6] (fun v6 w' => ∃ j : Nat, j ≤ 4 ∧ v6 = .int .i64 (j : Int) ∧ Aside0 (∀ i, i < j → w1 (nth (a0, a1, a2, a3) i) (nth (b0, b1, b2, b3) i) = true) ∧ Aside0 (Lays w w') ∧ Aside0 (BoxAt w' w.heap.size (a0, a1, a2, a3)) ∧ Aside0 (BoxAt w' (w.heap.size + 1) (b0, b1, b2, b3))) (fun v6 _ => 4 - (intOf v6).toNat)
  case atStart => exact ⟨0, by omega, rfl, ⟨fun i hi => by omega⟩, HL, HX, HY⟩
  case round =>
    clear HL HX HY
    obtain ⟨j, hj, rfl, HA, HL, HX, HY⟩ := hrel
    by_cases hlt : j < 4
    · have hltb : decide ((j : Int) < 4) = true := decide_eq_true (by omega)
      have hj0 : (0 : Int) ≤ (j : Int) := by omega
      have hj4 : (j : Int) < 4 := by omega
      have cx := HX.out.nth j hlt
      have cy := HY.out.nth j hlt
      have HXY : Aside0 (∀ r, w1 (nth (a0, a1, a2, a3) j) (nth (b0, b1, b2, b3) j) = r → w1 (nth (a0, a1, a2, a3) j) (nth (b0, b1, b2, b3) j) = r) := ⟨fun _ h => h⟩
      obtain ⟨x, hx⟩ : ∃ t_ : Int, nth (a0, a1, a2, a3) j = t_ := ⟨_, rfl⟩
      obtain ⟨y, hy⟩ : ∃ t_ : Int, nth (b0, b1, b2, b3) j = t_ := ⟨_, rfl⟩
      rw [hx] at cx HXY
      rw [hy] at cy HXY
      have HXX := Aside0.mk hx
      have HYY := Aside0.mk hy
      clear hx hy
      have yes : Aside0 (w1 x y = true → ∀ i, i < j + 1 → w1 (nth (a0, a1, a2, a3) i) (nth (b0, b1, b2, b3) i) = true) := ⟨fun h i hi => by
        by_cases e : i = j
        · subst e; rw [HXX.out, HYY.out]; exact h
        · exact HA.out i (by omega)⟩
      have no : Aside0 (w1 x y = false → within (a0, a1, a2, a3) (b0, b1, b2, b3) = false) := ⟨fun h => within_no hlt (by rw [HXX.out, HYY.out]; exact h)⟩
      by_cases c1 : 0 < x
      · have c1b : decide (0 < x) = true := decide_eq_true c1
        by_cases c2 : y = 0
        · have c2b : (y == 0) = true := beq_iff_eq.mpr c2
          have HR := Aside0.mk (no.out (by unfold w1; simp [c1, c2]))
          clear c1 c2
          go_wp2
          go_quiet (fail)
          go_wp2
          go_ret
          exact ⟨by rw [HR.out]; rfl, lays_drewN HL.out _⟩
        · have c2b : (y == 0) = false := beq_eq_false_iff_ne.mpr c2
          by_cases c3 : x < y
          · have c3b : decide (x < y) = true := decide_eq_true c3
            have HR := Aside0.mk (no.out (by unfold w1; simp [c1, c2, c3]))
            clear c1 c2 c3
            go_wp2
            go_quiet (fail)
            go_wp2
            go_ret
            exact ⟨by rw [HR.out]; rfl, lays_drewN HL.out _⟩
          · have c3b : decide (x < y) = false := decide_eq_false c3
            have HR := Aside0.mk (yes.out (by unfold w1; simp [c1, c2, c3]))
            clear c1 c2 c3
            go_wp2
            go_quiet (fail)
            go_wp2
            go_roundw
            case rel => exact ⟨j + 1, by omega, by go_num, HR, ⟨lays_drewN HL.out _⟩, ⟨HX.out.drewN _⟩, ⟨HY.out.drewN _⟩⟩
            case measure => simp [intOf]; omega
      · have c1b : decide (0 < x) = false := decide_eq_false c1
        have HR := Aside0.mk (yes.out (by unfold w1; simp [c1]))
        clear c1
        go_wp2
        go_quiet (fail)
        go_wp2
        go_roundw
        case rel => exact ⟨j + 1, by omega, by go_num, HR, ⟨lays_drewN HL.out _⟩, ⟨HX.out.drewN _⟩, ⟨HY.out.drewN _⟩⟩
        case measure => simp [intOf]; omega
    · have hltb : decide ((j : Int) < 4) = false := decide_eq_false (by omega)
      have HR := Aside0.mk (within_yes (fun i hi => HA.out i (by omega)))
      go_wp2
      go_ret
      exact ⟨by rw [HR.out]; rfl, HL.out⟩
theorem within_calls (a b : M4) (w : World) : Calls Try.prog 81 #[mv a, mv b] w fun e w' => e = .returned (.bool (within a b)) ∧ Lays w w' := by
  obtain ⟨a0, a1, a2, a3⟩ := a
  obtain ⟨b0, b1, b2, b3⟩ := b
  exact within_calls_ a0 a1 a2 a3 b0 b1 b2 b3 w
end Go.Proofs.Ytmekcfkfkpbfeaa.H
namespace Go.Proofs.Ytmekcfkfkpbfeaa.H
open Go.Shelf
def laysH8_ren : Go.Shelf.Ren := ⟨fun | 8 => 70 | 6 => 93 | n => n, fun | 22 => 71 | 23 => 76 | 25 => 79 | 4 => 4 | 3 => 3 | 0 => 0 | n => n, fun | n => n⟩
theorem laysH8 : Go.Proofs.SlLaysH0.n8 Try.prog laysH8_ren := {
  mixed := by kernel_rfl
  f6 := ⟨Try.f93.name, by decide, Try.func93.trans (congrArg some (by kernel_rfl))⟩
  f8 := ⟨Try.f70.name, by decide, Try.func70.trans (congrArg some (by kernel_rfl))⟩
  t0 := Try.underlying0
  a0 := Try.isAgg0
  z0 := Try.sizeOf0
  v0 := Try.zeroValue0
  t3 := Try.underlying3
  a3 := Try.isAgg3
  z3 := Try.sizeOf3
  v3 := Try.zeroValue3
  t4 := Try.underlying4
  a4 := Try.isAgg4
  z4 := Try.sizeOf4
  v4 := Try.zeroValue4
  t22 := Try.underlying71
  a22 := Try.isAgg71
  z22 := Try.sizeOf71
  v22 := Try.zeroValue71
  t25 := Try.underlying79
  a25 := Try.isAgg79
  z25 := Try.sizeOf79
  v25 := Try.zeroValue79 }
def laysQ7_ren : Go.Shelf.Ren := ⟨fun | 7 => 95 | 6 => 103 | n => n, fun | 22 => 71 | 24 => 76 | 4 => 4 | 0 => 0 | 3 => 3 | n => n, fun | n => n⟩
theorem laysQ7 : Go.Proofs.SlLaysQ.n7 Try.prog laysQ7_ren := {
  mixed := by kernel_rfl
  f6 := ⟨Try.f103.name, by decide, Try.func103.trans (congrArg some (by kernel_rfl))⟩
  f7 := ⟨Try.f95.name, by decide, Try.func95.trans (congrArg some (by kernel_rfl))⟩
  t0 := Try.underlying0
  a0 := Try.isAgg0
  z0 := Try.sizeOf0
  v0 := Try.zeroValue0
  t3 := Try.underlying3
  a3 := Try.isAgg3
  z3 := Try.sizeOf3
  v3 := Try.zeroValue3
  t4 := Try.underlying4
  a4 := Try.isAgg4
  z4 := Try.sizeOf4
  v4 := Try.zeroValue4
  t22 := Try.underlying71
  a22 := Try.isAgg71
  z22 := Try.sizeOf71
  v22 := Try.zeroValue71 }
def laysF6_ren : Go.Shelf.Ren := ⟨fun | 6 => 96 | 15 => 101 | 14 => 104 | 28 => 114 | 29 => 115 | 20 => 117 | 21 => 118 | 22 => 119 | 23 => 120 | 24 => 121 | 25 => 122 | 26 => 123 | 27 => 124 | 46 => 130 | 47 => 126 | 48 => 127 | 49 => 131 | 50 => 132 | 57 => 134 | n => n, fun | 22 => 71 | 24 => 76 | 25 => 104 | 3 => 3 | 39 => 131 | 0 => 0 | 53 => 144 | 55 => 146 | 4 => 4 | 46 => 137 | 45 => 136 | 50 => 141 | 5 => 5 | 9 => 9 | 66 => 153 | 70 => 157 | 76 => 161 | 77 => 162 | n => n, fun | n => n⟩
theorem laysF6 : Go.Proofs.SlLaysF0.n6 Try.prog laysF6_ren := {
  mixed := by kernel_rfl
  f6 := ⟨Try.f96.name, by decide, Try.func96.trans (congrArg some (by kernel_rfl))⟩
  f14 := ⟨Try.f104.name, by decide, Try.func104.trans (congrArg some (by kernel_rfl))⟩
  f15 := Try.func101.trans (congrArg some (by kernel_rfl))
  f20 := ⟨Try.f117.name, by decide, Try.func117.trans (congrArg some (by kernel_rfl))⟩
  f21 := ⟨Try.f118.name, by decide, Try.func118.trans (congrArg some (by kernel_rfl))⟩
  f22 := ⟨Try.f119.name, by decide, Try.func119.trans (congrArg some (by kernel_rfl))⟩
  f23 := ⟨Try.f120.name, by decide, Try.func120.trans (congrArg some (by kernel_rfl))⟩
  f24 := ⟨Try.f121.name, by decide, Try.func121.trans (congrArg some (by kernel_rfl))⟩
  f25 := ⟨Try.f122.name, by decide, Try.func122.trans (congrArg some (by kernel_rfl))⟩
  f26 := ⟨Try.f123.name, by decide, Try.func123.trans (congrArg some (by kernel_rfl))⟩
  f27 := ⟨Try.f124.name, by decide, Try.func124.trans (congrArg some (by kernel_rfl))⟩
  f28 := Try.func114.trans (congrArg some (by kernel_rfl))
  f29 := Try.func115.trans (congrArg some (by kernel_rfl))
  f46 := ⟨Try.f130.name, by decide, Try.func130.trans (congrArg some (by kernel_rfl))⟩
  f47 := Try.func126.trans (congrArg some (by kernel_rfl))
  f48 := Try.func127.trans (congrArg some (by kernel_rfl))
  f49 := ⟨Try.f131.name, by decide, Try.func131.trans (congrArg some (by kernel_rfl))⟩
  f50 := ⟨Try.f132.name, by decide, Try.func132.trans (congrArg some (by kernel_rfl))⟩
  f57 := ⟨Try.f134.name, by decide, Try.func134.trans (congrArg some (by kernel_rfl))⟩
  t0 := Try.underlying0
  a0 := Try.isAgg0
  z0 := Try.sizeOf0
  v0 := Try.zeroValue0
  t3 := Try.underlying3
  a3 := Try.isAgg3
  z3 := Try.sizeOf3
  v3 := Try.zeroValue3
  t4 := Try.underlying4
  a4 := Try.isAgg4
  z4 := Try.sizeOf4
  v4 := Try.zeroValue4
  t5 := Try.underlying5
  a5 := Try.isAgg5
  z5 := Try.sizeOf5
  v5 := Try.zeroValue5
  t9 := Try.underlying9
  a9 := Try.isAgg9
  z9 := Try.sizeOf9
  v9 := Try.zeroValue9
  t22 := Try.underlying71
  a22 := Try.isAgg71
  z22 := Try.sizeOf71
  v22 := Try.zeroValue71
  t25 := Try.underlying104
  a25 := Try.isAgg104
  z25 := Try.sizeOf104
  v25 := Try.zeroValue104
  t39 := Try.underlying131
  a39 := Try.isAgg131
  z39 := Try.sizeOf131
  v39 := Try.zeroValue131
  t45 := Try.underlying136
  a45 := Try.isAgg136
  z45 := Try.sizeOf136
  v45 := Try.zeroValue136
  t46 := Try.underlying137
  a46 := Try.isAgg137
  z46 := Try.sizeOf137
  v46 := Try.zeroValue137
  t50 := Try.underlying141
  a50 := Try.isAgg141
  z50 := Try.sizeOf141
  v50 := Try.zeroValue141
  t53 := Try.underlying144
  a53 := Try.isAgg144
  z53 := Try.sizeOf144
  v53 := Try.zeroValue144
  t55 := Try.underlying146
  a55 := Try.isAgg146
  z55 := Try.sizeOf146
  v55 := Try.zeroValue146
  t66 := Try.underlying153
  a66 := Try.isAgg153
  z66 := Try.sizeOf153
  v66 := Try.zeroValue153
  t70 := Try.underlying157
  a70 := Try.isAgg157
  z70 := Try.sizeOf157
  v70 := Try.zeroValue157
  t76 := Try.underlying161
  a76 := Try.isAgg161
  z76 := Try.sizeOf161
  v76 := Try.zeroValue161
  t77 := Try.underlying162
  a77 := Try.isAgg162
  z77 := Try.sizeOf162
  v77 := Try.zeroValue162 }
def laysG6_ren : Go.Shelf.Ren := ⟨fun | 6 => 90 | 15 => 101 | 14 => 100 | 28 => 114 | 29 => 115 | 20 => 106 | 21 => 107 | 22 => 108 | 23 => 109 | 24 => 110 | 25 => 111 | 26 => 112 | 27 => 113 | 46 => 125 | 47 => 126 | 48 => 127 | 49 => 128 | 50 => 129 | 57 => 133 | n => n, fun | 22 => 24 | 24 => 27 | 25 => 122 | 3 => 3 | 39 => 131 | 0 => 0 | 53 => 144 | 55 => 146 | 4 => 4 | 46 => 137 | 45 => 136 | 50 => 141 | 5 => 5 | 9 => 9 | 66 => 153 | 70 => 157 | 76 => 161 | 77 => 162 | n => n, fun | n => n⟩
theorem laysG6 : Go.Proofs.SlLaysF.n6 Try.prog laysG6_ren := {
  mixed := by kernel_rfl
  f6 := ⟨Try.f90.name, by decide, Try.func90.trans (congrArg some (by kernel_rfl))⟩
  f14 := ⟨Try.f100.name, by decide, Try.func100.trans (congrArg some (by kernel_rfl))⟩
  f15 := Try.func101.trans (congrArg some (by kernel_rfl))
  f20 := ⟨Try.f106.name, by decide, Try.func106.trans (congrArg some (by kernel_rfl))⟩
  f21 := ⟨Try.f107.name, by decide, Try.func107.trans (congrArg some (by kernel_rfl))⟩
  f22 := ⟨Try.f108.name, by decide, Try.func108.trans (congrArg some (by kernel_rfl))⟩
  f23 := ⟨Try.f109.name, by decide, Try.func109.trans (congrArg some (by kernel_rfl))⟩
  f24 := ⟨Try.f110.name, by decide, Try.func110.trans (congrArg some (by kernel_rfl))⟩
  f25 := ⟨Try.f111.name, by decide, Try.func111.trans (congrArg some (by kernel_rfl))⟩
  f26 := ⟨Try.f112.name, by decide, Try.func112.trans (congrArg some (by kernel_rfl))⟩
  f27 := ⟨Try.f113.name, by decide, Try.func113.trans (congrArg some (by kernel_rfl))⟩
  f28 := Try.func114.trans (congrArg some (by kernel_rfl))
  f29 := Try.func115.trans (congrArg some (by kernel_rfl))
  f46 := ⟨Try.f125.name, by decide, Try.func125.trans (congrArg some (by kernel_rfl))⟩
  f47 := Try.func126.trans (congrArg some (by kernel_rfl))
  f48 := Try.func127.trans (congrArg some (by kernel_rfl))
  f49 := ⟨Try.f128.name, by decide, Try.func128.trans (congrArg some (by kernel_rfl))⟩
  f50 := ⟨Try.f129.name, by decide, Try.func129.trans (congrArg some (by kernel_rfl))⟩
  f57 := ⟨Try.f133.name, by decide, Try.func133.trans (congrArg some (by kernel_rfl))⟩
  t0 := Try.underlying0
  a0 := Try.isAgg0
  z0 := Try.sizeOf0
  v0 := Try.zeroValue0
  t3 := Try.underlying3
  a3 := Try.isAgg3
  z3 := Try.sizeOf3
  v3 := Try.zeroValue3
  t4 := Try.underlying4
  a4 := Try.isAgg4
  z4 := Try.sizeOf4
  v4 := Try.zeroValue4
  t5 := Try.underlying5
  a5 := Try.isAgg5
  z5 := Try.sizeOf5
  v5 := Try.zeroValue5
  t9 := Try.underlying9
  a9 := Try.isAgg9
  z9 := Try.sizeOf9
  v9 := Try.zeroValue9
  t22 := Try.underlying24
  a22 := Try.isAgg24
  z22 := Try.sizeOf24
  v22 := Try.zeroValue24
  a24 := Try.isAgg27
  z24 := Try.sizeOf27
  t25 := Try.underlying122
  a25 := Try.isAgg122
  z25 := Try.sizeOf122
  v25 := Try.zeroValue122
  t39 := Try.underlying131
  a39 := Try.isAgg131
  z39 := Try.sizeOf131
  v39 := Try.zeroValue131
  t45 := Try.underlying136
  a45 := Try.isAgg136
  z45 := Try.sizeOf136
  v45 := Try.zeroValue136
  t46 := Try.underlying137
  a46 := Try.isAgg137
  z46 := Try.sizeOf137
  v46 := Try.zeroValue137
  t50 := Try.underlying141
  a50 := Try.isAgg141
  z50 := Try.sizeOf141
  v50 := Try.zeroValue141
  t53 := Try.underlying144
  a53 := Try.isAgg144
  z53 := Try.sizeOf144
  v53 := Try.zeroValue144
  t55 := Try.underlying146
  a55 := Try.isAgg146
  z55 := Try.sizeOf146
  v55 := Try.zeroValue146
  t66 := Try.underlying153
  a66 := Try.isAgg153
  z66 := Try.sizeOf153
  v66 := Try.zeroValue153
  t70 := Try.underlying157
  a70 := Try.isAgg157
  z70 := Try.sizeOf157
  v70 := Try.zeroValue157
  t76 := Try.underlying161
  a76 := Try.isAgg161
  z76 := Try.sizeOf161
  v76 := Try.zeroValue161
  t77 := Try.underlying162
  a77 := Try.isAgg162
  z77 := Try.sizeOf162
  v77 := Try.zeroValue162 }
def laysE8_ren : Go.Shelf.Ren := ⟨fun | 8 => 97 | 6 => 105 | n => n, fun | 22 => 109 | 23 => 111 | 25 => 128 | 4 => 4 | 3 => 3 | 0 => 0 | n => n, fun | n => n⟩
theorem laysE8 : Go.Proofs.SlLaysH.n8 Try.prog laysE8_ren := {
  mixed := by kernel_rfl
  f6 := ⟨Try.f105.name, by decide, Try.func105.trans (congrArg some (by kernel_rfl))⟩
  f8 := ⟨Try.f97.name, by decide, Try.func97.trans (congrArg some (by kernel_rfl))⟩
  t0 := Try.underlying0
  a0 := Try.isAgg0
  z0 := Try.sizeOf0
  v0 := Try.zeroValue0
  t3 := Try.underlying3
  a3 := Try.isAgg3
  z3 := Try.sizeOf3
  v3 := Try.zeroValue3
  t4 := Try.underlying4
  a4 := Try.isAgg4
  z4 := Try.sizeOf4
  v4 := Try.zeroValue4
  t22 := Try.underlying109
  a22 := Try.isAgg109
  z22 := Try.sizeOf109
  v22 := Try.zeroValue109
  a23 := Try.isAgg111
  z23 := Try.sizeOf111
  t25 := Try.underlying128
  a25 := Try.isAgg128
  z25 := Try.sizeOf128
  v25 := Try.zeroValue128 }
end Go.Proofs.Ytmekcfkfkpbfeaa.H
namespace Go.Proofs.Ytmekcfkfkpbfeaa.H
open Go.RowKit Go.Sort Go.Proofs.YtmekcfkfkpbfeaaW.PrintWords Go.Proofs.YtmekcfkfkpbfeaaW.PrintLast Go.Proofs.YtmekcfkfkpbfeaaW.PrintMore
attribute [local go_sem] max2_int min2_int max_two min_two max_three min_three max_four min_four
set_option linter.unusedVariables false
set_option linter.unusedSimpArgs false
/-- What is asked of a function value that compares two monomials. -/
def Compares (fb : FuncId) (below : M4 → M4 → Bool) : Prop := ∀ (a b : M4) (W : World), Calls Try.prog fb #[mv a, mv b] W fun e w' => e = .returned (.bool (below a b)) ∧ Lays W w'
theorem boxAt_alloc {W : World} {b : Nat} {m : M4} (h : BoxAt W b m) (o : Obj) : BoxAt (W.alloc o) b m := h.below (below_alloc (Below.refl _ _) o)
set_option maxRecDepth 100000 in
set_option maxHeartbeats 4000000 in
theorem other_calls_ (fb : FuncId) (fn : Func) (hfb : Try.prog.funcs[fb]? = some fn) (hnb : (fn.name == "runtime.NumGoroutine") = false) (hbb : fn.body.isSome = true) (below : M4 → M4 → Bool) (hb : Compares fb below) (y0 y1 y2 y3 x0 x1 x2 x3 : Int) (px pb : Nat) (w : World)
    (hx : BoxAt w px (x0, x1, x2, x3)) (hp : w.cell? ⟨pb, 0, none⟩ = some (.func (.func fb) #[] #[])) :
    Calls Try.prog 94 #[.agg #[.int .i64 y0, .int .i64 y1, .int .i64 y2, .int .i64 y3], .pointer (some ⟨px, 0, none⟩), .pointer (some ⟨pb, 0, none⟩)] w fun e w' => e = .returned (.bool (!decide ((y0, y1, y2, y3) = ((x0, x1, x2, x3) : M4)) && below (y0, y1, y2, y3) (x0, x1, x2, x3))) ∧ Lays w w' := by
  have HC := Aside0.mk (hb (y0, y1, y2, y3) (x0, x1, x2, x3))
  have hY := boxAt_new w (y0, y1, y2, y3) 76
  have hX := boxAt_alloc hx (.cells #[.int .i64 y0, .int .i64 y1, .int .i64 y2, .int .i64 y3] 76)
  have hP : (w.alloc (.cells #[.int .i64 y0, .int .i64 y1, .int .i64 y2, .int .i64 y3] 76)).cell? ⟨pb, 0, none⟩ = some (.func (.func fb) #[] #[]) := pw_cell_below (below_alloc (Below.refl _ _) _) hp
  have hL := lays_alloc (Lays.refl w) (.cells #[.int .i64 y0, .int .i64 y1, .int .i64 y2, .int .i64 y3] 76)
  have hm : Try.prog.follows .mixedOrders = true := by kernel_rfl
  have hg := guardM
  have hq : ∀ W, (Op.equalIn 10000 76 (mv (y0, y1, y2, y3)) (mv (x0, x1, x2, x3))).run Try.prog W = .ok (decide ((y0, y1, y2, y3) = ((x0, x1, x2, x3) : M4))) W := fun W => eqInM _ _ W
  unfold mv at hq
  dsimp only at hq
  have HF := Aside0.mk hfb
  clear hb hx hp hfb
  have HX := Aside0.mk hX
  have HY := Aside0.mk hY
  have HP := Aside0.mk hP
  have HL := Aside0.mk hL
  clear hX hY hP hL
  have eb : ∀ args w, (callFunc fb args).run Try.prog w = .ok (.enter fb args) w := fun args w => enters_ (P := Try.prog) HF.out hnb hbb args w
  have hC : ∀ W, Calls Try.prog fb #[.agg #[.int .i64 y0, .int .i64 y1, .int .i64 y2, .int .i64 y3], .agg #[.int .i64 x0, .int .i64 x1, .int .i64 x2, .int .i64 x3]] W fun e w' => e = .returned (.bool (below (y0, y1, y2, y3) (x0, x1, x2, x3))) ∧ Lays W w' := HC.out
  obtain ⟨x0_, x1_, x2_, x3_⟩ := HX.out
  have p_ := HP.out
  dsimp only at x0_ x1_ x2_ x3_
  cases hd : decide ((y0, y1, y2, y3) = ((x0, x1, x2, x3) : M4)) with
  | true =>
    rw [hd] at hq
    clear hd hC
    go_enter Try.func94, Try.ntmps94
    go_wp2
    go_ret
    exact ⟨rfl, HL.out⟩
  | false =>
    rw [hd] at hq
    clear hd
    have HCC := Aside0.mk hC
    clear hC
    go_enter Try.func94, Try.ntmps94
    go_wp2_with (go_at_fn fb; refine (HCC.out _).mono ?_; rintro e w' ⟨rfl, hb⟩)
    go_ret
    exact ⟨rfl, HL.out.step hb⟩
theorem other_calls (fb : FuncId) (fn : Func) (hfb : Try.prog.funcs[fb]? = some fn) (hnb : (fn.name == "runtime.NumGoroutine") = false) (hbb : fn.body.isSome = true) (below : M4 → M4 → Bool) (hb : Compares fb below) (y x : M4) (px pb : Nat) (w : World)
    (hx : BoxAt w px x) (hp : w.cell? ⟨pb, 0, none⟩ = some (.func (.func fb) #[] #[])) :
    Calls Try.prog 94 #[mv y, .pointer (some ⟨px, 0, none⟩), .pointer (some ⟨pb, 0, none⟩)] w fun e w' => e = .returned (.bool (!decide (y = x) && below y x)) ∧ Lays w w' := by
  obtain ⟨y0, y1, y2, y3⟩ := y
  obtain ⟨x0, x1, x2, x3⟩ := x
  exact other_calls_ fb fn hfb hnb hbb below hb y0 y1 y2 y3 x0 x1 x2 x3 px pb w hx hp
end Go.Proofs.Ytmekcfkfkpbfeaa.H
