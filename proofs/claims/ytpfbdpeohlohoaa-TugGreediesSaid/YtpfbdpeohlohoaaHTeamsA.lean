/- The walk of tug.Teams and of the closure that it hands to itself: teams are assigned one pull after the other, a branch that can't be less is left. No condition. -/
import Derived.Test.YtpfbdpeohlohoaaHBase
import Derived.Test.YtpfbdpeohlohoaaHClone
import Derived.Test.YtpfbdpeohlohoaaGa1
import Derived.BigRegion
import Derived.Deep.RegionHeld3
import Derived.Deep.RegionLaw
import Derived.Deep.RegionLawGrows
import Derived.OneCell
import Derived.Outline
namespace Go.Proofs.Ytpfbdpeohlohoaa.H
open Go.Proofs.Ytpfbdpeohlohoaa.Ga
open Go.RowKit Go.Proofs.YtpfbdpeohlohoaaW.PrintWords Go.Proofs.YtpfbdpeohlohoaaW.PrintLast Go.Proofs.YtpfbdpeohlohoaaW.PrintMore
attribute [local go_sem] max2_int min2_int max_two min_two max_three min_three max_four min_four
set_option linter.unusedVariables false
set_option linter.unusedSimpArgs false

mutual
def asg (l0 : List Int) (K : Int) : Nat → List Int → List Int → Int → Int → List Int → Option (Int × List Int × List Int)
  | 0, _, _, _, _, _ => none
  | k + 1, ts, sums, used, best, out =>
    if (ts.length : Int) = (l0.length : Int) then ((slices_Max_int_int.f k sums).bind fun m => (if best < 0 then ((slices_Clone.f ts).bind fun c => some (m, c, sums)) else (if m < best then ((slices_Clone.f ts).bind fun c => some (m, c, sums)) else some (best, out, sums))))
    else asgL l0 K k ts sums used best out (mn (wrap64 (used + 1)) K) 0
def asgL (l0 : List Int) (K : Int) : Nat → List Int → List Int → Int → Int → List Int → Int → Int → Option (Int × List Int × List Int)
  | 0, _, _, _, _, _, _, _ => none
  | k + 1, ts, sums, used, best, out, lim, t =>
    if t < lim then (if 0 ≤ t ∧ t < (sums.length : Int) ∧ (ts.length : Int) < (l0.length : Int) then
      ((if best < 0 ∨ (wrap64 (rd sums t + rd l0 (ts.length : Int))) < best then (asg l0 K k (ts ++ [t]) (sums.set t.toNat (wrap64 (rd sums t + rd l0 (ts.length : Int)))) (mx used (wrap64 (t + 1))) best out)
        else some (best, out, sums.set t.toNat (wrap64 (rd sums t + rd l0 (ts.length : Int))))).bind fun r =>
        (asgL l0 K k ts (r.2.2.set t.toNat (wrap64 (rd r.2.2 t - rd l0 (ts.length : Int)))) used r.1 r.2.1 lim (wrap64 (t + 1)))) else none)
    else some (best, out, sums)
end
theorem asg_mono (l0 : List Int) (K : Int) : ∀ k, (∀ ts sums used best out, LeO (asg l0 K k ts sums used best out) (asg l0 K (k + 1) ts sums used best out)) ∧ (∀ ts sums used best out lim t, LeO (asgL l0 K k ts sums used best out lim t) (asgL l0 K (k + 1) ts sums used best out lim t))
  | 0 => ⟨fun _ _ _ _ _ r h => by simp [asg] at h, fun _ _ _ _ _ _ _ r h => by simp [asgL] at h⟩
  | k + 1 => by
    obtain ⟨ih0, ih1⟩ := asg_mono l0 K k
    refine ⟨?_, ?_⟩
    · intro ts sums used best out
      unfold asg
      repeat' first
        | (with_reducible exact ih0 _ _ _ _ _)
        | (with_reducible exact ih1 _ _ _ _ _ _ _)
        | (with_reducible exact slices_Max_int_int.mono _ _)
        | (with_reducible exact LeO.refl _)
        | (with_reducible exact LeO.none _)
        | (with_reducible refine LeO.ite ?_ ?_)
        | (with_reducible refine LeO.bind ?_ (fun _ => ?_))
    · intro ts sums used best out lim t
      unfold asgL
      repeat' first
        | (with_reducible exact ih0 _ _ _ _ _)
        | (with_reducible exact ih1 _ _ _ _ _ _ _)
        | (with_reducible exact LeO.refl _)
        | (with_reducible exact LeO.none _)
        | (with_reducible refine LeO.ite ?_ ?_)
        | (with_reducible refine LeO.bind ?_ (fun _ => ?_))

/-- What a block of one cell holds. -/
def tcaps (g2 g3 g8 g9 g10 : Nat) : Array Value := #[.pointer (some ⟨g2, 0, none⟩), .pointer (some ⟨g8, 0, none⟩), .pointer (some ⟨g9, 0, none⟩), .pointer (some ⟨g3, 0, none⟩), .pointer (some ⟨g10, 0, none⟩)]
structure TSt (w0 : World) (A0 : Option Addr) (c0 : Nat) (l0 : List Int) (K : Int) (g2 g3 g8 g9 g10 gs cs ns : Nat) (vt vo : Value) (W : World) (best : Int) (out sums : List Int) : Prop where
  hB : Below w0.heap.size w0 W
  b2 : W.heap[g2]? = some (.cells #[.slice A0 l0.length c0] 22 (0, 0))
  b3 : W.heap[g3]? = some (.cells #[.int .i64 K] 3 (0, 0))
  b8 : W.heap[g8]? = some (.cells #[.int .i64 best] 3 (0, 0))
  b9 : W.heap[g9]? = some (.cells #[vo] 22 (0, 0))
  b10 : W.heap[g10]? = some (.cells #[.func (.func 51) #[] (tcaps g2 g3 g8 g9 g10)] 74 (0, 0))
  ro : Kd.R (Kd.int .i64) 3 W w0.heap.size (fun k => k ≠ gs ∧ k ≠ g8 ∧ some k ≠ vt.ownBlock) vo out
  rs : Kd.R (Kd.int .i64) 3 W w0.heap.size (fun k => k = gs) (.slice (some ⟨gs, 0, none⟩) ns cs) sums
/-- The numbers of the blocks differ, and lie behind the world at the begin. -/
structure TNe (w0 : World) (g2 g3 g8 g9 g10 gs : Nat) : Prop where
  n28 : g2 ≠ g8
  n2s : g2 ≠ gs
  n29 : g2 ≠ g9
  n38 : g3 ≠ g8
  n3s : g3 ≠ gs
  n39 : g3 ≠ g9
  n108 : g10 ≠ g8
  n10s : g10 ≠ gs
  n109 : g10 ≠ g9
  n89 : g8 ≠ g9
  n8s : g8 ≠ gs
  n9s : g9 ≠ gs
  l8 : w0.heap.size ≤ g8
  l9 : w0.heap.size ≤ g9
  ls : w0.heap.size ≤ gs

theorem TSt.below {w0 : World} {A0 : Option Addr} {c0 : Nat} {l0 : List Int} {K : Int} {g2 g3 g8 g9 g10 gs cs ns : Nat} {vt vo : Value} {W : World} {best : Int} {out sums : List Int} {W1 : World} (h : TSt w0 A0 c0 l0 K g2 g3 g8 g9 g10 gs cs ns vt vo W best out sums) (hb : Below W.heap.size W W1) : TSt w0 A0 c0 l0 K g2 g3 g8 g9 g10 gs cs ns vt vo W1 best out sums :=
  ⟨below_step h.hB hb, blk_below h.b2 hb, blk_below h.b3 hb, blk_below h.b8 hb, blk_below h.b9 hb, blk_below h.b10 hb, Kd.R_below h.ro hb, Kd.R_below h.rs hb⟩
theorem TSt.drew {w0 : World} {A0 : Option Addr} {c0 : Nat} {l0 : List Int} {K : Int} {g2 g3 g8 g9 g10 gs cs ns : Nat} {vt vo : Value} {W : World} {best : Int} {out sums : List Int} (h : TSt w0 A0 c0 l0 K g2 g3 g8 g9 g10 gs cs ns vt vo W best out sums) : TSt w0 A0 c0 l0 K g2 g3 g8 g9 g10 gs cs ns vt vo W.drew best out sums := ⟨below_drew1 h.hB, h.b2, h.b3, h.b8, h.b9, h.b10, Kd.R_drew h.ro, Kd.R_drew h.rs⟩
theorem TSt.drewN {w0 : World} {A0 : Option Addr} {c0 : Nat} {l0 : List Int} {K : Int} {g2 g3 g8 g9 g10 gs cs ns : Nat} {vt vo : Value} {W : World} {best : Int} {out sums : List Int} (h : TSt w0 A0 c0 l0 K g2 g3 g8 g9 g10 gs cs ns vt vo W best out sums) (m : Nat) : TSt w0 A0 c0 l0 K g2 g3 g8 g9 g10 gs cs ns vt vo (W.drewN m) best out sums := ⟨pw_below_drewN h.hB m, h.b2, h.b3, h.b8, h.b9, h.b10, Kd.R_drewN h.ro m, Kd.R_drewN h.rs m⟩
theorem TSt.set8 {w0 : World} {A0 : Option Addr} {c0 : Nat} {l0 : List Int} {K : Int} {g2 g3 g8 g9 g10 gs cs ns : Nat} {vt vo : Value} {W : World} {best : Int} {out sums : List Int} (n : TNe w0 g2 g3 g8 g9 g10 gs) (h : TSt w0 A0 c0 l0 K g2 g3 g8 g9 g10 gs cs ns vt vo W best out sums) (b : Int) : TSt w0 A0 c0 l0 K g2 g3 g8 g9 g10 gs cs ns vt vo (W.setCell ⟨g8, 0, none⟩ (.int .i64 b)) b out sums :=
  ⟨below_set h.hB n.l8, blk_far h.b2 n.n28 _, blk_far h.b3 n.n38 _, by simpa using blk_set h.b8 0 (.int .i64 b), blk_far h.b9 (fun e => n.n89 e.symm) _, blk_far h.b10 n.n108 _, Kd.R_far h.ro (fun k hk => hk.2.1) _, Kd.R_far h.rs (fun k hk => by rw [hk]; exact fun e => n.n8s e.symm) _⟩
theorem TSt.set9 {w0 : World} {A0 : Option Addr} {c0 : Nat} {l0 : List Int} {K : Int} {g2 g3 g8 g9 g10 gs cs ns : Nat} {vt vo : Value} {W : World} {best : Int} {out sums : List Int} (n : TNe w0 g2 g3 g8 g9 g10 gs) (h : TSt w0 A0 c0 l0 K g2 g3 g8 g9 g10 gs cs ns vt vo W best out sums) {v1 : Value} {o1 : List Int} (ho : Kd.R (Kd.int .i64) 3 W w0.heap.size (fun k => k ≠ gs ∧ k ≠ g8 ∧ some k ≠ vt.ownBlock) v1 o1) : TSt w0 A0 c0 l0 K g2 g3 g8 g9 g10 gs cs ns vt v1 (W.setCell ⟨g9, 0, none⟩ v1) best o1 sums :=
  ⟨below_set h.hB n.l9, blk_far h.b2 n.n29 _, blk_far h.b3 n.n39 _, blk_far h.b8 n.n89 _, by simpa using blk_set h.b9 0 v1, blk_far h.b10 n.n109 _, Kd.R_set ho h.b9 (by simp [Kd.int, Kd.scalar]) 0 _, Kd.R_set h.rs h.b9 (by simp [Kd.int, Kd.scalar]) 0 _⟩
theorem TSt.sets {w0 : World} {A0 : Option Addr} {c0 : Nat} {l0 : List Int} {K : Int} {g2 g3 g8 g9 g10 gs cs ns : Nat} {vt vo : Value} {W : World} {best : Int} {out sums : List Int} (n : TNe w0 g2 g3 g8 g9 g10 gs) (h : TSt w0 A0 c0 l0 K g2 g3 g8 g9 g10 gs cs ns vt vo W best out sums) (i : Int) (x : Int) : TSt w0 A0 c0 l0 K g2 g3 g8 g9 g10 gs cs ns vt vo (W.setCell ⟨gs, i.toNat, none⟩ (.int .i64 x)) best out (sums.set i.toNat x) :=
  ⟨below_set h.hB n.ls, blk_far h.b2 n.n2s _, blk_far h.b3 n.n3s _, blk_far h.b8 n.n8s _, blk_far h.b9 n.n9s _, blk_far h.b10 n.n10s _, Kd.R_far h.ro (fun k hk => hk.1) _, (Kd.R_putg h.rs i x).1⟩
theorem TSt.c2 {w0 : World} {A0 : Option Addr} {c0 : Nat} {l0 : List Int} {K : Int} {g2 g3 g8 g9 g10 gs cs ns : Nat} {vt vo : Value} {W : World} {best : Int} {out sums : List Int} (h : TSt w0 A0 c0 l0 K g2 g3 g8 g9 g10 gs cs ns vt vo W best out sums) : W.cell? ⟨g2, 0, none⟩ = some (.slice A0 l0.length c0) := (blk_cell h.b2 0).trans rfl
theorem TSt.c3 {w0 : World} {A0 : Option Addr} {c0 : Nat} {l0 : List Int} {K : Int} {g2 g3 g8 g9 g10 gs cs ns : Nat} {vt vo : Value} {W : World} {best : Int} {out sums : List Int} (h : TSt w0 A0 c0 l0 K g2 g3 g8 g9 g10 gs cs ns vt vo W best out sums) : W.cell? ⟨g3, 0, none⟩ = some (.int .i64 K) := (blk_cell h.b3 0).trans rfl
theorem TSt.c8 {w0 : World} {A0 : Option Addr} {c0 : Nat} {l0 : List Int} {K : Int} {g2 g3 g8 g9 g10 gs cs ns : Nat} {vt vo : Value} {W : World} {best : Int} {out sums : List Int} (h : TSt w0 A0 c0 l0 K g2 g3 g8 g9 g10 gs cs ns vt vo W best out sums) : W.cell? ⟨g8, 0, none⟩ = some (.int .i64 best) := (blk_cell h.b8 0).trans rfl
theorem TSt.c9 {w0 : World} {A0 : Option Addr} {c0 : Nat} {l0 : List Int} {K : Int} {g2 g3 g8 g9 g10 gs cs ns : Nat} {vt vo : Value} {W : World} {best : Int} {out sums : List Int} (h : TSt w0 A0 c0 l0 K g2 g3 g8 g9 g10 gs cs ns vt vo W best out sums) : W.cell? ⟨g9, 0, none⟩ = some vo := (blk_cell h.b9 0).trans rfl
theorem TSt.c10 {w0 : World} {A0 : Option Addr} {c0 : Nat} {l0 : List Int} {K : Int} {g2 g3 g8 g9 g10 gs cs ns : Nat} {vt vo : Value} {W : World} {best : Int} {out sums : List Int} (h : TSt w0 A0 c0 l0 K g2 g3 g8 g9 g10 gs cs ns vt vo W best out sums) : W.cell? ⟨g10, 0, none⟩ = some (.func (.func 51) #[] (tcaps g2 g3 g8 g9 g10)) := (blk_cell h.b10 0).trans rfl
theorem TSt.f8 {w0 : World} {A0 : Option Addr} {c0 : Nat} {l0 : List Int} {K : Int} {g2 g3 g8 g9 g10 gs cs ns : Nat} {vt vo : Value} {W : World} {best : Int} {out sums : List Int} (h : TSt w0 A0 c0 l0 K g2 g3 g8 g9 g10 gs cs ns vt vo W best out sums) : W.frozen? ⟨g8, 0, none⟩ = false := blk_frozen h.b8 0
theorem TSt.f9 {w0 : World} {A0 : Option Addr} {c0 : Nat} {l0 : List Int} {K : Int} {g2 g3 g8 g9 g10 gs cs ns : Nat} {vt vo : Value} {W : World} {best : Int} {out sums : List Int} (h : TSt w0 A0 c0 l0 K g2 g3 g8 g9 g10 gs cs ns vt vo W best out sums) : W.frozen? ⟨g9, 0, none⟩ = false := blk_frozen h.b9 0
/-- What the call may write. -/
def TS (g8 g9 gs : Nat) (vt : Value) (k : Nat) : Prop := k = g8 ∨ k = g9 ∨ k = gs ∨ some k = vt.ownBlock
/-- What the call comes to. -/
def TPost (w0 : World) (A0 : Option Addr) (c0 : Nat) (l0 : List Int) (K : Int) (g2 g3 g8 g9 g10 gs cs ns : Nat) (vt vo : Value) (ts sums : List Int) (W : World) (b' : Int) (o' s' : List Int) (W' : World) : Prop :=
  ∃ vo', TSt w0 A0 c0 l0 K g2 g3 g8 g9 g10 gs cs ns vt vo' W' b' o' s' ∧ Kd.R (Kd.int .i64) 3 W' w0.heap.size (fun k => k ≠ gs ∧ k ≠ g8 ∧ k ≠ g3) vt ts ∧ Kept W W' (TS g8 g9 gs vt) ∧ (vo' = vo ∨ ∀ k, vo'.ownBlock = some k → W.heap.size ≤ k)

theorem clone_ok {w0 : World} {A0 : Option Addr} {c0 : Nat} {l0 : List Int} {K : Int} {g2 g3 g8 g9 g10 gs cs ns : Nat} {vt vo : Value} {W : World} {best : Int} {out sums : List Int} {W0 W2 : World} {v1 : Value} {c ts : List Int} (h : TSt w0 A0 c0 l0 K g2 g3 g8 g9 g10 gs cs ns vt vo W best out sums) (hr : Kd.R (Kd.int .i64) 3 W w0.heap.size (fun k => k ≠ gs ∧ k ≠ g8 ∧ k ≠ g3) vt ts) (ho : Kd.R (Kd.int .i64) 3 W2 W.heap.size (fun _ => True) v1 c) (hs : W0.heap.size ≤ W.heap.size) :
    Kd.R (Kd.int .i64) 3 W2 w0.heap.size (fun k => k ≠ gs ∧ k ≠ g8 ∧ some k ≠ vt.ownBlock) v1 c ∧ ∀ k, v1.ownBlock = some k → W0.heap.size ≤ k := by
  have hbig := Kd.R_bound ho
  refine ⟨Kd.R_mono (Kd.R_lower hbig h.hB.size) (fun k hk => ⟨?_, ?_, ?_⟩), fun k hk => ?_⟩
  · rintro rfl
    have := hk.2.1
    obtain ⟨i, ho2⟩ := Kd.R_own h.rs
    have := own_lt ho2 k rfl
    omega
  · rintro rfl
    have := blk_lt h.b8
    omega
  · intro e
    obtain ⟨i, ho2⟩ := Kd.R_own hr
    have := own_lt ho2 k e.symm
    omega
  · have := hbig.1 k hk
    omega

set_option maxHeartbeats 8000000 in
set_option maxRecDepth 100000 in
theorem asg_base (w0 : World) (A0 : Option Addr) (c0 : Nat) (l0 : List Int) (K : Int) (g2 g3 g8 g9 g10 gs cs ns : Nat) (n : TNe w0 g2 g3 g8 g9 g10 gs) (k : Nat) (ts sums : List Int) (used best : Int) (out : List Int) (b' : Int) (o' s' : List Int) (At : Option Addr) (ct : Nat) (vo : Value) (W : World)
    (ht : TSt w0 A0 c0 l0 K g2 g3 g8 g9 g10 gs cs ns (.slice At ts.length ct) vo W best out sums) (hr : Kd.R (Kd.int .i64) 3 W w0.heap.size (fun k => k ≠ gs ∧ k ≠ g8 ∧ k ≠ g3) (.slice At ts.length ct) ts)
    (heq : (ts.length : Int) = (l0.length : Int)) (h : asg l0 K (k + 1) ts sums used best out = some (b', o', s')) :
    Calls Try.prog 51 #[.slice At ts.length ct, .slice (some ⟨gs, 0, none⟩) ns cs, .int .i64 used, .pointer (some ⟨g2, 0, none⟩), .pointer (some ⟨g8, 0, none⟩), .pointer (some ⟨g9, 0, none⟩), .pointer (some ⟨g3, 0, none⟩), .pointer (some ⟨g10, 0, none⟩)] W fun e W' => e = .returned (.tuple #[]) ∧ TPost w0 A0 c0 l0 K g2 g3 g8 g9 g10 gs cs ns (.slice At ts.length ct) vo ts sums W b' o' s' W' := by
  obtain rfl := (Kd.R_reads' ht.rs).1
  have HN := Aside0.mk n
  have HT := Aside0.mk ht
  have HR := Aside0.mk hr
  clear n ht hr

  have hc2 := HT.out.c2
  have hc3 := HT.out.c3
  have hc8 := HT.out.c8
  have hc9 := HT.out.c9
  have hc10 := HT.out.c10
  have hf8 := HT.out.f8
  have hf9 := HT.out.f9
  have q0 : (ts.length == l0.length) = true := by simp; omega
  unfold asg at h
  rw [if_pos heq] at h
  obtain ⟨m, A1, H⟩ := Option.bind_eq_some_iff.mp h
  have A1 := Aside0.mk A1
  clear h heq
  by_cases d1 : best < 0
  · rw [if_pos d1] at H
    have d1b : decide (best < 0) = true := decide_eq_true d1
    obtain ⟨c, A2, H⟩ := Option.bind_eq_some_iff.mp H
    have A2 := Aside0.mk A2
    simp only [Option.some.injEq, Prod.mk.injEq] at H
    obtain ⟨rfl, rfl, rfl⟩ := H
    go_enter Try.func51, Try.ntmps51
    go_wp2_with (first | ((with_reducible refine gate_callee (f := 52) rfl ?_); refine goesL_ (some 21) rfl rfl Try.func52 (by kernel_rfl) rfl #[.slice (some ⟨gs, 0, none⟩) sums.length cs] rfl (by (try simp only [List.map_toArray, List.map_cons, List.map_nil]); first | done | rfl) ?_; (with_reducible refine (slices_Max_int_int.calls k _ _ sums m _ ?side1 ?side2 A1.out).mono ?_); (case side1 => exact (Kd.R_reads' HT.out.rs).2.2); (case side2 => exact (Kd.R_reads' HT.out.rs).2.1); rintro e w5 ⟨rfl, hb⟩; refine ⟨_, rfl, ?_⟩; have n0_ := Aside0.mk (HT.out.below hb); have n1_ := Aside0.mk (Kd.R_below HR.out hb); have n2_ := Aside0.mk (Kept.of_below hb (TS g8 g9 gs (.slice At ts.length ct))); clear HT HR hc2 hc3 hc8 hc9 hc10 hf8 hf9 hb; have HT := n0_; have HR := n1_; have HK := n2_; clear n0_ n1_ n2_; have hc8 := HT.out.c8; have hf8 := HT.out.f8; have hf9 := HT.out.f9; have hc9 := HT.out.c9) | ((with_reducible refine gate_callee (f := 53) rfl ?_); refine goesL_ (some 31) rfl rfl Try.func53 (by kernel_rfl) rfl #[.slice At ts.length ct] rfl (by (try simp only [List.map_toArray, List.map_cons, List.map_nil]); first | done | rfl) ?_; (with_reducible refine (slices_Clone.calls _ _ ts c _ ?side1 ?side2 A2.out).mono ?_); (case side1 => exact (Kd.R_reads' HR.out).2.2); (case side2 => exact (Kd.R_reads' HR.out).2.1); rintro e w7 ⟨v31, rfl, ho, hb⟩; refine ⟨_, rfl, ?_⟩; obtain ⟨Ao31, co31, rfl⟩ := Kd.R_slice ho; have HZ := Aside0.mk (Nat.le_trans HK.out.1 (Nat.le_refl _)); have n0_ := Aside0.mk (HT.out.below hb); have n1_ := Aside0.mk (Kd.R_below HR.out hb); have n2_ := Aside0.mk (Kept.below HK.out hb); have HO := Aside0.mk (clone_ok (vt := .slice At ts.length ct) HT.out HR.out ho HK.out.1); clear HT HR HK hc8 hc9 hf8 hf9 ho hb; have HT := n0_; have HR := n1_; have HK := n2_; clear n0_ n1_ n2_; have hc8 := HT.out.c8; have hf8 := HT.out.f8; have hf9 := HT.out.f9; have hc9 := HT.out.c9; have hd9 := (HT.out.set8 HN.out m).c9; have hg9 := (HT.out.set8 HN.out m).f9))
    (first | go_end0 | refine bodyPost_ret (results_none rfl _ _ _) rfl ?_)
    exact ⟨rfl, ⟨.slice Ao31 c.length co31, (HT.out.set8 HN.out m).set9 HN.out (Kd.R_far HO.out.1 (fun k hk => hk.2.1) _), Kd.R_set (Kd.R_far HR.out (fun k hk => hk.2.1) _) (HT.out.set8 HN.out m).b9 (by simp [Kd.int, Kd.scalar]) 0 _, Kept.setCell (Kept.setCell HK.out (.inl (.inl rfl)) _) (.inl (.inr (.inl rfl))) _, .inr HO.out.2⟩⟩
  · rw [if_neg d1] at H
    have d1b : decide (best < 0) = false := decide_eq_false d1
    by_cases d2 : m < best
    · rw [if_pos d2] at H
      have d2b : decide (m < best) = true := decide_eq_true d2
      obtain ⟨c, A2, H⟩ := Option.bind_eq_some_iff.mp H
      have A2 := Aside0.mk A2
      simp only [Option.some.injEq, Prod.mk.injEq] at H
      obtain ⟨rfl, rfl, rfl⟩ := H
      go_enter Try.func51, Try.ntmps51
      go_wp2_with (first | ((with_reducible refine gate_callee (f := 52) rfl ?_); refine goesL_ (some 21) rfl rfl Try.func52 (by kernel_rfl) rfl #[.slice (some ⟨gs, 0, none⟩) sums.length cs] rfl (by (try simp only [List.map_toArray, List.map_cons, List.map_nil]); first | done | rfl) ?_; (with_reducible refine (slices_Max_int_int.calls k _ _ sums m _ ?side1 ?side2 A1.out).mono ?_); (case side1 => exact (Kd.R_reads' HT.out.rs).2.2); (case side2 => exact (Kd.R_reads' HT.out.rs).2.1); rintro e w5 ⟨rfl, hb⟩; refine ⟨_, rfl, ?_⟩; have n0_ := Aside0.mk (HT.out.below hb); have n1_ := Aside0.mk (Kd.R_below HR.out hb); have n2_ := Aside0.mk (Kept.of_below hb (TS g8 g9 gs (.slice At ts.length ct))); clear HT HR hc2 hc3 hc8 hc9 hc10 hf8 hf9 hb; have HT := n0_; have HR := n1_; have HK := n2_; clear n0_ n1_ n2_; have hc8 := HT.out.c8; have hf8 := HT.out.f8; have hf9 := HT.out.f9; have hc9 := HT.out.c9) | ((with_reducible refine gate_callee (f := 53) rfl ?_); refine goesL_ (some 31) rfl rfl Try.func53 (by kernel_rfl) rfl #[.slice At ts.length ct] rfl (by (try simp only [List.map_toArray, List.map_cons, List.map_nil]); first | done | rfl) ?_; (with_reducible refine (slices_Clone.calls _ _ ts c _ ?side1 ?side2 A2.out).mono ?_); (case side1 => exact (Kd.R_reads' HR.out).2.2); (case side2 => exact (Kd.R_reads' HR.out).2.1); rintro e w7 ⟨v31, rfl, ho, hb⟩; refine ⟨_, rfl, ?_⟩; obtain ⟨Ao31, co31, rfl⟩ := Kd.R_slice ho; have HZ := Aside0.mk (Nat.le_trans HK.out.1 (Nat.le_refl _)); have n0_ := Aside0.mk (HT.out.below hb); have n1_ := Aside0.mk (Kd.R_below HR.out hb); have n2_ := Aside0.mk (Kept.below HK.out hb); have HO := Aside0.mk (clone_ok (vt := .slice At ts.length ct) HT.out HR.out ho HK.out.1); clear HT HR HK hc8 hc9 hf8 hf9 ho hb; have HT := n0_; have HR := n1_; have HK := n2_; clear n0_ n1_ n2_; have hc8 := HT.out.c8; have hf8 := HT.out.f8; have hf9 := HT.out.f9; have hc9 := HT.out.c9; have hd9 := (HT.out.set8 HN.out m).c9; have hg9 := (HT.out.set8 HN.out m).f9))
      (first | go_end0 | (refine bodyPost_ret (results_none rfl _ _ _) rfl ?_))
      exact ⟨rfl, ⟨.slice Ao31 c.length co31, (HT.out.set8 HN.out m).set9 HN.out (Kd.R_far HO.out.1 (fun k hk => hk.2.1) _), Kd.R_set (Kd.R_far HR.out (fun k hk => hk.2.1) _) (HT.out.set8 HN.out m).b9 (by simp [Kd.int, Kd.scalar]) 0 _, Kept.setCell (Kept.setCell HK.out (.inl (.inl rfl)) _) (.inl (.inr (.inl rfl))) _, .inr HO.out.2⟩⟩
    · rw [if_neg d2] at H
      have d2b : decide (m < best) = false := decide_eq_false d2
      simp only [Option.some.injEq, Prod.mk.injEq] at H
      obtain ⟨rfl, rfl, rfl⟩ := H
      go_enter Try.func51, Try.ntmps51
      go_wp2_with (first | ((with_reducible refine gate_callee (f := 52) rfl ?_); refine goesL_ (some 21) rfl rfl Try.func52 (by kernel_rfl) rfl #[.slice (some ⟨gs, 0, none⟩) sums.length cs] rfl (by (try simp only [List.map_toArray, List.map_cons, List.map_nil]); first | done | rfl) ?_; (with_reducible refine (slices_Max_int_int.calls k _ _ sums m _ ?side1 ?side2 A1.out).mono ?_); (case side1 => exact (Kd.R_reads' HT.out.rs).2.2); (case side2 => exact (Kd.R_reads' HT.out.rs).2.1); rintro e w5 ⟨rfl, hb⟩; refine ⟨_, rfl, ?_⟩; have n0_ := Aside0.mk (HT.out.below hb); have n1_ := Aside0.mk (Kd.R_below HR.out hb); have n2_ := Aside0.mk (Kept.of_below hb (TS g8 g9 gs (.slice At ts.length ct))); clear HT HR hc2 hc3 hc8 hc9 hc10 hf8 hf9 hb; have HT := n0_; have HR := n1_; have HK := n2_; clear n0_ n1_ n2_; have hc8 := HT.out.c8; have hf8 := HT.out.f8; have hf9 := HT.out.f9; have hc9 := HT.out.c9))
      (first | go_end0 | (refine bodyPost_ret (results_none rfl _ _ _) rfl ?_))
      exact ⟨rfl, ⟨vo, HT.out, HR.out, HK.out, .inl rfl⟩⟩

/-- One more behind the teams: in place, or in a new row. -/
structure Push (w0 : World) (gs g8 g3 : Nat) (vt v1 : Value) (ts : List Int) (t : Int) (W W4 : World) : Prop where
  grown : W.grownBy W4 vt.ownBlock
  own : Kd.R (Kd.int .i64) 3 W4 w0.heap.size (fun k => k ≠ gs ∧ k ≠ g8 ∧ k ≠ g3) v1 (ts ++ [t])
  back : (v1.ownBlock = vt.ownBlock ∧ ∀ W5, Kd.R (Kd.int .i64) 3 W5 w0.heap.size (fun k => k ≠ gs ∧ k ≠ g8 ∧ k ≠ g3) v1 (ts ++ [t]) → Kd.R (Kd.int .i64) 3 W5 w0.heap.size (fun k => k ≠ gs ∧ k ≠ g8 ∧ k ≠ g3) vt ts) ∨ ((∀ k, v1.ownBlock = some k → W.heap.size ≤ k) ∧ W.grownBy W4 none)
  some_ : ∃ A c, v1 = .slice A (ts.length + 1) c
theorem TSt.push {w0 : World} {A0 : Option Addr} {c0 : Nat} {l0 : List Int} {K : Int} {g2 g3 g8 g9 g10 gs cs ns : Nat} {vt vo : Value} {W : World} {best : Int} {out sums : List Int} {W4 : World} {v1 : Value} {ts : List Int} {t : Int} (h : TSt w0 A0 c0 l0 K g2 g3 g8 g9 g10 gs cs ns vt vo W best out sums) (hr : Kd.R (Kd.int .i64) 3 W w0.heap.size (fun k => k ≠ gs ∧ k ≠ g8 ∧ k ≠ g3) vt ts) (p : Push w0 gs g8 g3 vt v1 ts t W W4) : TSt w0 A0 c0 l0 K g2 g3 g8 g9 g10 gs cs ns v1 vo W4 best out sums := by
  have hty : ∀ k, vt.ownBlock = some k → ∃ cells, W.heap[k]? = some (.cells cells 3 (0, 0)) := fun k hk => by
    obtain ⟨i, ho⟩ := Kd.R_own hr
    exact own_typed ho k hk
  have hne : ∀ {g : Nat} {cs_ : Array Value} {T : TypeId}, W.heap[g]? = some (.cells cs_ T (0, 0)) → T ≠ 3 → some g ≠ vt.ownBlock := fun hb hT e => by
    obtain ⟨c2, hc2⟩ := hty _ e.symm
    rw [hb] at hc2
    injection hc2 with hc2
    injection hc2 with _ hc3
    exact hT hc3
  have hgt : ∀ k, vt.ownBlock = some k → w0.heap.size ≤ k := fun k hk => by
    obtain ⟨i, ho⟩ := Kd.R_own hr
    exact own_base ho k hk
  refine ⟨h.hB.grown p.grown h.hB.size hgt, blk_grown h.b2 p.grown (hne h.b2 (by decide)), blk_grown h.b3 p.grown (fun e => (hr.1 g3 e.symm).2.2 rfl), blk_grown h.b8 p.grown (fun e => (hr.1 g8 e.symm).2.1 rfl), blk_grown h.b9 p.grown (hne h.b9 (by decide)), blk_grown h.b10 p.grown (hne h.b10 (by decide)), ?_, ?_⟩
  · have h1 := Kd.R_grown (Kd.R_bound h.ro) p.grown (fun k hk => hk.1.2.2)
    refine Kd.R_mono h1 (fun k hk => ⟨hk.1.1, hk.1.2.1, fun e => ?_⟩)
    rcases p.back with ⟨e1, _⟩ | ⟨e1, _⟩
    · exact hk.1.2.2 (e.trans e1)
    · have := e1 k e.symm
      have := hk.2.2.1
      omega
  · exact Kd.R_grown h.rs p.grown (fun k hk e => (hr.1 gs (by rw [← hk]; exact e.symm)).1 rfl)
/-- Behind the call: the state that the round goes on with. -/
theorem TPost.pop {w0 : World} {A0 : Option Addr} {c0 : Nat} {l0 : List Int} {K : Int} {g2 g3 g8 g9 g10 gs cs ns : Nat} {vt vo : Value} {W : World} {best : Int} {out sums : List Int} {W4 W5 : World} {v1 : Value} {ts : List Int} {t : Int} {sums2 : List Int} {b2 : Int} {o2 s2 : List Int} (h : TSt w0 A0 c0 l0 K g2 g3 g8 g9 g10 gs cs ns vt vo W best out sums) (hr : Kd.R (Kd.int .i64) 3 W w0.heap.size (fun k => k ≠ gs ∧ k ≠ g8 ∧ k ≠ g3) vt ts) (p : Push w0 gs g8 g3 vt v1 ts t W W4)
    (q : TPost w0 A0 c0 l0 K g2 g3 g8 g9 g10 gs cs ns v1 vo (ts ++ [t]) sums2 W4 b2 o2 s2 W5) : TPost w0 A0 c0 l0 K g2 g3 g8 g9 g10 gs cs ns vt vo ts sums2 W b2 o2 s2 W5 := by
  obtain ⟨vo2, ht, hr2, hk, hv⟩ := q
  have hsz := p.grown.size
  have hk0 : Kept W W5 (TS g8 g9 gs vt) := by
    refine Kept.then_ (Kept.of_grown p.grown (Kept.refl W (TS g8 g9 gs vt)) (fun k hk => .inl (.inr (.inr (.inr hk.symm))))) hk (fun k hk => ?_)
    rcases hk with hk | hk | hk | hk
    · exact .inl (.inl hk)
    · exact .inl (.inr (.inl hk))
    · exact .inl (.inr (.inr (.inl hk)))
    · rcases p.back with ⟨e1, _⟩ | ⟨e1, _⟩
      · exact .inl (.inr (.inr (.inr (hk.trans e1))))
      · exact .inr (e1 k hk.symm)
  have hvo : ∀ k, vo2.ownBlock = some k → some k ≠ vt.ownBlock := fun k hk e => by
    rcases hv with rfl | hv
    · exact (h.ro.1 k hk).2.2 e
    · have := hv k hk
      obtain ⟨i, ho⟩ := Kd.R_own hr
      have := own_lt ho k e.symm
      omega
  refine ⟨vo2, ⟨ht.hB, ht.b2, ht.b3, ht.b8, ht.b9, ht.b10, ?_, ht.rs⟩, ?_, hk0, ?_⟩
  · exact Kd.R_mono (Kd.R_tight rfl ht.ro) (fun k hk => ⟨(ht.ro.1 k hk.symm).1, (ht.ro.1 k hk.symm).2.1, hvo k hk.symm⟩)
  · rcases p.back with ⟨_, e1⟩ | ⟨e1, g0⟩
    · exact e1 _ hr2
    · have h4 := Kd.R_grown (Kd.R_tight rfl hr) g0 (fun k hk => by simp)
      refine Kd.R_reok rfl (Kd.R_kept h4 hk (fun k hk2 hs => ?_)) hr.1
      rcases hs with rfl | rfl | rfl | hs
      · exact (hr.1 _ hk2.symm).2.1 rfl
      · obtain ⟨i, ho⟩ := Kd.R_own hr
        obtain ⟨c2, hc2⟩ := own_typed ho _ hk2.symm
        exact blk_ne h.b9 hc2 (by decide) rfl
      · exact (hr.1 _ hk2.symm).1 rfl
      · have := e1 k hs.symm
        obtain ⟨i, ho⟩ := Kd.R_own hr
        have := own_lt ho k hk2.symm
        omega
  · rcases hv with hv | hv
    · exact .inl hv
    · exact .inr (fun k hk => Nat.le_trans hsz (hv k hk))

theorem push_room (w0 : World) (gs g8 g3 : Nat) (g cap : Nat) (ts : List Int) (t : Int) (W : World) (o : Obj) (hr : Kd.R (Kd.int .i64) 3 W w0.heap.size (fun k => k ≠ gs ∧ k ≠ g8 ∧ k ≠ g3) (.slice (some ⟨g, 0, none⟩) ts.length cap) ts) (hroom : ts.length < cap) :
    Push w0 gs g8 g3 (.slice (some ⟨g, 0, none⟩) ts.length cap) (.slice (some ⟨g, 0, none⟩) (ts.length + 1) cap) ts t W ((W.alloc o).setCell ⟨g, ts.length, none⟩ (.int .i64 t)).drew := by
  have hown := Kd.own_of_R hr
  have hg : g < W.heap.size := own_lt hown g rfl
  obtain ⟨hl, hx⟩ := hown
  rcases hx with ⟨e, _⟩ | ⟨g', cap', cur, e, hb, hh, h1, h2, h3, h4⟩
  · cases e
  · injection e with e1 _ e3
    injection e1 with e1
    injection e1 with e1 _ _
    subst e1
    subst e3
    have hh2 : ((W.alloc o).setCell ⟨g, ts.length, none⟩ (.int .i64 t)).drew.heap[g]? = some (.cells (cur.setIfInBounds ts.length (.int .i64 t)) 3 (0, 0)) := blk_set (blk_alloc hh o) _ _
    have htk : (cur.setIfInBounds ts.length (.int .i64 t)).toList.take ((ts.length + 1) * 1) = encs (Value.int .i64) (ts ++ [t]) := by
      rw [Nat.mul_one] at h4 h3 ⊢
      rw [Array.toList_setIfInBounds, List.take_add_one, List.take_set_of_le (Nat.le_refl _), h4, List.getElem?_set_self (by simpa [h3] using hroom)]
      simp [encs]
    refine ⟨⟨rfl, rfl, rfl, (show W.heap.size ≤ ((W.alloc o).setCell ⟨g, ts.length, none⟩ (.int .i64 t)).heap.size from by simp [World.setCell]), fun k hk hne => ?_⟩, Kd.R_of_own ⟨by simp [encs], .inr ⟨g, cap, _, by simp, hb, hh2, by simp; omega, h2, by simpa using h3, by simpa using htk⟩⟩ hr.1, .inl ⟨rfl, fun W5 h5 => ?_⟩, ⟨_, _, rfl⟩⟩
    · have : g ≠ k := fun e => hne (by simp [Value.ownBlock, e])
      exact (Below.heap_setCell _ ⟨g, ts.length, none⟩ _ k (fun e => this e.symm)).trans ((World.grownBy_alloc W o none).block k hk (by simp))
    · obtain ⟨h6, h7⟩ := Kd.own_of_R h5
      rcases h7 with ⟨e, _⟩ | ⟨g', cap', cur', e, hb', hh', h1', h2', h3', h4'⟩
      · cases e
      · injection e with e1 _ e3
        injection e1 with e1
        injection e1 with e1 _ _
        subst e1
        subst e3
        refine Kd.R_of_own ⟨by simp [encs], .inr ⟨g, cap, cur', rfl, hb', hh', by omega, h2', h3', ?_⟩⟩ h5.1
        have := congrArg (List.take ts.length) h4'
        rw [Nat.mul_one] at this ⊢
        rw [List.take_take] at this
        simpa [encs, Nat.min_eq_left] using this
theorem push_grow (w0 : World) (gs g8 g3 : Nat) (At : Option Addr) (ct : Nat) (ts : List Int) (t : Int) (W W4 : World) (o : Obj) (v1 : Value) (hs : gs < W.heap.size) (h8 : g8 < W.heap.size) (h3 : g3 < W.heap.size) (h0 : w0.heap.size ≤ W.heap.size)
    (ho : W4.ownsRow (W.alloc o).drew.heap.size 3 1 v1 (ts.length + 1) (encs (Value.int .i64) ts ++ [.int .i64 t])) (hg : (W.alloc o).drew.grownBy W4 none) :
    Push w0 gs g8 g3 (.slice At ts.length ct) v1 ts t W W4 := by
  have hsz : (W.alloc o).drew.heap.size = W.heap.size + 1 := (show (W.alloc o).heap.size = _ from by simp)
  have hb := fun k hk => own_base ho k hk
  have g0 : W.grownBy W4 none := ⟨hg.os, hg.tape, hg.output, by have := hg.size; omega, fun k hk hne => (hg.block k (by omega) hne).trans ((World.grownBy_alloc W o none).block k hk (by simp))⟩
  refine ⟨⟨g0.os, g0.tape, g0.output, g0.size, fun k hk _ => g0.block k hk (by simp)⟩, Kd.R_of_own (own_less (by simpa [encs] using ho) (by omega)) (fun k hk => ?_), .inr ⟨fun k hk => by have := hb k hk; omega, g0⟩, ?_⟩
  · have := hb k hk
    exact ⟨by omega, by omega, by omega⟩
  · obtain ⟨A, c, e⟩ := own_slice ho
    exact ⟨A, c, e⟩

theorem vo_then {W W3 : World} {S : Nat → Prop} {v0 v1 v2 : Value} (hk : Kept W W3 S) (h1 : v1 = v0 ∨ ∀ k, v1.ownBlock = some k → W.heap.size ≤ k) (h2 : v2 = v1 ∨ ∀ k, v2.ownBlock = some k → W3.heap.size ≤ k) : v2 = v0 ∨ ∀ k, v2.ownBlock = some k → W.heap.size ≤ k := by
  rcases h2 with rfl | h2
  · exact h1
  · exact .inr (fun k hk2 => Nat.le_trans hk.1 (h2 k hk2))

/-- What a call of the closure comes to, with so many rounds. -/
def AsgSays (w0 : World) (A0 : Option Addr) (c0 : Nat) (l0 : List Int) (K : Int) (g2 g3 g8 g9 g10 gs cs ns : Nat) (k : Nat) : Prop := ∀ (ts : List Int) (nt : Nat) (_ : nt = ts.length) (sums : List Int) (used best : Int) (out : List Int) (b' : Int) (o' s' : List Int) (At : Option Addr) (ct : Nat) (vo : Value) (W : World),
  TSt w0 A0 c0 l0 K g2 g3 g8 g9 g10 gs cs ns (.slice At nt ct) vo W best out sums → Kd.R (Kd.int .i64) 3 W w0.heap.size (fun k => k ≠ gs ∧ k ≠ g8 ∧ k ≠ g3) (.slice At nt ct) ts → asg l0 K k ts sums used best out = some (b', o', s') →
  Calls Try.prog 51 #[.slice At nt ct, .slice (some ⟨gs, 0, none⟩) ns cs, .int .i64 used, .pointer (some ⟨g2, 0, none⟩), .pointer (some ⟨g8, 0, none⟩), .pointer (some ⟨g9, 0, none⟩), .pointer (some ⟨g3, 0, none⟩), .pointer (some ⟨g10, 0, none⟩)] W fun e W' => e = .returned (.tuple #[]) ∧ TPost w0 A0 c0 l0 K g2 g3 g8 g9 g10 gs cs ns (.slice At nt ct) vo ts sums W b' o' s' W'
theorem rdOf_rd (xs : List Int) (i : Int) : rdOf 0 xs i = rd xs i := rfl
set_option maxHeartbeats 8000000 in
set_option maxRecDepth 100000 in
theorem asg_step (w0 : World) (A0 : Option Addr) (c0 : Nat) (l0 : List Int) (K : Int) (g2 g3 g8 g9 g10 gs cs ns : Nat) (n : TNe w0 g2 g3 g8 g9 g10 gs) (hr0 : Kd.C (Kd.int .i64) w0 A0 l0.length l0) (hc0 : l0.length ≤ c0) (hl0 : l0.length ≤ 1000) (k : Nat) (hih : ∀ k' ≤ k, AsgSays w0 A0 c0 l0 K g2 g3 g8 g9 g10 gs cs ns k') (ts sums : List Int) (used best : Int) (out : List Int) (b' : Int) (o' s' : List Int) (At : Option Addr) (ct : Nat) (vo : Value) (W : World)
    (ht : TSt w0 A0 c0 l0 K g2 g3 g8 g9 g10 gs cs ns (.slice At ts.length ct) vo W best out sums) (hr : Kd.R (Kd.int .i64) 3 W w0.heap.size (fun k => k ≠ gs ∧ k ≠ g8 ∧ k ≠ g3) (.slice At ts.length ct) ts)
    (hne : ¬ (ts.length : Int) = (l0.length : Int)) (h : asg l0 K (k + 1) ts sums used best out = some (b', o', s')) :
    Calls Try.prog 51 #[.slice At ts.length ct, .slice (some ⟨gs, 0, none⟩) ns cs, .int .i64 used, .pointer (some ⟨g2, 0, none⟩), .pointer (some ⟨g8, 0, none⟩), .pointer (some ⟨g9, 0, none⟩), .pointer (some ⟨g3, 0, none⟩), .pointer (some ⟨g10, 0, none⟩)] W fun e W' => e = .returned (.tuple #[]) ∧ TPost w0 A0 c0 l0 K g2 g3 g8 g9 g10 gs cs ns (.slice At ts.length ct) vo ts sums W b' o' s' W' := by
  have HN := Aside0.mk n
  have HT := Aside0.mk ht
  have HR := Aside0.mk hr
  have HR0 := Aside0.mk hr0
  have HC0 := Aside0.mk hc0
  have IH := Aside0.mk hih
  have HL0 := Aside0.mk hl0
  clear n ht hr hr0 hc0 hih hl0
  have hc2 := HT.out.c2
  have hc3 := HT.out.c3
  have q0 : (ts.length == l0.length) = false := by simp; omega
  have q1 : ((ts.length : Int) == (l0.length : Int)) = false := by simp; omega
  unfold asg at h
  rw [if_neg hne] at h
  obtain ⟨lim, hlim⟩ : ∃ j_ : Int, mn (wrap64 (used + 1)) K = j_ := ⟨_, rfl⟩
  rw [hlim] at h
  have hlim2 : (if K < wrap64 (used + 1) then K else wrap64 (used + 1)) = lim := by rw [← hlim]; unfold mn; rfl
  have H' := Aside0.mk h
  clear h hne
  go_enter Try.func51, Try.ntmps51
  go_wp2
  go_loopg [36] k (fun kq v36 w' => ∃ (best : Int) (out sums1 : List Int) (vo1 : Value) (t : Int), v36 = .int .i64 t ∧ Aside0 (asgL l0 K kq ts sums1 used best out lim t = some (b', o', s')) ∧ Aside0 (kq ≤ k) ∧ Aside0 (TSt w0 A0 c0 l0 K g2 g3 g8 g9 g10 gs cs ns (.slice At ts.length ct) vo1 w' best out sums1) ∧ Aside0 (Kd.R (Kd.int .i64) 3 w' w0.heap.size (fun k => k ≠ gs ∧ k ≠ g8 ∧ k ≠ g3) (.slice At ts.length ct) ts) ∧ Aside0 (Kept W w' (TS g8 g9 gs (.slice At ts.length ct))) ∧ Aside0 (vo1 = vo ∨ ∀ k, vo1.ownBlock = some k → W.heap.size ≤ k))
  case atStart => exact ⟨best, out, sums, vo, 0, (by first | rfl | (simp; done)), H', ⟨Nat.le_refl _⟩, HT, HR, ⟨Kept.refl _ _⟩, ⟨.inl rfl⟩⟩
  case round =>
    clear H' HT HR hc2 hc3 q0 q1
    obtain ⟨best1, out1, sums1, vo1, t, rfl, HA, HK1, HT, HR, HKp, HV⟩ := hrel
    cases gk with
    | zero => exact absurd HA.out (by simp [asgL])
    | succ k1 =>
      have H := HA.out
      clear HA
      simp only [asgL] at H
      by_cases c11 : t < lim
      · rw [if_pos c11] at H
        have c11b : decide (t < lim) = true := decide_eq_true c11
        clear c11
        by_cases c12 : 0 ≤ t ∧ t < (sums1.length : Int) ∧ (ts.length : Int) < (l0.length : Int)
        · rw [if_pos c12] at H
          obtain ⟨p1, p2, p3⟩ := c12
          obtain ⟨x, hx⟩ : ∃ j_ : Int, wrap64 (rd sums1 t + rd l0 (ts.length : Int)) = j_ := ⟨_, rfl⟩
          rw [hx] at H
          have hns : t < (ns : Int) := by have := (Kd.R_reads' HT.out.rs).1; omega
          obtain ⟨r, A1, H⟩ := Option.bind_eq_some_iff.mp H
          have H' := Aside0.mk H
          have A1 := Aside0.mk A1
          clear H
          obtain ⟨ad, ead, hxp⟩ := Kd.at_int HR0.out (ts.length : Int) (by omega) p3
          cases ead
          replace hxp := (HT.out.hB.cell (World.block_lt_of_cell? w0 _ hxp)).trans hxp
          rw [Int.toNat_natCast] at hxp
          obtain ⟨hxs, hfs⟩ := Kd.R_celln 0 HT.out.rs t p1 hns
          rw [rdOf_rd] at hxs
          have hc2 := HT.out.c2
          have hxw : IntKind.i64.wrap (rd sums1 t + rd l0 (ts.length : Int)) = x := (i64_w _).trans hx
          have p3n : ts.length < l0.length := by omega
          go_wp2
          go_region
          have n0_ := Aside0.mk ((HT.out.sets HN.out t x).drew)
          have n1_ := Aside0.mk (Kd.R_drew (Kd.R_far (p := ⟨gs, t.toNat, none⟩) (HR.out) (fun k hk => hk.1) (.int .i64 x)))
          have n2_ := Aside0.mk (Kept.drew (Kept.setCell (p := ⟨gs, t.toNat, none⟩) (HKp.out) (.inl (.inr (.inr (.inl rfl)))) (.int .i64 x)))
          clear HT HR HKp hxp hxs hfs hc2
          have HT := n0_; have HR := n1_; have HKp := n2_; clear n0_ n1_ n2_
          generalize (wr.setCell ⟨gs, t.toNat, none⟩ (.int .i64 x)).drew = w2 at HT HR HKp ⊢
          obtain ⟨hxs, hfs⟩ := Kd.R_celln 0 HT.out.rs t p1 hns
          rw [rdOf_rd] at hxs
          have hset : rd (sums1.set t.toNat x) t = x := by unfold rd; rw [List.getD_eq_getElem?_getD, List.getElem?_set_self (by omega)]; rfl
          rw [hset] at hxs
          clear hset
          have hc8 := HT.out.c8
          obtain ⟨i0, hi0, hz0, hz1, hz2⟩ := info_parts info3
          by_cases e1 : best1 < 0
          · have e1b : decide (best1 < 0) = true := decide_eq_true e1
            go_wp2
            go_quiet (fail)
            go_wp2
            obtain ⟨b2, o2, s2⟩ := r
            have A2 : Aside0 (asg l0 K k1 (ts ++ [t]) (sums1.set t.toNat x) (mx used (wrap64 (t + 1))) best1 out1 = some (b2, o2, s2)) := ⟨by have h_ := A1.out; rw [if_pos (Or.inl e1)] at h_; exact h_⟩
            have H9 : asgL l0 K k1 ts (s2.set t.toNat (wrap64 (rd s2 t - rd l0 (ts.length : Int)))) used b2 o2 lim (wrap64 (t + 1)) = some (b', o', s') := H'.out
            clear A1 H'
            have n0_ := Aside0.mk (HT.out.drewN nq)
            have n1_ := Aside0.mk (Kd.R_drewN HR.out nq)
            have n2_ := Aside0.mk (Kept.drewN HKp.out nq)
            clear HT HR HKp hxs hfs hc8
            have HT := n0_; have HR := n1_; have HKp := n2_; clear n0_ n1_ n2_
            generalize w2.drewN nq = w3 at HT HR HKp ⊢
            have hc10 := HT.out.c10
            unfold tcaps at hc10
            have eg := fun args w => enters_ (P := Try.prog) Try.func51 (by kernel_rfl) rfl args w
            obtain ⟨um, hum⟩ : ∃ j_ : Int, mx used (wrap64 (t + 1)) = j_ := ⟨_, rfl⟩
            rw [hum] at A2
            have hmx : (if used < wrap64 (t + 1) then wrap64 (t + 1) else used) = um := hum
            have hmxw : (if used < IntKind.i64.wrap (t + 1) then IntKind.i64.wrap (t + 1) else used) = um := by rw [i64_w]; exact hum
            clear hum
            have HOW := Aside0.mk (Kd.own_of_R HR.out)
            rcases HOW.out.2 with ⟨hnil, hn0⟩ | ⟨g, cap, cur, hvv, hgb, hh, h1, h2, h3, h4⟩
            · injection hnil with hn1 hn2 hn3
              subst hn1
              subst hn3
              clear hn2
              have HLT := Aside0.mk (show gs < w3.heap.size ∧ g8 < w3.heap.size ∧ g3 < w3.heap.size from ⟨own_lt (Kd.own_of_R HT.out.rs) gs rfl, blk_lt HT.out.b8, blk_lt HT.out.b3⟩)
              have HL := Aside0.mk (show ts.length < 1000 from by have := HL0.out; omega)
              have HLD : Aside0 (∀ b, (none : Option Addr) = some b → ∀ j u, (encs (Value.int .i64) ts)[j]? = some u → (w3.alloc (.cells #[.int .i64 t] 3)).drew.cell? (b.add j) = some u) := ⟨fun b hb => by cases hb⟩
              have hn0' : ts.length = 0 := hn0
              clear hn0
              have HN0 := Aside0.mk hn0'
              clear hn0'
              go_region_held3 (fun w' => w'.cell? ⟨g10, 0, none⟩ = some (.func (.func 51) #[] #[.pointer (some ⟨g2, 0, none⟩), .pointer (some ⟨g8, 0, none⟩), .pointer (some ⟨g9, 0, none⟩), .pointer (some ⟨g3, 0, none⟩), .pointer (some ⟨g10, 0, none⟩)]))
                (first | exact hk5 | exact hk10 | go_keep)
                (first | (refine step_append_grows (by rfl) _ _ _ (by rfl) 3 i0 (.int .i64 0) 1 8 Try.underlying22 hi0 hz0 hz1 hz2 rfl (by decide) none ts.length 0 (encs (Value.int .i64) ts) (by rfl) (fun _ => ⟨HN0.out, rfl⟩) (by simp [encs]) (HLD.out) ⟨w3.heap.size, 0, none⟩ 1 1 [.int .i64 t] (by rfl) (by rfl) (World.news_of_block (cs := #[.int .i64 t]) (t := 3) (fr := (0, 0)) (heap_alloc_new w3 _)) (by simp [Value.oneCell']) (by omega) (by unfold maxLen; have := HL.out; omega) (by have := HL.out; omega) ?_; intro v5 w4 hown4 hgrow4; have HPu := Aside0.mk (push_grow w0 gs g8 g3 none 0 ts t w3 w4 _ v5 HLT.out.1 HLT.out.2.1 HLT.out.2.2 HT.out.hB.size hown4 hgrow4); obtain ⟨A5, c5, e5⟩ := HPu.out.some_; subst e5; have QT := Aside0.mk (HT.out.push HR.out HPu.out); have QR := Aside0.mk HPu.out.own; have hk10 := QT.out.c10; unfold tcaps at hk10; clear hown4 hgrow4) | (go_at_call 51; refine (IH.out k1 (by have := HK1.out; omega) (ts ++ [t]) _ (by simp) _ _ _ _ b2 o2 s2 A5 c5 vo1 _ QT.out QR.out A2.out).mono ?_; rintro e w5 ⟨rfl, hq⟩; obtain ⟨vo2, ht5, hr5, hkp5, hv5⟩ := TPost.pop HT.out HR.out HPu.out hq; have HT5 := Aside0.mk ht5; have HR5 := Aside0.mk hr5; have HKp5 := Aside0.mk hkp5; have HV5 := Aside0.mk hv5; have hk5 := ht5.c10; unfold tcaps at hk5; clear hq ht5 hr5 hkp5 hv5))
              all_goals
                have HV9 : Aside0 (vo2 = vo ∨ ∀ k, vo2.ownBlock = some k → W.heap.size ≤ k) := ⟨vo_then HKp.out HV.out HV5.out⟩
                have HKp9 := Aside0.mk (Kept.then_ HKp.out HKp5.out (fun k hk => .inl hk))
                clear HT HR HKp HV HPu QT QR hk10 hk5 hc10 eg hmx hmxw HLD HLT HL HOW
                have HT := HT5
                have HR := HR5
                have HKp := HKp9
                have HV := HV9
                clear HT5 HR5 HKp5 HV5 HV9 HKp9
                obtain ⟨y, hy⟩ : ∃ j_ : Int, wrap64 (rd s2 t - rd l0 (ts.length : Int)) = j_ := ⟨_, rfl⟩
                rw [hy] at H9
                have hyw : IntKind.i64.wrap (rd s2 t - rd l0 (ts.length : Int)) = y := (i64_w _).trans hy
                obtain ⟨hxs, hfs⟩ := Kd.R_celln 0 HT.out.rs t p1 hns
                rw [rdOf_rd] at hxs
                obtain ⟨ad2, ead2, hxp⟩ := Kd.at_int HR0.out (ts.length : Int) (by omega) p3
                cases ead2
                replace hxp := (HT.out.hB.cell (World.block_lt_of_cell? w0 _ hxp)).trans hxp
                rw [Int.toNat_natCast] at hxp
                have hc2 := HT.out.c2
                have H9' := Aside0.mk H9
                clear H9
                try go_wp2
                go_region
                have n0_ := Aside0.mk ((HT.out.sets HN.out t y).drew)
                have n1_ := Aside0.mk (Kd.R_drew (Kd.R_far (p := ⟨gs, t.toNat, none⟩) (HR.out) (fun k hk => hk.1) (.int .i64 y)))
                have n2_ := Aside0.mk (Kept.drew (Kept.setCell (p := ⟨gs, t.toNat, none⟩) (HKp.out) (.inl (.inr (.inr (.inl rfl)))) (.int .i64 y)))
                clear HT HR HKp hxp hxs hfs hc2
                have HT := n0_; have HR := n1_; have HKp := n2_; clear n0_ n1_ n2_
                generalize (w5.setCell ⟨gs, t.toNat, none⟩ (.int .i64 y)).drew = w6 at HT HR HKp ⊢
                go_wp2
                go_roundg k1
                case measure => have := HK1.out; omega
                case rel => exact ⟨b2, o2, s2.set t.toNat y, vo2, (wrap64 (t + 1)), (by first | rfl | (simp; done) | (simp [*]; done)), H9', ⟨by have := HK1.out; omega⟩, HT, HR, HKp, HV⟩
          
            · injection hvv with hv1 _ hv3
              subst hv1
              subst hv3
              by_cases hroom : ts.length < ct
              · have HSP : Aside0 (∀ (V : World), V.heap[g]? = some (.cells cur 3 (0, 0)) → ∀ j, j < [Value.int .i64 t].length → (V.cell? ⟨g, 0 + ts.length * 1 + j, none⟩).isSome = true ∧ V.frozen? ⟨g, 0 + ts.length * 1 + j, none⟩ = false) := ⟨fun V hV j hj => ⟨by rw [blk_cell hV]; simp at hj; simp [hj]; omega, blk_frozen hV _⟩⟩
                have HHG := Aside0.mk hh
                have hg10 : g10 ≠ g := blk_ne HT.out.b10 hh (by decide)
                have hl10 := blk_lt HT.out.b10
                clear hh h3 h4 h2 hgb
                have HPu := Aside0.mk (push_room w0 gs g8 g3 g ct ts t w3 (.cells #[.int .i64 t] 3) HR.out hroom)
                have QT := Aside0.mk (HT.out.push HR.out HPu.out)
                have QR := Aside0.mk HPu.out.own
                have hk10 := QT.out.c10
                unfold tcaps at hk10
                go_region_held3 (fun w' => w'.cell? ⟨g10, 0, none⟩ = some (.func (.func 51) #[] #[.pointer (some ⟨g2, 0, none⟩), .pointer (some ⟨g8, 0, none⟩), .pointer (some ⟨g9, 0, none⟩), .pointer (some ⟨g3, 0, none⟩), .pointer (some ⟨g10, 0, none⟩)]))
                  (first | exact hk5 | exact hk10 | go_keep)
                  (first | (refine step_append_room (by rfl) _ _ _ (by rfl) 3 i0 1 Try.underlying22 hi0 hz1 g 0 ts.length ct (by rfl) ⟨w3.heap.size, 0, none⟩ 1 1 [.int .i64 t] (by rfl) (by rfl) (World.news_of_block (cs := #[.int .i64 t]) (t := 3) (fr := (0, 0)) (heap_alloc_new w3 _)) (by simp [Value.oneCell']) (by omega) (HSP.out _ (blk_alloc HHG.out _)) ?_; simp only [World.setCells, Nat.zero_add, Nat.mul_one]) | (go_at_call 51; refine (IH.out k1 (by have := HK1.out; omega) (ts ++ [t]) _ (by simp) _ _ _ _ b2 o2 s2 (some ⟨g, 0, none⟩) ct vo1 _ QT.out QR.out A2.out).mono ?_; rintro e w5 ⟨rfl, hq⟩; obtain ⟨vo2, ht5, hr5, hkp5, hv5⟩ := TPost.pop HT.out HR.out HPu.out hq; have HT5 := Aside0.mk ht5; have HR5 := Aside0.mk hr5; have HKp5 := Aside0.mk hkp5; have HV5 := Aside0.mk hv5; have hk5 := ht5.c10; unfold tcaps at hk5; clear hq ht5 hr5 hkp5 hv5))
                all_goals
                  have HV9 : Aside0 (vo2 = vo ∨ ∀ k, vo2.ownBlock = some k → W.heap.size ≤ k) := ⟨vo_then HKp.out HV.out HV5.out⟩
                  have HKp9 := Aside0.mk (Kept.then_ HKp.out HKp5.out (fun k hk => .inl hk))
                  clear HT HR HKp HV HPu QT QR hk10 hk5 hc10 eg hmx hmxw HSP HHG hg10 hl10 HOW
                  have HT := HT5
                  have HR := HR5
                  have HKp := HKp9
                  have HV := HV9
                  clear HT5 HR5 HKp5 HV5 HV9 HKp9
                  obtain ⟨y, hy⟩ : ∃ j_ : Int, wrap64 (rd s2 t - rd l0 (ts.length : Int)) = j_ := ⟨_, rfl⟩
                  rw [hy] at H9
                  have hyw : IntKind.i64.wrap (rd s2 t - rd l0 (ts.length : Int)) = y := (i64_w _).trans hy
                  obtain ⟨hxs, hfs⟩ := Kd.R_celln 0 HT.out.rs t p1 hns
                  rw [rdOf_rd] at hxs
                  obtain ⟨ad2, ead2, hxp⟩ := Kd.at_int HR0.out (ts.length : Int) (by omega) p3
                  cases ead2
                  replace hxp := (HT.out.hB.cell (World.block_lt_of_cell? w0 _ hxp)).trans hxp
                  rw [Int.toNat_natCast] at hxp
                  have hc2 := HT.out.c2
                  have H9' := Aside0.mk H9
                  clear H9
                  try go_wp2
                  go_region
                  have n0_ := Aside0.mk ((HT.out.sets HN.out t y).drew)
                  have n1_ := Aside0.mk (Kd.R_drew (Kd.R_far (p := ⟨gs, t.toNat, none⟩) (HR.out) (fun k hk => hk.1) (.int .i64 y)))
                  have n2_ := Aside0.mk (Kept.drew (Kept.setCell (p := ⟨gs, t.toNat, none⟩) (HKp.out) (.inl (.inr (.inr (.inl rfl)))) (.int .i64 y)))
                  clear HT HR HKp hxp hxs hfs hc2
                  have HT := n0_; have HR := n1_; have HKp := n2_; clear n0_ n1_ n2_
                  generalize (w5.setCell ⟨gs, t.toNat, none⟩ (.int .i64 y)).drew = w6 at HT HR HKp ⊢
                  go_wp2
                  go_roundg k1
                  case measure => have := HK1.out; omega
                  case rel => exact ⟨b2, o2, s2.set t.toNat y, vo2, (wrap64 (t + 1)), (by first | rfl | (simp; done) | (simp [*]; done)), H9', ⟨by have := HK1.out; omega⟩, HT, HR, HKp, HV⟩
              · have HLT := Aside0.mk (show gs < w3.heap.size ∧ g8 < w3.heap.size ∧ g3 < w3.heap.size from ⟨own_lt (Kd.own_of_R HT.out.rs) gs rfl, blk_lt HT.out.b8, blk_lt HT.out.b3⟩)
                have HL := Aside0.mk (show ts.length < 1000 from by have := HL0.out; omega)
                have HLD : Aside0 (∀ b, some (⟨g, 0, none⟩ : Addr) = some b → ∀ j u, (encs (Value.int .i64) ts)[j]? = some u → (w3.alloc (.cells #[.int .i64 t] 3)).drew.cell? (b.add j) = some u) := ⟨fun b hb j u hu => by
                  obtain rfl := Option.some.inj hb
                  exact ((HOW.out.alloc _).drew).cells rfl j u hu⟩
                have hfull : ct < ts.length + 1 := by omega
                clear hh h3 h4 h2 hgb hroom
                go_region_held3 (fun w' => w'.cell? ⟨g10, 0, none⟩ = some (.func (.func 51) #[] #[.pointer (some ⟨g2, 0, none⟩), .pointer (some ⟨g8, 0, none⟩), .pointer (some ⟨g9, 0, none⟩), .pointer (some ⟨g3, 0, none⟩), .pointer (some ⟨g10, 0, none⟩)]))
                  (first | exact hk5 | exact hk10 | go_keep)
                  (first | (refine step_append_grows (by rfl) _ _ _ (by rfl) 3 i0 (.int .i64 0) 1 8 Try.underlying22 hi0 hz0 hz1 hz2 rfl (by decide) (some ⟨g, 0, none⟩) ts.length ct (encs (Value.int .i64) ts) (by rfl) (fun e => by cases e) (by simp [encs]) (HLD.out) ⟨w3.heap.size, 0, none⟩ 1 1 [.int .i64 t] (by rfl) (by rfl) (World.news_of_block (cs := #[.int .i64 t]) (t := 3) (fr := (0, 0)) (heap_alloc_new w3 _)) (by simp [Value.oneCell']) (by omega) (by unfold maxLen; have := HL.out; omega) (by have := HL.out; omega) ?_; intro v5 w4 hown4 hgrow4; have HPu := Aside0.mk (push_grow w0 gs g8 g3 (some ⟨g, 0, none⟩) ct ts t w3 w4 _ v5 HLT.out.1 HLT.out.2.1 HLT.out.2.2 HT.out.hB.size hown4 hgrow4); obtain ⟨A5, c5, e5⟩ := HPu.out.some_; subst e5; have QT := Aside0.mk (HT.out.push HR.out HPu.out); have QR := Aside0.mk HPu.out.own; have hk10 := QT.out.c10; unfold tcaps at hk10; clear hown4 hgrow4) | (go_at_call 51; refine (IH.out k1 (by have := HK1.out; omega) (ts ++ [t]) _ (by simp) _ _ _ _ b2 o2 s2 A5 c5 vo1 _ QT.out QR.out A2.out).mono ?_; rintro e w5 ⟨rfl, hq⟩; obtain ⟨vo2, ht5, hr5, hkp5, hv5⟩ := TPost.pop HT.out HR.out HPu.out hq; have HT5 := Aside0.mk ht5; have HR5 := Aside0.mk hr5; have HKp5 := Aside0.mk hkp5; have HV5 := Aside0.mk hv5; have hk5 := ht5.c10; unfold tcaps at hk5; clear hq ht5 hr5 hkp5 hv5))
                all_goals
                  have HV9 : Aside0 (vo2 = vo ∨ ∀ k, vo2.ownBlock = some k → W.heap.size ≤ k) := ⟨vo_then HKp.out HV.out HV5.out⟩
                  have HKp9 := Aside0.mk (Kept.then_ HKp.out HKp5.out (fun k hk => .inl hk))
                  clear HT HR HKp HV HPu QT QR hk10 hk5 hc10 eg hmx hmxw HLD HLT HL HOW
                  have HT := HT5
                  have HR := HR5
                  have HKp := HKp9
                  have HV := HV9
                  clear HT5 HR5 HKp5 HV5 HV9 HKp9
                  obtain ⟨y, hy⟩ : ∃ j_ : Int, wrap64 (rd s2 t - rd l0 (ts.length : Int)) = j_ := ⟨_, rfl⟩
                  rw [hy] at H9
                  have hyw : IntKind.i64.wrap (rd s2 t - rd l0 (ts.length : Int)) = y := (i64_w _).trans hy
                  obtain ⟨hxs, hfs⟩ := Kd.R_celln 0 HT.out.rs t p1 hns
                  rw [rdOf_rd] at hxs
                  obtain ⟨ad2, ead2, hxp⟩ := Kd.at_int HR0.out (ts.length : Int) (by omega) p3
                  cases ead2
                  replace hxp := (HT.out.hB.cell (World.block_lt_of_cell? w0 _ hxp)).trans hxp
                  rw [Int.toNat_natCast] at hxp
                  have hc2 := HT.out.c2
                  have H9' := Aside0.mk H9
                  clear H9
                  try go_wp2
                  go_region
                  have n0_ := Aside0.mk ((HT.out.sets HN.out t y).drew)
                  have n1_ := Aside0.mk (Kd.R_drew (Kd.R_far (p := ⟨gs, t.toNat, none⟩) (HR.out) (fun k hk => hk.1) (.int .i64 y)))
                  have n2_ := Aside0.mk (Kept.drew (Kept.setCell (p := ⟨gs, t.toNat, none⟩) (HKp.out) (.inl (.inr (.inr (.inl rfl)))) (.int .i64 y)))
                  clear HT HR HKp hxp hxs hfs hc2
                  have HT := n0_; have HR := n1_; have HKp := n2_; clear n0_ n1_ n2_
                  generalize (w5.setCell ⟨gs, t.toNat, none⟩ (.int .i64 y)).drew = w6 at HT HR HKp ⊢
                  go_wp2
                  go_roundg k1
                  case measure => have := HK1.out; omega
                  case rel => exact ⟨b2, o2, s2.set t.toNat y, vo2, (wrap64 (t + 1)), (by first | rfl | (simp; done) | (simp [*]; done)), H9', ⟨by have := HK1.out; omega⟩, HT, HR, HKp, HV⟩
          
          · have e1b : decide (best1 < 0) = false := decide_eq_false e1
            by_cases e2 : x < best1
            · have e2b : decide (x < best1) = true := decide_eq_true e2
              go_wp2
              go_quiet (fail)
              go_wp2
              obtain ⟨b2, o2, s2⟩ := r
              have A2 : Aside0 (asg l0 K k1 (ts ++ [t]) (sums1.set t.toNat x) (mx used (wrap64 (t + 1))) best1 out1 = some (b2, o2, s2)) := ⟨by have h_ := A1.out; rw [if_pos (Or.inr e2)] at h_; exact h_⟩
              have H9 : asgL l0 K k1 ts (s2.set t.toNat (wrap64 (rd s2 t - rd l0 (ts.length : Int)))) used b2 o2 lim (wrap64 (t + 1)) = some (b', o', s') := H'.out
              clear A1 H'
              have n0_ := Aside0.mk (HT.out.drewN nq)
              have n1_ := Aside0.mk (Kd.R_drewN HR.out nq)
              have n2_ := Aside0.mk (Kept.drewN HKp.out nq)
              clear HT HR HKp hxs hfs hc8
              have HT := n0_; have HR := n1_; have HKp := n2_; clear n0_ n1_ n2_
              generalize w2.drewN nq = w3 at HT HR HKp ⊢
              have hc10 := HT.out.c10
              unfold tcaps at hc10
              have eg := fun args w => enters_ (P := Try.prog) Try.func51 (by kernel_rfl) rfl args w
              obtain ⟨um, hum⟩ : ∃ j_ : Int, mx used (wrap64 (t + 1)) = j_ := ⟨_, rfl⟩
              rw [hum] at A2
              have hmx : (if used < wrap64 (t + 1) then wrap64 (t + 1) else used) = um := hum
              have hmxw : (if used < IntKind.i64.wrap (t + 1) then IntKind.i64.wrap (t + 1) else used) = um := by rw [i64_w]; exact hum
              clear hum
              have HOW := Aside0.mk (Kd.own_of_R HR.out)
              rcases HOW.out.2 with ⟨hnil, hn0⟩ | ⟨g, cap, cur, hvv, hgb, hh, h1, h2, h3, h4⟩
              · injection hnil with hn1 hn2 hn3
                subst hn1
                subst hn3
                clear hn2
                have HLT := Aside0.mk (show gs < w3.heap.size ∧ g8 < w3.heap.size ∧ g3 < w3.heap.size from ⟨own_lt (Kd.own_of_R HT.out.rs) gs rfl, blk_lt HT.out.b8, blk_lt HT.out.b3⟩)
                have HL := Aside0.mk (show ts.length < 1000 from by have := HL0.out; omega)
                have HLD : Aside0 (∀ b, (none : Option Addr) = some b → ∀ j u, (encs (Value.int .i64) ts)[j]? = some u → (w3.alloc (.cells #[.int .i64 t] 3)).drew.cell? (b.add j) = some u) := ⟨fun b hb => by cases hb⟩
                have hn0' : ts.length = 0 := hn0
                clear hn0
                have HN0 := Aside0.mk hn0'
                clear hn0'
                go_region_held3 (fun w' => w'.cell? ⟨g10, 0, none⟩ = some (.func (.func 51) #[] #[.pointer (some ⟨g2, 0, none⟩), .pointer (some ⟨g8, 0, none⟩), .pointer (some ⟨g9, 0, none⟩), .pointer (some ⟨g3, 0, none⟩), .pointer (some ⟨g10, 0, none⟩)]))
                  (first | exact hk5 | exact hk10 | go_keep)
                  (first | (refine step_append_grows (by rfl) _ _ _ (by rfl) 3 i0 (.int .i64 0) 1 8 Try.underlying22 hi0 hz0 hz1 hz2 rfl (by decide) none ts.length 0 (encs (Value.int .i64) ts) (by rfl) (fun _ => ⟨HN0.out, rfl⟩) (by simp [encs]) (HLD.out) ⟨w3.heap.size, 0, none⟩ 1 1 [.int .i64 t] (by rfl) (by rfl) (World.news_of_block (cs := #[.int .i64 t]) (t := 3) (fr := (0, 0)) (heap_alloc_new w3 _)) (by simp [Value.oneCell']) (by omega) (by unfold maxLen; have := HL.out; omega) (by have := HL.out; omega) ?_; intro v5 w4 hown4 hgrow4; have HPu := Aside0.mk (push_grow w0 gs g8 g3 none 0 ts t w3 w4 _ v5 HLT.out.1 HLT.out.2.1 HLT.out.2.2 HT.out.hB.size hown4 hgrow4); obtain ⟨A5, c5, e5⟩ := HPu.out.some_; subst e5; have QT := Aside0.mk (HT.out.push HR.out HPu.out); have QR := Aside0.mk HPu.out.own; have hk10 := QT.out.c10; unfold tcaps at hk10; clear hown4 hgrow4) | (go_at_call 51; refine (IH.out k1 (by have := HK1.out; omega) (ts ++ [t]) _ (by simp) _ _ _ _ b2 o2 s2 A5 c5 vo1 _ QT.out QR.out A2.out).mono ?_; rintro e w5 ⟨rfl, hq⟩; obtain ⟨vo2, ht5, hr5, hkp5, hv5⟩ := TPost.pop HT.out HR.out HPu.out hq; have HT5 := Aside0.mk ht5; have HR5 := Aside0.mk hr5; have HKp5 := Aside0.mk hkp5; have HV5 := Aside0.mk hv5; have hk5 := ht5.c10; unfold tcaps at hk5; clear hq ht5 hr5 hkp5 hv5))
                all_goals
                  have HV9 : Aside0 (vo2 = vo ∨ ∀ k, vo2.ownBlock = some k → W.heap.size ≤ k) := ⟨vo_then HKp.out HV.out HV5.out⟩
                  have HKp9 := Aside0.mk (Kept.then_ HKp.out HKp5.out (fun k hk => .inl hk))
                  clear HT HR HKp HV HPu QT QR hk10 hk5 hc10 eg hmx hmxw HLD HLT HL HOW
                  have HT := HT5
                  have HR := HR5
                  have HKp := HKp9
                  have HV := HV9
                  clear HT5 HR5 HKp5 HV5 HV9 HKp9
                  obtain ⟨y, hy⟩ : ∃ j_ : Int, wrap64 (rd s2 t - rd l0 (ts.length : Int)) = j_ := ⟨_, rfl⟩
                  rw [hy] at H9
                  have hyw : IntKind.i64.wrap (rd s2 t - rd l0 (ts.length : Int)) = y := (i64_w _).trans hy
                  obtain ⟨hxs, hfs⟩ := Kd.R_celln 0 HT.out.rs t p1 hns
                  rw [rdOf_rd] at hxs
                  obtain ⟨ad2, ead2, hxp⟩ := Kd.at_int HR0.out (ts.length : Int) (by omega) p3
                  cases ead2
                  replace hxp := (HT.out.hB.cell (World.block_lt_of_cell? w0 _ hxp)).trans hxp
                  rw [Int.toNat_natCast] at hxp
                  have hc2 := HT.out.c2
                  have H9' := Aside0.mk H9
                  clear H9
                  try go_wp2
                  go_region
                  have n0_ := Aside0.mk ((HT.out.sets HN.out t y).drew)
                  have n1_ := Aside0.mk (Kd.R_drew (Kd.R_far (p := ⟨gs, t.toNat, none⟩) (HR.out) (fun k hk => hk.1) (.int .i64 y)))
                  have n2_ := Aside0.mk (Kept.drew (Kept.setCell (p := ⟨gs, t.toNat, none⟩) (HKp.out) (.inl (.inr (.inr (.inl rfl)))) (.int .i64 y)))
                  clear HT HR HKp hxp hxs hfs hc2
                  have HT := n0_; have HR := n1_; have HKp := n2_; clear n0_ n1_ n2_
                  generalize (w5.setCell ⟨gs, t.toNat, none⟩ (.int .i64 y)).drew = w6 at HT HR HKp ⊢
                  go_wp2
                  go_roundg k1
                  case measure => have := HK1.out; omega
                  case rel => exact ⟨b2, o2, s2.set t.toNat y, vo2, (wrap64 (t + 1)), (by first | rfl | (simp; done) | (simp [*]; done)), H9', ⟨by have := HK1.out; omega⟩, HT, HR, HKp, HV⟩
          
              · injection hvv with hv1 _ hv3
                subst hv1
                subst hv3
                by_cases hroom : ts.length < ct
                · have HSP : Aside0 (∀ (V : World), V.heap[g]? = some (.cells cur 3 (0, 0)) → ∀ j, j < [Value.int .i64 t].length → (V.cell? ⟨g, 0 + ts.length * 1 + j, none⟩).isSome = true ∧ V.frozen? ⟨g, 0 + ts.length * 1 + j, none⟩ = false) := ⟨fun V hV j hj => ⟨by rw [blk_cell hV]; simp at hj; simp [hj]; omega, blk_frozen hV _⟩⟩
                  have HHG := Aside0.mk hh
                  have hg10 : g10 ≠ g := blk_ne HT.out.b10 hh (by decide)
                  have hl10 := blk_lt HT.out.b10
                  clear hh h3 h4 h2 hgb
                  have HPu := Aside0.mk (push_room w0 gs g8 g3 g ct ts t w3 (.cells #[.int .i64 t] 3) HR.out hroom)
                  have QT := Aside0.mk (HT.out.push HR.out HPu.out)
                  have QR := Aside0.mk HPu.out.own
                  have hk10 := QT.out.c10
                  unfold tcaps at hk10
                  go_region_held3 (fun w' => w'.cell? ⟨g10, 0, none⟩ = some (.func (.func 51) #[] #[.pointer (some ⟨g2, 0, none⟩), .pointer (some ⟨g8, 0, none⟩), .pointer (some ⟨g9, 0, none⟩), .pointer (some ⟨g3, 0, none⟩), .pointer (some ⟨g10, 0, none⟩)]))
                    (first | exact hk5 | exact hk10 | go_keep)
                    (first | (refine step_append_room (by rfl) _ _ _ (by rfl) 3 i0 1 Try.underlying22 hi0 hz1 g 0 ts.length ct (by rfl) ⟨w3.heap.size, 0, none⟩ 1 1 [.int .i64 t] (by rfl) (by rfl) (World.news_of_block (cs := #[.int .i64 t]) (t := 3) (fr := (0, 0)) (heap_alloc_new w3 _)) (by simp [Value.oneCell']) (by omega) (HSP.out _ (blk_alloc HHG.out _)) ?_; simp only [World.setCells, Nat.zero_add, Nat.mul_one]) | (go_at_call 51; refine (IH.out k1 (by have := HK1.out; omega) (ts ++ [t]) _ (by simp) _ _ _ _ b2 o2 s2 (some ⟨g, 0, none⟩) ct vo1 _ QT.out QR.out A2.out).mono ?_; rintro e w5 ⟨rfl, hq⟩; obtain ⟨vo2, ht5, hr5, hkp5, hv5⟩ := TPost.pop HT.out HR.out HPu.out hq; have HT5 := Aside0.mk ht5; have HR5 := Aside0.mk hr5; have HKp5 := Aside0.mk hkp5; have HV5 := Aside0.mk hv5; have hk5 := ht5.c10; unfold tcaps at hk5; clear hq ht5 hr5 hkp5 hv5))
                  all_goals
                    have HV9 : Aside0 (vo2 = vo ∨ ∀ k, vo2.ownBlock = some k → W.heap.size ≤ k) := ⟨vo_then HKp.out HV.out HV5.out⟩
                    have HKp9 := Aside0.mk (Kept.then_ HKp.out HKp5.out (fun k hk => .inl hk))
                    clear HT HR HKp HV HPu QT QR hk10 hk5 hc10 eg hmx hmxw HSP HHG hg10 hl10 HOW
                    have HT := HT5
                    have HR := HR5
                    have HKp := HKp9
                    have HV := HV9
                    clear HT5 HR5 HKp5 HV5 HV9 HKp9
                    obtain ⟨y, hy⟩ : ∃ j_ : Int, wrap64 (rd s2 t - rd l0 (ts.length : Int)) = j_ := ⟨_, rfl⟩
                    rw [hy] at H9
                    have hyw : IntKind.i64.wrap (rd s2 t - rd l0 (ts.length : Int)) = y := (i64_w _).trans hy
                    obtain ⟨hxs, hfs⟩ := Kd.R_celln 0 HT.out.rs t p1 hns
                    rw [rdOf_rd] at hxs
                    obtain ⟨ad2, ead2, hxp⟩ := Kd.at_int HR0.out (ts.length : Int) (by omega) p3
                    cases ead2
                    replace hxp := (HT.out.hB.cell (World.block_lt_of_cell? w0 _ hxp)).trans hxp
                    rw [Int.toNat_natCast] at hxp
                    have hc2 := HT.out.c2
                    have H9' := Aside0.mk H9
                    clear H9
                    try go_wp2
                    go_region
                    have n0_ := Aside0.mk ((HT.out.sets HN.out t y).drew)
                    have n1_ := Aside0.mk (Kd.R_drew (Kd.R_far (p := ⟨gs, t.toNat, none⟩) (HR.out) (fun k hk => hk.1) (.int .i64 y)))
                    have n2_ := Aside0.mk (Kept.drew (Kept.setCell (p := ⟨gs, t.toNat, none⟩) (HKp.out) (.inl (.inr (.inr (.inl rfl)))) (.int .i64 y)))
                    clear HT HR HKp hxp hxs hfs hc2
                    have HT := n0_; have HR := n1_; have HKp := n2_; clear n0_ n1_ n2_
                    generalize (w5.setCell ⟨gs, t.toNat, none⟩ (.int .i64 y)).drew = w6 at HT HR HKp ⊢
                    go_wp2
                    go_roundg k1
                    case measure => have := HK1.out; omega
                    case rel => exact ⟨b2, o2, s2.set t.toNat y, vo2, (wrap64 (t + 1)), (by first | rfl | (simp; done) | (simp [*]; done)), H9', ⟨by have := HK1.out; omega⟩, HT, HR, HKp, HV⟩
                · have HLT := Aside0.mk (show gs < w3.heap.size ∧ g8 < w3.heap.size ∧ g3 < w3.heap.size from ⟨own_lt (Kd.own_of_R HT.out.rs) gs rfl, blk_lt HT.out.b8, blk_lt HT.out.b3⟩)
                  have HL := Aside0.mk (show ts.length < 1000 from by have := HL0.out; omega)
                  have HLD : Aside0 (∀ b, some (⟨g, 0, none⟩ : Addr) = some b → ∀ j u, (encs (Value.int .i64) ts)[j]? = some u → (w3.alloc (.cells #[.int .i64 t] 3)).drew.cell? (b.add j) = some u) := ⟨fun b hb j u hu => by
                    obtain rfl := Option.some.inj hb
                    exact ((HOW.out.alloc _).drew).cells rfl j u hu⟩
                  have hfull : ct < ts.length + 1 := by omega
                  clear hh h3 h4 h2 hgb hroom
                  go_region_held3 (fun w' => w'.cell? ⟨g10, 0, none⟩ = some (.func (.func 51) #[] #[.pointer (some ⟨g2, 0, none⟩), .pointer (some ⟨g8, 0, none⟩), .pointer (some ⟨g9, 0, none⟩), .pointer (some ⟨g3, 0, none⟩), .pointer (some ⟨g10, 0, none⟩)]))
                    (first | exact hk5 | exact hk10 | go_keep)
                    (first | (refine step_append_grows (by rfl) _ _ _ (by rfl) 3 i0 (.int .i64 0) 1 8 Try.underlying22 hi0 hz0 hz1 hz2 rfl (by decide) (some ⟨g, 0, none⟩) ts.length ct (encs (Value.int .i64) ts) (by rfl) (fun e => by cases e) (by simp [encs]) (HLD.out) ⟨w3.heap.size, 0, none⟩ 1 1 [.int .i64 t] (by rfl) (by rfl) (World.news_of_block (cs := #[.int .i64 t]) (t := 3) (fr := (0, 0)) (heap_alloc_new w3 _)) (by simp [Value.oneCell']) (by omega) (by unfold maxLen; have := HL.out; omega) (by have := HL.out; omega) ?_; intro v5 w4 hown4 hgrow4; have HPu := Aside0.mk (push_grow w0 gs g8 g3 (some ⟨g, 0, none⟩) ct ts t w3 w4 _ v5 HLT.out.1 HLT.out.2.1 HLT.out.2.2 HT.out.hB.size hown4 hgrow4); obtain ⟨A5, c5, e5⟩ := HPu.out.some_; subst e5; have QT := Aside0.mk (HT.out.push HR.out HPu.out); have QR := Aside0.mk HPu.out.own; have hk10 := QT.out.c10; unfold tcaps at hk10; clear hown4 hgrow4) | (go_at_call 51; refine (IH.out k1 (by have := HK1.out; omega) (ts ++ [t]) _ (by simp) _ _ _ _ b2 o2 s2 A5 c5 vo1 _ QT.out QR.out A2.out).mono ?_; rintro e w5 ⟨rfl, hq⟩; obtain ⟨vo2, ht5, hr5, hkp5, hv5⟩ := TPost.pop HT.out HR.out HPu.out hq; have HT5 := Aside0.mk ht5; have HR5 := Aside0.mk hr5; have HKp5 := Aside0.mk hkp5; have HV5 := Aside0.mk hv5; have hk5 := ht5.c10; unfold tcaps at hk5; clear hq ht5 hr5 hkp5 hv5))
                  all_goals
                    have HV9 : Aside0 (vo2 = vo ∨ ∀ k, vo2.ownBlock = some k → W.heap.size ≤ k) := ⟨vo_then HKp.out HV.out HV5.out⟩
                    have HKp9 := Aside0.mk (Kept.then_ HKp.out HKp5.out (fun k hk => .inl hk))
                    clear HT HR HKp HV HPu QT QR hk10 hk5 hc10 eg hmx hmxw HLD HLT HL HOW
                    have HT := HT5
                    have HR := HR5
                    have HKp := HKp9
                    have HV := HV9
                    clear HT5 HR5 HKp5 HV5 HV9 HKp9
                    obtain ⟨y, hy⟩ : ∃ j_ : Int, wrap64 (rd s2 t - rd l0 (ts.length : Int)) = j_ := ⟨_, rfl⟩
                    rw [hy] at H9
                    have hyw : IntKind.i64.wrap (rd s2 t - rd l0 (ts.length : Int)) = y := (i64_w _).trans hy
                    obtain ⟨hxs, hfs⟩ := Kd.R_celln 0 HT.out.rs t p1 hns
                    rw [rdOf_rd] at hxs
                    obtain ⟨ad2, ead2, hxp⟩ := Kd.at_int HR0.out (ts.length : Int) (by omega) p3
                    cases ead2
                    replace hxp := (HT.out.hB.cell (World.block_lt_of_cell? w0 _ hxp)).trans hxp
                    rw [Int.toNat_natCast] at hxp
                    have hc2 := HT.out.c2
                    have H9' := Aside0.mk H9
                    clear H9
                    try go_wp2
                    go_region
                    have n0_ := Aside0.mk ((HT.out.sets HN.out t y).drew)
                    have n1_ := Aside0.mk (Kd.R_drew (Kd.R_far (p := ⟨gs, t.toNat, none⟩) (HR.out) (fun k hk => hk.1) (.int .i64 y)))
                    have n2_ := Aside0.mk (Kept.drew (Kept.setCell (p := ⟨gs, t.toNat, none⟩) (HKp.out) (.inl (.inr (.inr (.inl rfl)))) (.int .i64 y)))
                    clear HT HR HKp hxp hxs hfs hc2
                    have HT := n0_; have HR := n1_; have HKp := n2_; clear n0_ n1_ n2_
                    generalize (w5.setCell ⟨gs, t.toNat, none⟩ (.int .i64 y)).drew = w6 at HT HR HKp ⊢
                    go_wp2
                    go_roundg k1
                    case measure => have := HK1.out; omega
                    case rel => exact ⟨b2, o2, s2.set t.toNat y, vo2, (wrap64 (t + 1)), (by first | rfl | (simp; done) | (simp [*]; done)), H9', ⟨by have := HK1.out; omega⟩, HT, HR, HKp, HV⟩
          
            · have e2b : decide (x < best1) = false := decide_eq_false e2
              have HE := Aside0.mk (And.intro e1 e2)
              clear e1 e2
              go_wp2
              go_quiet (fail)
              go_wp2
              have n0_ := Aside0.mk (HT.out.drewN nq)
              have n1_ := Aside0.mk (Kd.R_drewN HR.out nq)
              have n2_ := Aside0.mk (Kept.drewN HKp.out nq)
              clear HT HR HKp hxs hfs hc8
              have HT := n0_; have HR := n1_; have HKp := n2_; clear n0_ n1_ n2_
              generalize w2.drewN nq = w3 at HT HR HKp ⊢
              obtain ⟨b2, o2, s2⟩ := r
              have A2 := A1.out
              rw [if_neg (by have := HE.out; omega)] at A2
              simp only [Option.some.injEq, Prod.mk.injEq] at A2
              obtain ⟨rfl, rfl, rfl⟩ := A2
              have H9 : asgL l0 K k1 ts ((sums1.set t.toNat x).set t.toNat (wrap64 (rd (sums1.set t.toNat x) t - rd l0 (ts.length : Int)))) used best1 out1 lim (wrap64 (t + 1)) = some (b', o', s') := H'.out
              clear A1 H'
              obtain ⟨y, hy⟩ : ∃ j_ : Int, wrap64 (rd (sums1.set t.toNat x) t - rd l0 (ts.length : Int)) = j_ := ⟨_, rfl⟩
              rw [hy] at H9
              have hyw : IntKind.i64.wrap (rd (sums1.set t.toNat x) t - rd l0 (ts.length : Int)) = y := (i64_w _).trans hy
              obtain ⟨hxs, hfs⟩ := Kd.R_celln 0 HT.out.rs t p1 hns
              rw [rdOf_rd] at hxs
              obtain ⟨ad2, ead2, hxp⟩ := Kd.at_int HR0.out (ts.length : Int) (by omega) p3
              cases ead2
              replace hxp := (HT.out.hB.cell (World.block_lt_of_cell? w0 _ hxp)).trans hxp
              rw [Int.toNat_natCast] at hxp
              have hc2 := HT.out.c2
              have H9' := Aside0.mk H9
              clear H9
              try go_wp2
              go_region
              have n0_ := Aside0.mk ((HT.out.sets HN.out t y).drew)
              have n1_ := Aside0.mk (Kd.R_drew (Kd.R_far (p := ⟨gs, t.toNat, none⟩) (HR.out) (fun k hk => hk.1) (.int .i64 y)))
              have n2_ := Aside0.mk (Kept.drew (Kept.setCell (p := ⟨gs, t.toNat, none⟩) (HKp.out) (.inl (.inr (.inr (.inl rfl)))) (.int .i64 y)))
              clear HT HR HKp hxp hxs hfs hc2
              have HT := n0_; have HR := n1_; have HKp := n2_; clear n0_ n1_ n2_
              generalize (w3.setCell ⟨gs, t.toNat, none⟩ (.int .i64 y)).drew = w6 at HT HR HKp ⊢
              go_wp2
              go_roundg k1
              case measure => have := HK1.out; omega
              case rel => exact ⟨best1, out1, (sums1.set t.toNat x).set t.toNat y, vo1, (wrap64 (t + 1)), (by first | rfl | (simp; done) | (simp [*]; done)), H9', ⟨by have := HK1.out; omega⟩, HT, HR, HKp, HV⟩
        · rw [if_neg c12] at H
          exact absurd H (by simp)
      · rw [if_neg c11] at H
        have c11b : decide (t < lim) = false := decide_eq_false c11
        clear c11
        simp only [Option.some.injEq, Prod.mk.injEq] at H
        obtain ⟨rfl, rfl, rfl⟩ := H
        go_wp2
        (first | go_end0 | refine bodyPost_ret (results_none rfl _ _ _) rfl ?_)
        exact ⟨rfl, ⟨vo1, HT.out, HR.out, HKp.out, HV.out⟩⟩

theorem asg_calls (w0 : World) (A0 : Option Addr) (c0 : Nat) (l0 : List Int) (K : Int) (g2 g3 g8 g9 g10 gs cs ns : Nat) (n : TNe w0 g2 g3 g8 g9 g10 gs) (hr0 : Kd.C (Kd.int .i64) w0 A0 l0.length l0) (hc0 : l0.length ≤ c0) (hl0 : l0.length ≤ 1000) : ∀ k, AsgSays w0 A0 c0 l0 K g2 g3 g8 g9 g10 gs cs ns k := by
  intro k
  induction k using Nat.strongRecOn with
  | _ k ih =>
  intro ts nt hnt sums used best out b' o' s' At ct vo W ht hr h
  subst hnt
  cases k with
  | zero => exact absurd h (by simp [asg])
  | succ k =>
    by_cases e : (ts.length : Int) = (l0.length : Int)
    · exact asg_base w0 A0 c0 l0 K g2 g3 g8 g9 g10 gs cs ns n k ts sums used best out b' o' s' At ct vo W ht hr e h
    · exact asg_step w0 A0 c0 l0 K g2 g3 g8 g9 g10 gs cs ns n hr0 hc0 hl0 k (fun k' hk => ih k' (by omega)) ts sums used best out b' o' s' At ct vo W ht hr e h
end Go.Proofs.Ytpfbdpeohlohoaa.H
