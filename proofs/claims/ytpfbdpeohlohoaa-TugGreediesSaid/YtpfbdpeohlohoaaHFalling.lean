/- The walk of woggleref05.Falling: pulls, each put in behind the ones that are no less. Condition: at most 999 pulls (else the function says none). -/
import Derived.Test.YtpfbdpeohlohoaaHBase
import Derived.Test.YtpfbdpeohlohoaaHClone
import Derived.BigRegion
import Derived.BigQuiet
import Derived.Deep.RegionHeld3
import Derived.Outline
namespace Go.Proofs.Ytpfbdpeohlohoaa.H
open Go.Proofs.Ytpfbdpeohlohoaa.Ga
open Go.RowKit Go.Proofs.YtpfbdpeohlohoaaW.PrintWords Go.Proofs.YtpfbdpeohlohoaaW.PrintLast Go.Proofs.YtpfbdpeohlohoaaW.PrintMore
attribute [local go_sem] max2_int min2_int max_two min_two max_three min_three max_four min_four
set_option linter.unusedVariables false
set_option linter.unusedSimpArgs false
/-- The place of a number among falling ones. -/
def fpos (out : List Int) (x : Int) : Nat → Nat
  | 0 => 0
  | k + 1 => if rd out (k : Int) < x then fpos out x k else k + 1
def fins (out : List Int) (x : Int) : List Int := (out.take (fpos out x out.length) ++ [x]) ++ out.drop (fpos out x out.length)
def fallTo (l : List Int) (j : Nat) : List Int := (l.take j).foldl fins []
def ref_Falling.f (l0 : List Int) : Option (List Int) := if l0.length < 1000 then some (fallTo l0 l0.length) else none
theorem fpos_le (out : List Int) (x : Int) : ∀ k, fpos out x k ≤ k
  | 0 => Nat.le_refl _
  | k + 1 => by
    unfold fpos
    have := fpos_le out x k
    split <;> omega
theorem fins_length (out : List Int) (x : Int) : (fins out x).length = out.length + 1 := by
  unfold fins
  have := fpos_le out x out.length
  simp
  omega
theorem fallTo_succ (l : List Int) (j : Nat) (h : j < l.length) : fallTo l (j + 1) = fins (fallTo l j) (rd l (j : Int)) := by
  unfold fallTo
  rw [List.take_succ_eq_append_getElem h, List.foldl_append]
  simp only [List.foldl_cons, List.foldl_nil]
  congr 1
  unfold rd
  rw [Int.toNat_natCast, List.getD_eq_getElem?_getD, List.getElem?_eq_getElem h]
  rfl
theorem fallTo_length (l : List Int) : ∀ j, j ≤ l.length → (fallTo l j).length = j
  | 0, _ => rfl
  | j + 1, h => by rw [fallTo_succ l j (by omega), fins_length, fallTo_length l j (by omega)]
theorem alloc2_new (w : World) (a b : Obj) : ((w.alloc a).alloc b).heap[w.heap.size + 1]? = some b := by
  have h := heap_alloc_new (w.alloc a) b
  have z : (w.alloc a).heap.size = w.heap.size + 1 := by simp
  rw [z] at h
  exact h
section
variable {ops : Array Oper} {o : Oper} {a : Act} {W : World}
theorem R_lit_of {g base : Nat} (h : W.heap[g]? = some (.cells #[] 3 (0, 0))) (hb : base ≤ g) : Kd.R (Kd.int .i64) 3 W base (fun _ => True) (.slice (some ⟨g, 0, none⟩) 0 0) [] :=
  ⟨fun k hk => trivial, [], ⟨by simp, .inr ⟨g, 0, #[], rfl, hb, h, Nat.le_refl _, Nat.zero_le _, by simp, by simp⟩⟩, Reps.none _ _⟩
theorem C_one_of {g : Nat} {x : Int} (h : W.heap[g]? = some (.cells #[.int .i64 x] 3 (0, 0))) : Kd.C (Kd.int .i64) W (some ⟨g, 0, none⟩) 1 [x] := by
  have hr : Kd.R (Kd.int .i64) 3 W 0 (fun _ => True) (.slice (some ⟨g, 0, none⟩) 1 1) [x] := Kd.R_of_own ⟨by simp [encs], .inr ⟨g, 1, _, rfl, Nat.zero_le _, h, Nat.le_refl _, by unfold maxLen; omega, by simp, by simp [encs]⟩⟩ (fun _ _ => trivial)
  exact (Kd.R_reads' hr).2.2
theorem R_app_step {K : Act → World → Prop} {Q : Exit → Act → World → Prop} {E : Prop} {w0 : World} (base : Nat) (hg : o.guard = none) (s x : Operand)
    (ho : o.op = .call { callee := .builtin .append, args := #[s, x], argTypes := #[22, 22] })
    (v : Value) (xs ys : List Int) (A : Option Addr) (m c : Nat) (hs : a.eval s = v) (hx : a.eval x = .slice A m c)
    (HO : Kd.R (Kd.int .i64) 3 W base (fun _ => True) v xs) (HR : Kd.C (Kd.int .i64) W A m ys)
    (HB : Below base w0 W) (hbase : base ≤ W.heap.size) (hl : (xs.length + m) * 8 ≤ 140737488355328)
    (h : ∀ v1 w1, Kd.R (Kd.int .i64) 3 w1 base (fun _ => True) v1 (xs ++ ys) → Below base w0 w1 → W.grownBy w1 v.ownBlock → (v1.ownBlock = v.ownBlock ∨ ∃ b, v1.ownBlock = some b ∧ W.heap.size ≤ b) → K (a.put o.dst v1) w1) :
    if Region.wanted o (yielded ops a.tmps) = true then Oper.wp Try.prog o a W K Q else E := by
  have hw : Region.wanted o (yielded ops a.tmps) = true := by simp [Region.wanted, hg]
  have h1 := Kd.R_append_rows_step (P := Try.prog) (Q := Q) (Kd.int .i64) (w0 := w0) base hw s x 22 3 (.int .i64 0) 8 ho Try.underlying22 info3 rfl (by decide) (by omega) v xs ys A m c (fun _ => True) (fun _ => False) hs hx HO HR (fun _ _ h => h) (fun _ h => h.elim) (fun _ _ => trivial) HB hbase hl h
  rw [if_pos hw] at h1 ⊢
  exact h1
end
set_option maxHeartbeats 8000000 in
set_option maxRecDepth 100000 in
theorem ref_Falling.calls (A0 : Option Addr) (c0 : Nat) (l0 : List Int) (r : List Int) (w : World) (hr0 : Kd.C (Kd.int .i64) w A0 l0.length l0) (hc0 : l0.length ≤ c0) (h : ref_Falling.f l0 = some r) :
    Calls Try.prog 66 #[.slice A0 l0.length c0] w fun e w' => ∃ v0_ : Value, e = .returned (v0_) ∧ Kd.R (Kd.int .i64) 3 w' w.heap.size (fun _ => True) v0_ r ∧ Below w.heap.size w w' := by
  have HR0 := Aside0.mk hr0
  have HC0 := Aside0.mk hc0
  clear hr0 hc0
  unfold ref_Falling.f at h
  by_cases c1 : l0.length < 1000
  · rw [if_pos c1] at h
    obtain rfl := Option.some.inj h
    have HL0 := Aside0.mk c1
    clear h c1
    obtain ⟨i3, hi3, hz3⟩ := Option.map_eq_some_iff.1 info3
    simp only [Prod.mk.injEq] at hz3
    have HI3 := Aside0.mk hi3
    have HI4 := Aside0.mk hz3.2.1
    clear hi3 hz3
    go_enter Try.func66, Try.ntmps66
    go_wp2
    have HB := Aside0.mk (below_alloc (Below.refl w.heap.size w) (.cells #[] 3))
    have HO := Aside0.mk (R_lit_of (heap_alloc_new w (.cells #[] 3)) (Nat.le_refl w.heap.size))
    go_loopw [3, 4] (fun v3 v4 w' => ∃ j : Nat, j ≤ l0.length ∧ v4 = .int .i64 (j : Int) ∧ Aside0 (Below w.heap.size w w') ∧ Aside0 (Kd.R (Kd.int .i64) 3 w' w.heap.size (fun _ => True) v3 (fallTo l0 j)) ∧ Aside0 (∃ g c, v3 = .slice (some ⟨g, 0, none⟩) j c)) (fun _ v4 _ => l0.length - (intOf v4).toNat)
    case atStart => exact ⟨0, Nat.zero_le _, rfl, HB, HO, ⟨_, _, rfl⟩⟩
    case round =>
      clear HB HO
      obtain ⟨j, hj, rfl, HB, HO, HF⟩ := hrel
      obtain ⟨g, c, rfl⟩ := HF.out
      clear HF
      have hj1000 := HL0.out
      by_cases hlt : j < l0.length
      · have hltb : decide ((j : Int) < (l0.length : Int)) = true := decide_eq_true (by omega)
        obtain ⟨ad, ead, hxp⟩ := Kd.at_int HR0.out (j : Int) (by omega) (by omega)
        rw [Int.toNat_natCast] at hxp
        subst ead
        have HLT := Aside0.mk hlt
        have HBL := Aside0.mk (World.block_lt_of_cell? w _ hxp)
        have HNX := Aside0.mk (fallTo_succ l0 j hlt)
        have HOL := Aside0.mk (fallTo_length l0 j hj)
        obtain ⟨x, hx⟩ : ∃ y_ : Int, rd l0 (j : Int) = y_ := ⟨_, rfl⟩
        obtain ⟨out, hout⟩ : ∃ o_, fallTo l0 j = o_ := ⟨_, rfl⟩
        rw [hx] at hxp HNX
        rw [hout] at HNX HO HOL
        have HXP := Aside0.mk hxp
        clear hx hout hxp
        have hxp := (HB.out.cell HBL.out).trans HXP.out
        go_wp2
        go_loopw [5] (fun v5 w' => ∃ k : Nat, k ≤ j ∧ v5 = .int .i64 (k : Int) ∧ Aside0 (fpos out x k = fpos out x j) ∧ Aside0 (Below w.heap.size w w') ∧ Aside0 (Kd.R (Kd.int .i64) 3 w' w.heap.size (fun _ => True) (.slice (some ⟨g, 0, none⟩) j c) out)) (fun v5 _ => (intOf v5).toNat)
        case atStart => exact ⟨j, Nat.le_refl _, rfl, ⟨rfl⟩, HB, HO⟩
        case round =>
          clear HB HO hxp
          obtain ⟨k, hk, rfl, HFP, HB, HO⟩ := hrel
          have hxp := (HB.out.cell HBL.out).trans HXP.out
          by_cases hk0 : 0 < k
          · obtain ⟨m, hm⟩ : ∃ m : Nat, m + 1 = k := ⟨k - 1, by omega⟩
            obtain ⟨hc1, hf1⟩ := Kd.R_celln 0 HO.out (m : Int) (by omega) (by omega)
            have hcc : rdOf 0 out (m : Int) = rd out (m : Int) := rfl
            rw [hcc, Int.toNat_natCast] at hc1
            clear hcc
            have HFS : Aside0 (fpos out x (m + 1) = if rd out (m : Int) < x then fpos out x m else m + 1) := ⟨rfl⟩
            have HM := Aside0.mk hm
            obtain ⟨y, hy⟩ : ∃ y_ : Int, rd out (m : Int) = y_ := ⟨_, rfl⟩
            rw [hy] at hc1 HFS
            have z1 : IntKind.i64.wrap ((k : Int) - 1) = (m : Int) := (IntWalk.i64_in _ (by omega)).trans (by omega)
            have z2 : (m : Int) < (j : Int) := by omega
            have z3 : decide ((0 : Int) < (k : Int)) = true := decide_eq_true (by omega)
            have hjl : (j : Int) < (l0.length : Int) := by omega
            clear hy hm
            by_cases c2 : y < x
            · have c2b : decide (y < x) = true := decide_eq_true c2
              have HN : Aside0 (fpos out x m = fpos out x j) := ⟨by have h1 := HFP.out; have h2 := HFS.out; rw [HM.out] at h2; rw [if_pos c2] at h2; rw [← h1, h2]⟩
              clear c2
              go_wp2
              go_quiet (fail)
              go_wp2
              go_roundw
              case rel => exact ⟨m, by have := HM.out; omega, rfl, HN, ⟨pw_below_drewN HB.out _⟩, ⟨Kd.R_drewN HO.out _⟩⟩
              case measure => have := HM.out; simp [intOf]; omega
            · have c2b : decide (y < x) = false := decide_eq_false c2
              have HN : Aside0 (k = fpos out x j) := ⟨by have h1 := HFP.out; have h2 := HFS.out; rw [HM.out] at h2; rw [if_neg c2] at h2; rw [← h1, h2]⟩
              clear c2
              go_wp2
              go_quiet (fail)
              go_wp2
              clear hc1 hf1 z1 z2 z3
              replace HB := Aside0.mk (pw_below_drewN HB.out nq)
              replace HO := Aside0.mk (Kd.R_drewN HO.out nq)
              replace hxp : (wr.drewN nq).cell? (ad.add j) = some (.int .i64 x) := hxp
              generalize wr.drewN nq = w5 at HB HO hxp ⊢
              have HXC := Aside0.mk hxp
              have hjc := (Kd.R_reads' HO.out).2.1
              have hcutT := cut_to (P := Try.prog) 22 3 .i64 Try.underlying22 HI3.out (some ⟨g, 0, none⟩) j c (k : Int) (by omega) (by omega) hjc
              have hcutF := cut_from (P := Try.prog) 22 3 .i64 Try.underlying22 HI3.out 1 HI4.out (some ⟨g, 0, none⟩) j c (k : Int) (by omega) (by omega)
              rw [Int.toNat_natCast] at hcutT hcutF
              have hR := (Kd.R_reads' HO.out).2.2
              have HCT := Aside0.mk (show Kd.C (Kd.int .i64) w5 (some ⟨g, 0, none⟩) k (out.take k) from by have h_ := Kd.C_take hR (m := k) (by rw [HOL.out]; exact hk); rw [List.length_take, HOL.out, Nat.min_eq_left hk] at h_; exact h_)
              have hD := Kd.C_drop hR (m := k) (c := c) (by rw [HOL.out]; exact hk) (by rw [HOL.out]; exact hjc)
              obtain ⟨A5, hA5⟩ : ∃ A_ : Option Addr, (if c = k then some (⟨g, 0, none⟩ : Addr) else (some (⟨g, 0, none⟩ : Addr)).map (·.add (k * 1))) = A_ := ⟨_, rfl⟩
              rw [show (Kd.int .i64).sz = 1 from rfl, hA5, List.length_drop, HOL.out] at hD
              rw [hA5] at hcutF
              have HCD := Aside0.mk hD
              have HLE := Aside0.mk (And.intro hk hjc)
              clear hA5 hR hD
              have HXL := Aside0.mk (World.block_lt_of_cell? w5 _ hxp)
              have B0 := Aside0.mk (show (w5.alloc (.cells #[] 3)).drew.heap[w5.heap.size]? = some (.cells #[] 3 (0, 0)) from heap_alloc_new w5 _)
              have B1 := Aside0.mk (show ((w5.alloc (.cells #[] 3)).alloc (.cells #[.int .i64 x] 3)).drew.heap[w5.heap.size]? = some (.cells #[] 3 (0, 0)) from blk_alloc (heap_alloc_new w5 _) _)
              have B1x := Aside0.mk (show ((w5.alloc (.cells #[] 3)).alloc (.cells #[.int .i64 x] 3)).drew.heap[w5.heap.size + 1]? = some (.cells #[.int .i64 x] 3 (0, 0)) from alloc2_new w5 _ _)
              have B2 := Aside0.mk (show ((w5.alloc (.cells #[.int .i64 x] 3)).alloc (.cells #[] 3)).drew.heap[w5.heap.size + 1]? = some (.cells #[] 3 (0, 0)) from alloc2_new w5 _ _)
              have B2x := Aside0.mk (show ((w5.alloc (.cells #[.int .i64 x] 3)).alloc (.cells #[] 3)).drew.heap[w5.heap.size]? = some (.cells #[.int .i64 x] 3 (0, 0)) from blk_alloc (heap_alloc_new w5 _) _)
              go_region_held3 (fun w' => w'.cell? (ad.add j) = some (.int .i64 x)) (first | exact hxp | exact hxp1 | exact hxp2 | exact hxp3 | exact (Below.cell (below_alloc (Below.refl _ _) _) (by have h1 := HB1.out.size; have h2 := HXL.out; omega)).trans hxp1 | go_keep) (first | ((refine R_app_step (w0 := w5) w5.heap.size rfl (.tmp 31) (.tmp 34) rfl (.slice (some ⟨w5.heap.size, 0, none⟩) 0 0) [] (out.take k) (some ⟨g, 0, none⟩) k c ?hs_ ?hx_ (R_lit_of ?hb_ ?hbb_) (Kd.C_below HCT.out ?hB2_) ?hB_ ?hz_ ?hl_ ?_); (case hs_ => rfl); (case hx_ => first | rfl | (simp [Act.eval, Act.put]; done)); (case hb_ => first | exact B0.out | exact B1.out | exact B2.out); (case hbb_ => omega); (case hB2_ => repeat (first | exact Below.refl _ _ | apply below_drew1 | apply below_alloc)); (case hB_ => repeat (first | exact Below.refl _ _ | apply below_drew1 | apply below_alloc)); (case hz_ => simp <;> omega); (case hl_ => have h1 := HLE.out; simp; omega); intro v1 w1 hn_ hb_ hg_ hat_; have HN1 := Aside0.mk hn_; have HB1 := Aside0.mk hb_; (first | have HX1 := Aside0.mk (blk_grown B1x.out hg_ (by simp [Value.ownBlock])) | have HX1 := Aside0.mk (blk_grown B2x.out hg_ (by simp [Value.ownBlock])) | skip); have hxp1 := (hb_.cell HXL.out).trans HXC.out; clear hn_ hb_ hg_ hat_) | ((refine R_app_step (w0 := w5) w5.heap.size rfl (.tmp 31) (.tmp 34) rfl (.slice (some ⟨w5.heap.size + 1, 0, none⟩) 0 0) [] (out.take k) (some ⟨g, 0, none⟩) k c ?hs_ ?hx_ (R_lit_of ?hb_ ?hbb_) (Kd.C_below HCT.out ?hB2_) ?hB_ ?hz_ ?hl_ ?_); (case hs_ => rfl); (case hx_ => first | rfl | (simp [Act.eval, Act.put]; done)); (case hb_ => first | exact B0.out | exact B1.out | exact B2.out); (case hbb_ => omega); (case hB2_ => repeat (first | exact Below.refl _ _ | apply below_drew1 | apply below_alloc)); (case hB_ => repeat (first | exact Below.refl _ _ | apply below_drew1 | apply below_alloc)); (case hz_ => simp <;> omega); (case hl_ => have h1 := HLE.out; simp; omega); intro v1 w1 hn_ hb_ hg_ hat_; have HN1 := Aside0.mk hn_; have HB1 := Aside0.mk hb_; (first | have HX1 := Aside0.mk (blk_grown B1x.out hg_ (by simp [Value.ownBlock])) | have HX1 := Aside0.mk (blk_grown B2x.out hg_ (by simp [Value.ownBlock])) | skip); have hxp1 := (hb_.cell HXL.out).trans HXC.out; clear hn_ hb_ hg_ hat_) | ((refine R_app_step (w0 := w5) w5.heap.size rfl (.tmp 41) (.tmp 44) rfl v2 (([] ++ out.take k) ++ [x]) (out.drop k) A5 (j - k) (c - k) ?hs_ ?hx_ HN2.out (Kd.C_below HCD.out HB2.out) HB2.out HB2.out.size ?hl_ ?_); (case hs_ => rfl); (case hx_ => first | rfl | (simp [Act.eval, Act.put]; done)); (case hl_ => have h1 := HLE.out; simp; omega); intro v3 w3 hn_ hb_ hg_ hat_; have HN3 := Aside0.mk hn_; have HB3 := Aside0.mk hb_; have hxp3 := (hb_.cell HXL.out).trans HXC.out; clear hn_ hb_ hg_ hat_) | ((refine R_app_step (w0 := w5) w5.heap.size rfl (.tmp 35) (.tmp 40) rfl v1 ([] ++ out.take k) [x] (some ⟨w1.heap.size, 0, none⟩) 1 1 ?hs_ ?hx_ ?hr_ (C_one_of ?hb_) ?hB_ ?hz_ ?hl_ ?_); (case hs_ => rfl); (case hx_ => rfl); (case hr_ => first | exact HN1.out | exact Kd.R_alloc HN1.out _); (case hb_ => first | exact heap_alloc_new w1 _ | exact HX1.out); (case hB_ => first | exact HB1.out | exact below_alloc HB1.out _); (case hz_ => have h1 := HB1.out.size; first | exact h1 | (simp; omega)); (case hl_ => have h1 := HLE.out; simp; omega); intro v2 w2 hn_ hb_ hg_ hat_; have HN2 := Aside0.mk hn_; have HB2 := Aside0.mk hb_; have hxp2 := (hb_.cell HXL.out).trans HXC.out; clear hn_ hb_ hg_ hat_) | ((refine R_app_step (w0 := w5) w5.heap.size rfl (.tmp 35) (.tmp 40) rfl v1 ([] ++ out.take k) [x] (some ⟨w5.heap.size + 1, 0, none⟩) 1 1 ?hs_ ?hx_ ?hr_ (C_one_of ?hb_) ?hB_ ?hz_ ?hl_ ?_); (case hs_ => rfl); (case hx_ => rfl); (case hr_ => first | exact HN1.out | exact Kd.R_alloc HN1.out _); (case hb_ => first | exact heap_alloc_new w1 _ | exact HX1.out); (case hB_ => first | exact HB1.out | exact below_alloc HB1.out _); (case hz_ => have h1 := HB1.out.size; first | exact h1 | (simp; omega)); (case hl_ => have h1 := HLE.out; simp; omega); intro v2 w2 hn_ hb_ hg_ hat_; have HN2 := Aside0.mk hn_; have HB2 := Aside0.mk hb_; have hxp2 := (hb_.cell HXL.out).trans HXC.out; clear hn_ hb_ hg_ hat_) | ((refine R_app_step (w0 := w5) w5.heap.size rfl (.tmp 35) (.tmp 40) rfl v1 ([] ++ out.take k) [x] (some ⟨w5.heap.size, 0, none⟩) 1 1 ?hs_ ?hx_ ?hr_ (C_one_of ?hb_) ?hB_ ?hz_ ?hl_ ?_); (case hs_ => rfl); (case hx_ => rfl); (case hr_ => first | exact HN1.out | exact Kd.R_alloc HN1.out _); (case hb_ => first | exact heap_alloc_new w1 _ | exact HX1.out); (case hB_ => first | exact HB1.out | exact below_alloc HB1.out _); (case hz_ => have h1 := HB1.out.size; first | exact h1 | (simp; omega)); (case hl_ => have h1 := HLE.out; simp; omega); intro v2 w2 hn_ hb_ hg_ hat_; have HN2 := Aside0.mk hn_; have HB2 := Aside0.mk hb_; have hxp2 := (hb_.cell HXL.out).trans HXC.out; clear hn_ hb_ hg_ hat_))
              all_goals
                go_wp2
                go_roundw
                case rel =>
                  have hfo : ((([] ++ out.take k) ++ [x]) ++ out.drop k : List Int) = fallTo l0 (j + 1) := by rw [HNX.out]; unfold fins; rw [HOL.out, ← HN.out]; rfl
                  have h3 := Kd.R_lower HN3.out HB.out.size
                  rw [hfo] at h3
                  have h4 := fallTo_length l0 (j + 1) (by have h1 := HLT.out; omega)
                  obtain ⟨g9, c9, e9, _⟩ := Kd.R_form h3 (by omega)
                  exact ⟨j + 1, by have h1 := HLT.out; omega, by go_num, ⟨below_step HB.out HB3.out⟩, ⟨h3⟩, ⟨g9, c9, by rw [e9, h4]⟩⟩
                case measure => have h1 := HLT.out; simp [intOf]; omega
          · have z3 : decide ((0 : Int) < (k : Int)) = false := decide_eq_false (by omega)
            have HN : Aside0 (k = fpos out x j) := ⟨by have h1 := HFP.out; have h2 : k = 0 := by omega
                                                       subst h2; exact h1⟩
            have z5 : decide (0 < k) = false := decide_eq_false hk0
            have z6 : ¬ (0 : Int) < (k : Int) := by omega
            go_wp2
            go_quiet (fail)
            go_wp2
            clear z3 z5 z6 hk0
            replace HB := Aside0.mk (pw_below_drewN HB.out nq)
            replace HO := Aside0.mk (Kd.R_drewN HO.out nq)
            replace hxp : (wr.drewN nq).cell? (ad.add j) = some (.int .i64 x) := hxp
            generalize wr.drewN nq = w5 at HB HO hxp ⊢
            have HXC := Aside0.mk hxp
            have hjc := (Kd.R_reads' HO.out).2.1
            have hcutT := cut_to (P := Try.prog) 22 3 .i64 Try.underlying22 HI3.out (some ⟨g, 0, none⟩) j c (k : Int) (by omega) (by omega) hjc
            have hcutF := cut_from (P := Try.prog) 22 3 .i64 Try.underlying22 HI3.out 1 HI4.out (some ⟨g, 0, none⟩) j c (k : Int) (by omega) (by omega)
            rw [Int.toNat_natCast] at hcutT hcutF
            have hR := (Kd.R_reads' HO.out).2.2
            have HCT := Aside0.mk (show Kd.C (Kd.int .i64) w5 (some ⟨g, 0, none⟩) k (out.take k) from by have h_ := Kd.C_take hR (m := k) (by rw [HOL.out]; exact hk); rw [List.length_take, HOL.out, Nat.min_eq_left hk] at h_; exact h_)
            have hD := Kd.C_drop hR (m := k) (c := c) (by rw [HOL.out]; exact hk) (by rw [HOL.out]; exact hjc)
            obtain ⟨A5, hA5⟩ : ∃ A_ : Option Addr, (if c = k then some (⟨g, 0, none⟩ : Addr) else (some (⟨g, 0, none⟩ : Addr)).map (·.add (k * 1))) = A_ := ⟨_, rfl⟩
            rw [show (Kd.int .i64).sz = 1 from rfl, hA5, List.length_drop, HOL.out] at hD
            rw [hA5] at hcutF
            have HCD := Aside0.mk hD
            have HLE := Aside0.mk (And.intro hk hjc)
            clear hA5 hR hD
            have HXL := Aside0.mk (World.block_lt_of_cell? w5 _ hxp)
            have B0 := Aside0.mk (show (w5.alloc (.cells #[] 3)).drew.heap[w5.heap.size]? = some (.cells #[] 3 (0, 0)) from heap_alloc_new w5 _)
            have B1 := Aside0.mk (show ((w5.alloc (.cells #[] 3)).alloc (.cells #[.int .i64 x] 3)).drew.heap[w5.heap.size]? = some (.cells #[] 3 (0, 0)) from blk_alloc (heap_alloc_new w5 _) _)
            have B1x := Aside0.mk (show ((w5.alloc (.cells #[] 3)).alloc (.cells #[.int .i64 x] 3)).drew.heap[w5.heap.size + 1]? = some (.cells #[.int .i64 x] 3 (0, 0)) from alloc2_new w5 _ _)
            have B2 := Aside0.mk (show ((w5.alloc (.cells #[.int .i64 x] 3)).alloc (.cells #[] 3)).drew.heap[w5.heap.size + 1]? = some (.cells #[] 3 (0, 0)) from alloc2_new w5 _ _)
            have B2x := Aside0.mk (show ((w5.alloc (.cells #[.int .i64 x] 3)).alloc (.cells #[] 3)).drew.heap[w5.heap.size]? = some (.cells #[.int .i64 x] 3 (0, 0)) from blk_alloc (heap_alloc_new w5 _) _)
            go_region_held3 (fun w' => w'.cell? (ad.add j) = some (.int .i64 x)) (first | exact hxp | exact hxp1 | exact hxp2 | exact hxp3 | exact (Below.cell (below_alloc (Below.refl _ _) _) (by have h1 := HB1.out.size; have h2 := HXL.out; omega)).trans hxp1 | go_keep) (first | ((refine R_app_step (w0 := w5) w5.heap.size rfl (.tmp 31) (.tmp 34) rfl (.slice (some ⟨w5.heap.size, 0, none⟩) 0 0) [] (out.take k) (some ⟨g, 0, none⟩) k c ?hs_ ?hx_ (R_lit_of ?hb_ ?hbb_) (Kd.C_below HCT.out ?hB2_) ?hB_ ?hz_ ?hl_ ?_); (case hs_ => rfl); (case hx_ => first | rfl | (simp [Act.eval, Act.put]; done)); (case hb_ => first | exact B0.out | exact B1.out | exact B2.out); (case hbb_ => omega); (case hB2_ => repeat (first | exact Below.refl _ _ | apply below_drew1 | apply below_alloc)); (case hB_ => repeat (first | exact Below.refl _ _ | apply below_drew1 | apply below_alloc)); (case hz_ => simp <;> omega); (case hl_ => have h1 := HLE.out; simp; omega); intro v1 w1 hn_ hb_ hg_ hat_; have HN1 := Aside0.mk hn_; have HB1 := Aside0.mk hb_; (first | have HX1 := Aside0.mk (blk_grown B1x.out hg_ (by simp [Value.ownBlock])) | have HX1 := Aside0.mk (blk_grown B2x.out hg_ (by simp [Value.ownBlock])) | skip); have hxp1 := (hb_.cell HXL.out).trans HXC.out; clear hn_ hb_ hg_ hat_) | ((refine R_app_step (w0 := w5) w5.heap.size rfl (.tmp 31) (.tmp 34) rfl (.slice (some ⟨w5.heap.size + 1, 0, none⟩) 0 0) [] (out.take k) (some ⟨g, 0, none⟩) k c ?hs_ ?hx_ (R_lit_of ?hb_ ?hbb_) (Kd.C_below HCT.out ?hB2_) ?hB_ ?hz_ ?hl_ ?_); (case hs_ => rfl); (case hx_ => first | rfl | (simp [Act.eval, Act.put]; done)); (case hb_ => first | exact B0.out | exact B1.out | exact B2.out); (case hbb_ => omega); (case hB2_ => repeat (first | exact Below.refl _ _ | apply below_drew1 | apply below_alloc)); (case hB_ => repeat (first | exact Below.refl _ _ | apply below_drew1 | apply below_alloc)); (case hz_ => simp <;> omega); (case hl_ => have h1 := HLE.out; simp; omega); intro v1 w1 hn_ hb_ hg_ hat_; have HN1 := Aside0.mk hn_; have HB1 := Aside0.mk hb_; (first | have HX1 := Aside0.mk (blk_grown B1x.out hg_ (by simp [Value.ownBlock])) | have HX1 := Aside0.mk (blk_grown B2x.out hg_ (by simp [Value.ownBlock])) | skip); have hxp1 := (hb_.cell HXL.out).trans HXC.out; clear hn_ hb_ hg_ hat_) | ((refine R_app_step (w0 := w5) w5.heap.size rfl (.tmp 41) (.tmp 44) rfl v2 (([] ++ out.take k) ++ [x]) (out.drop k) A5 (j - k) (c - k) ?hs_ ?hx_ HN2.out (Kd.C_below HCD.out HB2.out) HB2.out HB2.out.size ?hl_ ?_); (case hs_ => rfl); (case hx_ => first | rfl | (simp [Act.eval, Act.put]; done)); (case hl_ => have h1 := HLE.out; simp; omega); intro v3 w3 hn_ hb_ hg_ hat_; have HN3 := Aside0.mk hn_; have HB3 := Aside0.mk hb_; have hxp3 := (hb_.cell HXL.out).trans HXC.out; clear hn_ hb_ hg_ hat_) | ((refine R_app_step (w0 := w5) w5.heap.size rfl (.tmp 35) (.tmp 40) rfl v1 ([] ++ out.take k) [x] (some ⟨w1.heap.size, 0, none⟩) 1 1 ?hs_ ?hx_ ?hr_ (C_one_of ?hb_) ?hB_ ?hz_ ?hl_ ?_); (case hs_ => rfl); (case hx_ => rfl); (case hr_ => first | exact HN1.out | exact Kd.R_alloc HN1.out _); (case hb_ => first | exact heap_alloc_new w1 _ | exact HX1.out); (case hB_ => first | exact HB1.out | exact below_alloc HB1.out _); (case hz_ => have h1 := HB1.out.size; first | exact h1 | (simp; omega)); (case hl_ => have h1 := HLE.out; simp; omega); intro v2 w2 hn_ hb_ hg_ hat_; have HN2 := Aside0.mk hn_; have HB2 := Aside0.mk hb_; have hxp2 := (hb_.cell HXL.out).trans HXC.out; clear hn_ hb_ hg_ hat_) | ((refine R_app_step (w0 := w5) w5.heap.size rfl (.tmp 35) (.tmp 40) rfl v1 ([] ++ out.take k) [x] (some ⟨w5.heap.size + 1, 0, none⟩) 1 1 ?hs_ ?hx_ ?hr_ (C_one_of ?hb_) ?hB_ ?hz_ ?hl_ ?_); (case hs_ => rfl); (case hx_ => rfl); (case hr_ => first | exact HN1.out | exact Kd.R_alloc HN1.out _); (case hb_ => first | exact heap_alloc_new w1 _ | exact HX1.out); (case hB_ => first | exact HB1.out | exact below_alloc HB1.out _); (case hz_ => have h1 := HB1.out.size; first | exact h1 | (simp; omega)); (case hl_ => have h1 := HLE.out; simp; omega); intro v2 w2 hn_ hb_ hg_ hat_; have HN2 := Aside0.mk hn_; have HB2 := Aside0.mk hb_; have hxp2 := (hb_.cell HXL.out).trans HXC.out; clear hn_ hb_ hg_ hat_) | ((refine R_app_step (w0 := w5) w5.heap.size rfl (.tmp 35) (.tmp 40) rfl v1 ([] ++ out.take k) [x] (some ⟨w5.heap.size, 0, none⟩) 1 1 ?hs_ ?hx_ ?hr_ (C_one_of ?hb_) ?hB_ ?hz_ ?hl_ ?_); (case hs_ => rfl); (case hx_ => rfl); (case hr_ => first | exact HN1.out | exact Kd.R_alloc HN1.out _); (case hb_ => first | exact heap_alloc_new w1 _ | exact HX1.out); (case hB_ => first | exact HB1.out | exact below_alloc HB1.out _); (case hz_ => have h1 := HB1.out.size; first | exact h1 | (simp; omega)); (case hl_ => have h1 := HLE.out; simp; omega); intro v2 w2 hn_ hb_ hg_ hat_; have HN2 := Aside0.mk hn_; have HB2 := Aside0.mk hb_; have hxp2 := (hb_.cell HXL.out).trans HXC.out; clear hn_ hb_ hg_ hat_))
            all_goals
              go_wp2
              go_roundw
              case rel =>
                have hfo : ((([] ++ out.take k) ++ [x]) ++ out.drop k : List Int) = fallTo l0 (j + 1) := by rw [HNX.out]; unfold fins; rw [HOL.out, ← HN.out]; rfl
                have h3 := Kd.R_lower HN3.out HB.out.size
                rw [hfo] at h3
                have h4 := fallTo_length l0 (j + 1) (by have h1 := HLT.out; omega)
                obtain ⟨g9, c9, e9, _⟩ := Kd.R_form h3 (by omega)
                exact ⟨j + 1, by have h1 := HLT.out; omega, by go_num, ⟨below_step HB.out HB3.out⟩, ⟨h3⟩, ⟨g9, c9, by rw [e9, h4]⟩⟩
              case measure => have h1 := HLT.out; simp [intOf]; omega
      · have hltb : decide ((j : Int) < (l0.length : Int)) = false := decide_eq_false (by omega)
        obtain rfl : j = l0.length := by omega
        go_wp2
        go_ret
        exact ⟨_, rfl, HO.out, HB.out⟩
  · rw [if_neg c1] at h
    exact absurd h (by simp)
end Go.Proofs.Ytpfbdpeohlohoaa.H
