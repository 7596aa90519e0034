/- The walks of wogglelaw04.monomial and made. -/
import Derived.Test.YtmekcfkfkpbfeaaK6
import Derived.BigRegion
import Derived.BigQuiet
import Derived.Deep.RegionHeld3
import Derived.Outline
import Derived.LoopN
namespace Go.Proofs.Ytmekcfkfkpbfeaa.H
open Go.RowKit Go.Proofs.YtmekcfkfkpbfeaaW.PrintWords Go.Proofs.YtmekcfkfkpbfeaaW.PrintLast Go.Proofs.YtmekcfkfkpbfeaaW.PrintMore
open Go.Proofs.Ytmekcfkfkpbfeaa.Ga
attribute [local go_sem] max2_int min2_int max_two min_two max_three min_three max_four min_four
set_option linter.unusedVariables false
set_option linter.unusedSimpArgs false
def enc8 (m : M4) : List Value := [.int .u8 m.1, .int .u8 m.2.1, .int .u8 m.2.2.1, .int .u8 m.2.2.2]
def B8 (m : M4) : Prop := (0 ≤ m.1 ∧ m.1 ≤ 255) ∧ (0 ≤ m.2.1 ∧ m.2.1 ≤ 255) ∧ (0 ≤ m.2.2.1 ∧ m.2.2.1 ≤ 255) ∧ (0 ≤ m.2.2.2 ∧ m.2.2.2 ≤ 255)
def m7 (m : M4) : M4 := (m.1 % 7, m.2.1 % 7, m.2.2.1 % 7, m.2.2.2 % 7)
set_option maxRecDepth 100000 in
set_option maxHeartbeats 8000000 in
theorem monomial_calls_ (n : Nat) (hn1 : 1 ≤ n) (hn4 : n ≤ 4) (x0 x1 x2 x3 : Int) (hx : B8 (x0, x1, x2, x3)) (w : World) :
    Calls Try.prog 14 #[.int .i64 (n : Int), .agg #[.int .u8 x0, .int .u8 x1, .int .u8 x2, .int .u8 x3]] w fun e w' => ∃ v, e = .returned v ∧ Kd.R KI 3 w' w.heap.size (fun _ => True) v (toN n (m7 (x0, x1, x2, x3))) ∧ Below w.heap.size w w' := by
  have HX := Aside0.mk hx
  have HN := Aside0.mk (And.intro hn1 hn4)
  clear hx hn1
  have HB := Aside0.mk (below_alloc (Below.refl w.heap.size w) (.cells #[.int .u8 x0, .int .u8 x1, .int .u8 x2, .int .u8 x3] 23))
  have HP := Aside0.mk (heap_alloc_new w (.cells #[.int .u8 x0, .int .u8 x1, .int .u8 x2, .int .u8 x3] 23))
  go_enter Try.func14, Try.ntmps14
  have HL0 : Aside0 (w.heap.size ≤ (w.alloc (.cells #[.int .u8 x0, .int .u8 x1, .int .u8 x2, .int .u8 x3] 23)).heap.size) := ⟨HB.out.size⟩
  go_wp2_with ((with_reducible refine gate_dst (N := 7) rfl ?_); refine Kd.R_lit KI _ 3 ?hg (N := 7) ?hd (xs := ([] : List Int)) (inner := []) (ok := fun _ => True) (okp := fun _ => True) ?hr ?hp (fun _ hk => hk) trivial (Below.refl _ _) (Nat.le_refl _) (by simp) ?_; (case hd => rfl); (case hg => rfl); (case hr => first | (go_simp; done) | (go_simp; rfl)); (case hp => exact (Reps.none _ _)); intro v158 w2 ho3 hb hg_ hnew_; clear hg_ hnew_; have HO1 := Aside0.mk (Kd.R_lower ho3 HL0.out); have HP1 := Aside0.mk (heap_below HP.out hb); have HB1 := Aside0.mk (below_step HB.out hb); clear hb ho3 HP HB)
  go_loopw [5, 6] (fun v5 v6 w' => ∃ (k : Nat), k ≤ n ∧ v6 = .int .i64 (k : Int) ∧ Aside0 (Kd.R KI 3 w' w.heap.size (fun _ => True) v5 ((toN n (m7 (x0, x1, x2, x3))).take k)) ∧ Aside0 (Below w.heap.size w w') ∧ Aside0 (w'.heap[w.heap.size]? = some (.cells #[.int .u8 x0, .int .u8 x1, .int .u8 x2, .int .u8 x3] 23 (0, 0)))) (fun _ v6 _ => n - (intOf v6).toNat)
  case atStart => exact ⟨0, Nat.zero_le _, rfl, HO1, HB1, HP1⟩
  case round =>
    clear HB1 HP1
    obtain ⟨k, hk, rfl, HO, HB, HP⟩ := hrel
    by_cases hlt : k < n
    · have hltb : decide ((k : Int) < (n : Int)) = true := decide_eq_true (by omega)
      have hk0 : (0 : Int) ≤ (k : Int) := by omega
      have hk4 : (k : Int) < 4 := by omega
      have hk4n : k < 4 := by omega
      obtain ⟨xk, hxk⟩ : ∃ xk, xk = nth (x0, x1, x2, x3) k := ⟨_, rfl⟩
      have c0 : wr.cell? ⟨w.heap.size, k, none⟩ = some (.int .u8 xk) := by
        rw [blk_cell HP.out, hxk]
        have : k = 0 ∨ k = 1 ∨ k = 2 ∨ k = 3 := by omega
        rcases this with rfl | rfl | rfl | rfl <;> rfl
      have hxr : 0 ≤ xk ∧ xk ≤ 255 := by
        obtain ⟨h0, h1, h2, h3⟩ := HX.out
        rw [hxk]
        have : k = 0 ∨ k = 1 ∨ k = 2 ∨ k = 3 := by omega
        rcases this with rfl | rfl | rfl | rfl <;> assumption
      obtain ⟨hx0, hx1⟩ := hxr
      obtain ⟨A5, c5, hu5⟩ := Kd.R_slice HO.out
      subst hu5
      have HNB : Aside0 (some w.heap.size ≠ (Value.slice A5 ((toN n (m7 (x0, x1, x2, x3))).take k).length c5).ownBlock) := ⟨Kd.R_ne HO.out HP.out (by decide)⟩
      have HST : Aside0 ((toN n (m7 (x0, x1, x2, x3))).take (k + 1) = (toN n (m7 (x0, x1, x2, x3))).take k ++ [xk % 7]) := ⟨by
        have h1 : (toN n (m7 (x0, x1, x2, x3))).length = n := toN_length _ _ hn4
        rw [List.take_succ_eq_append_getElem (by omega)]
        have h2 := toN_get n (m7 (x0, x1, x2, x3)) hn4 k hlt
        rw [List.getD_eq_getElem?_getD, List.getElem?_eq_getElem (by omega)] at h2
        rw [show (toN n (m7 (x0, x1, x2, x3)))[k] = nth (m7 (x0, x1, x2, x3)) k from h2, hxk]
        have : k = 0 ∨ k = 1 ∨ k = 2 ∨ k = 3 := by omega
        rcases this with rfl | rfl | rfl | rfl <;> rfl⟩
      have HOL : Aside0 (((toN n (m7 (x0, x1, x2, x3))).take k).length ≤ 4) := ⟨by rw [List.length_take]; omega⟩
      clear hxk
      generalize hout : (toN n (m7 (x0, x1, x2, x3))).take k = out at *
      clear hout
      go_wp2_with ((with_reducible refine gate_builtin (b := .append) (xs := #[.tmp 13, .tmp 19]) rfl ?_); at_builtin; refine Kd.R_append KI (w0 := w) w.heap.size rfl (.tmp 13) (.tmp 19) 27 3 (.int .i64 0) 8 rfl Try.underlying27 Ga.info3 rfl (by decide) (by omega) (.slice A5 out.length c5) out (xk % 7) [.int .i64 (xk % 7)] (fun _ => True) (fun _ => False) rfl rfl ?aP (fun _ hk => hk.elim) ?aF ?aO ?aB ?aS ?aL ?_; (case aP => exact rfl); (case aB => exact HB.out); (case aF => exact (fun _ _ => trivial)); (case aO => exact HO.out); (case aS => exact HB.out.size); (case aL => have := HOL.out; omega); intro v161 w11 ho hb hg hat; have HB2 := Aside0.mk hb; have HO2 := Aside0.mk ho; have HP2 := Aside0.mk ((hg.block w.heap.size (blk_lt HP.out) HNB.out).trans HP.out); clear ho hb hg hat)
      go_roundw
      case rel => exact ⟨k + 1, by omega, by go_num, ⟨by rw [HST.out]; exact HO2.out⟩, HB2, HP2⟩
      case measure => simp [intOf]; omega
    · have hltb : decide ((k : Int) < (n : Int)) = false := decide_eq_false (by omega)
      obtain rfl : k = n := by omega
      rw [List.take_of_length_le (by rw [toN_length _ _ hn4]; exact Nat.le_refl _)] at HO
      go_wp2
      go_ret
      exact ⟨_, rfl, HO.out, HB.out⟩
theorem monomial_calls (n : Int) (hn1 : 1 ≤ n) (hn4 : n ≤ 4) (x : M4) (hx : B8 x) (w : World) :
    Calls Try.prog 14 #[.int .i64 n, .agg (enc8 x).toArray] w fun e w' => ∃ A c, e = .returned (.slice A n.toNat c) ∧ n.toNat ≤ c ∧ Kd.C KI w' A n.toNat (toL n (m7 x)) ∧ Below w.heap.size w w' := by
  obtain ⟨k, rfl⟩ := Int.eq_ofNat_of_zero_le (show 0 ≤ n by omega)
  obtain ⟨x0, x1, x2, x3⟩ := x
  refine (monomial_calls_ k (by omega) (by omega) x0 x1 x2 x3 hx w).mono ?_
  rintro e w' ⟨v, rfl, ho, hb⟩
  obtain ⟨A, c, e, hc, hC⟩ := Kd.R_reads ho
  subst e
  have hl : (toN k (m7 (x0, x1, x2, x3))).length = k := toN_length _ _ (by omega)
  rw [hl] at hc hC
  rw [Int.toNat_natCast]
  exact ⟨A, c, by rw [hl], hc, by unfold toL; rw [Int.toNat_natCast]; exact hC, hb⟩
end Go.Proofs.Ytmekcfkfkpbfeaa.H
namespace Go.Proofs.Ytmekcfkfkpbfeaa.H
open Go.RowKit Go.Proofs.YtmekcfkfkpbfeaaW.PrintWords Go.Proofs.YtmekcfkfkpbfeaaW.PrintLast Go.Proofs.YtmekcfkfkpbfeaaW.PrintMore
open Go.Proofs.Ytmekcfkfkpbfeaa.Ga
attribute [local go_sem] max2_int min2_int max_two min_two max_three min_three max_four min_four
set_option linter.unusedVariables false
set_option linter.unusedSimpArgs false
/-- Rows of four bytes, as they lie in memory. -/
def Rows8 (w : World) (A : Option Addr) (xs : List M4) : Prop := (∀ x ∈ xs, B8 x) ∧ xs.length ≤ 9223372036854775807 ∧ ∀ (j : Nat) x, xs[j]? = some x → ∃ ad, A = some ad ∧ ad.block < w.heap.size ∧ w.cell? (ad.add (j * 4)) = some (.int .u8 x.1) ∧ w.cell? (ad.add (j * 4 + 1)) = some (.int .u8 x.2.1) ∧ w.cell? (ad.add (j * 4 + 2)) = some (.int .u8 x.2.2.1) ∧ w.cell? (ad.add (j * 4 + 3)) = some (.int .u8 x.2.2.2)
theorem Rows8.below {w w1 : World} {A : Option Addr} {xs : List M4} (h : Rows8 w A xs) (hb : Below w.heap.size w w1) : Rows8 w1 A xs := by
  refine ⟨h.1, h.2.1, fun j x hj => ?_⟩
  obtain ⟨ad, e, hl, h0, h1, h2, h3⟩ := h.2.2 j x hj
  exact ⟨ad, e, Nat.lt_of_lt_of_le hl hb.size, pw_cell_below hb h0, pw_cell_below hb h1, pw_cell_below hb h2, pw_cell_below hb h3⟩
/-- The generators that made derives. -/
def madeL (k : Int) (xs : List M4) (most : Nat) : List (List Int) := (xs.take most).map fun x => toL k (m7 x)
theorem monomial_R (n : Int) (hn1 : 1 ≤ n) (hn4 : n ≤ 4) (x : M4) (hx : B8 x) (w : World) :
    Calls Try.prog 14 #[.int .i64 n, .agg (enc8 x).toArray] w fun e w' => ∃ v, e = .returned v ∧ Kd.R KI 3 w' w.heap.size (fun _ => True) v (toL n (m7 x)) ∧ Below w.heap.size w w' := by
  obtain ⟨k, rfl⟩ := Int.eq_ofNat_of_zero_le (show 0 ≤ n by omega)
  obtain ⟨x0, x1, x2, x3⟩ := x
  have h := monomial_calls_ k (by omega) (by omega) x0 x1 x2 x3 hx w
  unfold toL
  rw [Int.toNat_natCast]
  exact h
theorem info24_ : (Try.prog.info? 27).map (fun i => (i.zero, i.size, i.bytes)) = some (some (.slice none 0 0), 1, 24) := by kernel_rfl
set_option maxRecDepth 100000 in
set_option maxHeartbeats 8000000 in
theorem made_calls_ (n : Int) (hn0 : 0 ≤ n) (hn1 : n ≤ 255) (A : Option Addr) (c : Nat) (xs : List M4) (most : Nat) (hm : most ≤ 100) (w : World) (hr : Rows8 w A xs) :
    Calls Try.prog 13 #[.int .u8 n, .slice A xs.length c, .int .i64 (most : Int)] w fun e w' => ∃ v, e = .returned (.tuple #[.int .i64 (n % 4 + 1), v]) ∧ Kd.R KL 27 w' w.heap.size (fun _ => True) v (madeL (n % 4 + 1) xs most) ∧ Below w.heap.size w w' := by
  have HR := Aside0.mk hr
  have hxl : xs.length ≤ 9223372036854775807 := hr.2.1
  clear hr
  have hk1 : 0 ≤ n % 4 := by omega
  have hk4 : n % 4 < 4 := by omega
  have HK : Aside0 (1 ≤ n % 4 + 1 ∧ n % 4 + 1 ≤ 4) := ⟨by omega⟩
  go_enter Try.func13, Try.ntmps13
  go_wp2_with ((with_reducible refine gate_dst (N := 15) rfl ?_); refine Kd.R_lit KL _ 27 ?hg (N := 15) ?hd (xs := ([] : List (List Int))) (inner := []) (ok := fun _ => True) (okp := fun _ => True) ?hr ?hp (fun _ hk => hk) trivial (Below.refl _ _) (Nat.le_refl _) (by simp) ?_; (case hd => rfl); (case hg => rfl); (case hr => first | (go_simp; done) | (go_simp; rfl)); (case hp => exact (Reps.none _ _)); intro v158 w2 ho3 hb hg_ hnew_; clear hg_ hnew_; have HO1 := Aside0.mk ho3; have HB1 := Aside0.mk hb; clear hb ho3)
  generalize hkk : n % 4 + 1 = kk at *
  have HKK := Aside0.mk hkk
  clear hkk
  go_loopw [9, 10] (fun v9 v10 w' => ∃ (k : Nat), k ≤ xs.length ∧ k ≤ most ∧ v10 = .int .i64 (k : Int) ∧ Aside0 (Kd.R KL 27 w' w.heap.size (fun _ => True) v9 (madeL kk xs k)) ∧ Aside0 (Below w.heap.size w w')) (fun _ v10 _ => xs.length - (intOf v10).toNat)
  case atStart => exact ⟨0, Nat.zero_le _, Nat.zero_le _, rfl, ⟨by unfold madeL; exact HO1.out⟩, HB1⟩
  case round =>
    clear HB1
    obtain ⟨k, hk, hkm, rfl, HO, HB⟩ := hrel
    by_cases hlt : k < xs.length
    · have hltb : decide ((k : Int) < (xs.length : Int)) = true := decide_eq_true (by omega)
      have hk0 : (0 : Int) ≤ (k : Int) := by omega
      by_cases hltm : k < most
      · have hltmb : decide ((k : Int) < (most : Int)) = true := decide_eq_true (by omega)
        obtain ⟨x, hxk⟩ : ∃ x, xs[k]? = some x := ⟨_, List.getElem?_eq_getElem hlt⟩
        obtain ⟨ad, hg, hgl, x0, x1, x2, x3⟩ := (HR.out.below HB.out).2.2 k x hxk
        subst hg
        have hx8 := HR.out.1 x (List.mem_of_getElem? hxk)
        have HST : Aside0 (madeL kk xs (k + 1) = madeL kk xs k ++ [toL kk (m7 x)]) := ⟨by
          unfold madeL
          obtain ⟨hk', e⟩ := List.getElem?_eq_some_iff.1 hxk
          rw [List.take_succ_eq_append_getElem hk', List.map_append, e]
          rfl⟩
        have HOL : Aside0 ((madeL kk xs k).length ≤ 100) := ⟨by unfold madeL; rw [List.length_map, List.length_take]; omega⟩
        have HMO := Aside0.mk (fun W => monomial_R kk HK.out.1 HK.out.2 x hx8 W)
        clear hxk hx8
        obtain ⟨A9, c9, hu9⟩ := Kd.R_slice HO.out
        subst hu9
        generalize hout : madeL kk xs k = out at *
        clear hout
        obtain ⟨m0, m1, m2, m3⟩ := x
        dsimp only [enc8] at x0 x1 x2 x3 HMO
        generalize hll : toL kk (m7 (m0, m1, m2, m3)) = l at *
        clear hll
        rw [← Addr.add_add] at x1 x2 x3
        have y1 : wr.cell? { block := (ad.add (k * 4)).block, off := (ad.add (k * 4)).off + 1 } = some (.int .u8 m1) := x1
        have y2 : wr.cell? { block := (ad.add (k * 4)).block, off := (ad.add (k * 4)).off + 2 } = some (.int .u8 m2) := x2
        have y3 : wr.cell? { block := (ad.add (k * 4)).block, off := (ad.add (k * 4)).off + 3 } = some (.int .u8 m3) := x3
        clear x1 x2 x3
        go_wp2_with (first | (go_at_call 14; refine (HMO.out _).mono ?_; rintro e w1 ⟨v1, rfl, ho1, hb1⟩; have HB2 := Aside0.mk (below_step HB.out hb1); have HO2 := Aside0.mk (Kd.R_below HO.out hb1); obtain ⟨A8, c8, e8⟩ := Kd.R_slice ho1; subst e8; have HV := Aside0.mk ho1; clear hb1 ho1) | (at_builtin; refine Kd.R_append KL (w0 := w) w.heap.size rfl (.tmp 27) (.tmp 34) 24 27 (.slice none 0 0) 24 rfl Try.underlying24 info27' rfl (by decide) (by omega) (.slice A9 out.length c9) out l [.slice A8 l.length c8] (fun _ => True) (fun k_ => wr.heap.size ≤ k_) rfl rfl ?aP ?aK (fun _ _ => trivial) ?aO ?aB ?aS ?aL ?_; (case aP => exact Kd.M_row (Kd.R_lower (Kd.R_mono (Kd.R_bound HV.out) (fun k_ h_ => h_.2.1)) HB.out.size)); (case aK => exact (fun k_ h_ => ⟨trivial, fun e_ => by have := Kd.R_lt HO.out _ e_.symm; omega⟩)); (case aO => exact HO2.out); (case aB => exact HB2.out); (case aS => exact HB2.out.size); (case aL => have := HOL.out; omega); intro v1 w4 ho hb hg hat; have HO3 := Aside0.mk ho; have HB3 := Aside0.mk hb; clear ho hb hg hat))
        go_roundw
        case rel => exact ⟨k + 1, by omega, by omega, by go_num, ⟨by rw [HST.out]; exact HO3.out⟩, HB3⟩
        case measure => simp [intOf]; omega
      · have hltmb : decide ((k : Int) < (most : Int)) = false := decide_eq_false (by omega)
        obtain rfl : k = most := by omega
        go_wp2
        go_ret2
        exact ⟨_, by rw [HKK.out]; rfl, by rw [HKK.out]; exact HO.out, HB.out⟩
    · have hltb : decide ((k : Int) < (xs.length : Int)) = false := decide_eq_false (by omega)
      obtain rfl : k = xs.length := by omega
      have HE : Aside0 (madeL kk xs xs.length = madeL kk xs most) := ⟨by unfold madeL; rw [List.take_length, List.take_of_length_le hkm]⟩
      rw [HE.out] at HO
      go_wp2
      go_ret2
      exact ⟨_, by rw [HKK.out]; rfl, by rw [HKK.out]; exact HO.out, HB.out⟩
theorem madeL_length (k : Int) (xs : List M4) (most : Nat) : (madeL k xs most).length ≤ most := by
  unfold madeL
  rw [List.length_map, List.length_take]
  omega
theorem made_calls (n : Int) (hn0 : 0 ≤ n) (hn1 : n ≤ 255) (A : Option Addr) (c : Nat) (xs : List M4) (most : Nat) (hm : most ≤ 100) (w : World) (hr : Rows8 w A xs) :
    Calls Try.prog 13 #[.int .u8 n, .slice A xs.length c, .int .i64 (most : Int)] w fun e w' => ∃ A1 c1, e = .returned (.tuple #[.int .i64 (n % 4 + 1), .slice A1 (madeL (n % 4 + 1) xs most).length c1]) ∧ (madeL (n % 4 + 1) xs most).length ≤ c1 ∧ Kd.C KL w' A1 (madeL (n % 4 + 1) xs most).length (madeL (n % 4 + 1) xs most) ∧ Below w.heap.size w w' := by
  refine (made_calls_ n hn0 hn1 A c xs most hm w hr).mono ?_
  rintro e w' ⟨v, rfl, ho, hb⟩
  obtain ⟨A1, c1, e, hc, hC⟩ := Kd.R_reads ho
  subst e
  exact ⟨A1, c1, rfl, hc, hC, hb⟩
end Go.Proofs.Ytmekcfkfkpbfeaa.H
