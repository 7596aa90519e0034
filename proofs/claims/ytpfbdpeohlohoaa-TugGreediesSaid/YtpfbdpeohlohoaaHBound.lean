/- The walk of tug.Bound: the pulls sorted from the greatest down, the greatest one of three bounds. Condition: 1 to 999 pulls of 0 to 1000000 (else the function says none). -/
import Derived.Test.YtpfbdpeohlohoaaHSort
import Derived.Test.YtpfbdpeohlohoaaHClone
import Derived.Test.YtpfbdpeohlohoaaGa1
import Derived.Test.YtpfbdpeohlohoaaM1
import Derived.BigRegion
import Derived.BigQuiet
import Derived.Deep.RegionHeld3
import Derived.Laws.EntriesVeiled
import Derived.Shelf.SlSortCmp.Kit1
import Derived.Shelf.SlSortCmp.Whole1
import Derived.Sort.LotA
import Derived.Outline
namespace Go.Proofs.Ytpfbdpeohlohoaa.H
open Go.Proofs.Ytpfbdpeohlohoaa.Ga
open Go.Sort hiding rd
open Go.RowKit Go.Proofs.YtpfbdpeohlohoaaW.PrintWords Go.Proofs.YtpfbdpeohlohoaaW.PrintLast Go.Proofs.YtpfbdpeohlohoaaW.PrintMore
attribute [local go_sem] max2_int min2_int max_two min_two max_three min_three max_four min_four
set_option linter.unusedVariables false
set_option linter.unusedSimpArgs false

/-- From the greatest down. -/
def fall (l : List Int) : List Int := l.mergeSort (fun a b => decide (b ≤ a))
theorem fall_perm (l : List Int) : (fall l).Perm l := List.mergeSort_perm l _
theorem fall_length (l : List Int) : (fall l).length = l.length := (fall_perm l).length_eq
def inB (l : List Int) : Prop := ∀ x ∈ l, 0 ≤ x ∧ x ≤ 1000000
instance (l : List Int) : Decidable (inB l) := inferInstanceAs (Decidable (∀ x ∈ l, _))
theorem fall_inB {l : List Int} (h : inB l) : inB (fall l) := fun x hx => h x ((fall_perm l).mem_iff.1 hx)
def bval (l : List Int) (k : Int) : Int := if k < (l.length : Int) then mx (mx (rd (fall l) 0) ((M.lsum (fall l) + k - 1) / k)) (rd (fall l) (k - 1) + rd (fall l) k) else mx (rd (fall l) 0) ((M.lsum (fall l) + k - 1) / k)
def tug_Bound.f (k : Nat) (l0 : List Int) (a1 : Int) : Option (Int × Int) := (tug_check.f k l0 14).bind fun t7 => (if t7 = 0 then (if a1 < 1 then some (0, 1) else (if a1 > 4 then some (0, 1) else (if inB l0 ∧ 0 < l0.length ∧ l0.length < 1000 then some (bval l0 a1, 0) else none))) else some (0, t7))
theorem tug_Bound.mono : ∀ a0 a1 k, LeO (tug_Bound.f k a0 a1) (tug_Bound.f (k + 1) a0 a1) := by
  intro a0 a1 k
  unfold tug_Bound.f
  repeat' first
    | (with_reducible exact tug_check.mono _ _ _)
    | (with_reducible exact LeO.refl _)
    | (with_reducible exact LeO.none _)
    | (with_reducible refine LeO.ite ?_ ?_)
    | (with_reducible refine LeO.bind ?_ (fun _ => ?_))
structure BN where
  v : Int
  h : 0 ≤ v ∧ v ≤ 1000000
theorem BN.ext_ {x y : BN} (h : x.v = y.v) : x = y := by
  cases x
  cases y
  simp only [BN.mk.injEq]
  exact h
instance : Inhabited BN := ⟨⟨0, by omega⟩⟩
def bcf (x y : BN) : Int := y.v - x.v
def benc (x : BN) : Value := .int .i64 x.v
theorem ltb (x y : BN) : ltOf bcf x y = decide (y.v < x.v) := by
  show decide (y.v - x.v < 0) = _
  rw [decide_eq_decide]
  omega
set_option maxHeartbeats 2000000 in
set_option maxRecDepth 100000 in
theorem bound_cmp (x y : BN) (W : World) : Calls Try.prog 65 #[benc x, benc y] W fun e w' => e = .returned (.int .i64 (bcf x y)) ∧ ∃ n os, w' = grow (W.drewN n) os := by
  unfold benc bcf
  obtain ⟨x, hx1, hx2⟩ := x
  obtain ⟨y, hy1, hy2⟩ := y
  dsimp only
  go_enter Try.func65, Try.ntmps65
  go_wp2
  go_ret
  exact ⟨rfl, 0, #[], by simp [World.drewN, grow]⟩
def bns : (l : List Int) → inB l → List BN
  | [], _ => []
  | x :: l, h => ⟨x, h x List.mem_cons_self⟩ :: bns l (fun y hy => h y (List.mem_cons_of_mem _ hy))
theorem bns_val : ∀ (l : List Int) (h : inB l), (bns l h).map (fun x => x.v) = l
  | [], _ => rfl
  | x :: l, h => by
    exact congrArg (x :: ·) (bns_val l _)
theorem bns_length (l : List Int) (h : inB l) : (bns l h).length = l.length := by
  have := congrArg List.length (bns_val l h)
  simpa using this
theorem bcf_swo : SWO (ltOf bcf) where
  irrefl x := by rw [ltb, decide_eq_false_iff_not]; omega
  trans x y z h1 h2 := by rw [ltb, decide_eq_true_iff] at *; omega
  ntrans x y z h1 h2 := by rw [ltb, decide_eq_false_iff_not] at *; omega
set_option maxHeartbeats 2000000 in
theorem bound_sort (w W : World) (g n cap : Nat) (l : List Int) (hB : inB l) (hn : n = l.length) (h0 : 0 < l.length) (hl : l.length < 1000) (HO : Kd.R (Kd.int .i64) 3 W w.heap.size (fun _ => True) (.slice (some ⟨g, 0, none⟩) n cap) l) (hb : Below w.heap.size w W) :
    Calls Try.prog 64 #[.slice (some ⟨g, 0, none⟩) n cap, .func (.func 65) #[] #[]] W fun e w' => e = .returned (.tuple #[]) ∧ Kd.R (Kd.int .i64) 3 w' w.heap.size (fun _ => True) (.slice (some ⟨g, 0, none⟩) n cap) (fall l) ∧ Below w.heap.size w w' := by
  subst hn
  have hown := Kd.own_of_R HO
  obtain ⟨h1, h2⟩ := hown
  rcases h2 with ⟨e, _⟩ | ⟨g', cap', cur, e, hbase, hh, h3, h4, h5, h6⟩
  · cases e
  injection e with e1 _ e3
  injection e1 with e1
  injection e1 with e1 _ _
  subst e1
  subst e3
  have hd : (bns l hB).toArray.toList.map benc = encs (Value.int .i64) l := by
    have h := bns_val l hB
    conv => rhs; rw [← h]
    simp [encs, benc, Function.comp_def]
  have hsz0 : (bns l hB).toArray.size = l.length := by simp [bns_length]
  have hH : Holds benc W g 0 (bns l hB).toArray := sw_holds hh (by rw [hd, hsz0]; rw [Nat.mul_one] at h6; exact h6)
  have eg : ∀ args w, (callFunc 65 args).run Try.prog w = .ok (.enter 65 args) w := fun args w => enters_ (P := Try.prog) Try.func65 (by kernel_rfl) rfl args w
  have hcmp : CmpLays1 Try.prog 65 #[] benc bcf g 0 (bns l hB).toArray.size W := by
    intro m os dk hdk x y
    exact bound_cmp x y _
  have hs := Any.slices_SortFunc lays_F6_f64 benc (fun _ => rfl) bcf bcf_swo 65 #[] g 0 cap (bns l hB).toArray W eg hcmp hH (blk_lt hh) (by rw [hsz0]; omega)
  rw [hsz0] at hs
  refine hs.mono ?_
  rintro e w' ⟨he, d', q, os, hpi, hso, rfl⟩
  have hT : ∀ x y, (ltOf bcf) x y = false → (ltOf bcf) y x = false → x = y := by
    intro x y h1 h2
    rw [ltb, decide_eq_false_iff_not] at h1 h2
    exact BN.ext_ (by omega)
  have hu := sorted_unique_holds bcf_swo hT (bns l hB).toArray d' (by rw [hsz0]; exact hpi) (by rw [hsz0]; exact hso)
  have hsz : d'.size = l.length := by
    have := hpi.1
    omega
  have hv : d'.toList.map benc = encs (Value.int .i64) (fall l) := by
    have h7 : d'.toList.map (fun x => x.v) = fall l := by
      rw [hu]
      have h5 := List.map_mergeSort (r := fun x y => !(ltOf bcf) y x) (s := fun a b => decide (b ≤ a)) (f := fun x : BN => x.v) (l := (bns l hB).toArray.toList) (by
        intro a _ b _
        rw [ltb, Bool.eq_iff_iff]
        simp only [Bool.not_eq_true', decide_eq_false_iff_not, decide_eq_true_iff]
        omega)
      rw [h5]
      unfold fall
      congr 1
      exact bns_val l hB
    rw [← h7]
    simp [encs, benc, Function.comp_def]
  have h7 := sw_own (q := q) (os := os) (enc := benc) d' hsz hbase hh h3 h4 h5
  rw [hv] at h7
  refine ⟨he, Kd.R_of_own (by rw [fall_length]; exact h7) (fun _ _ => trivial), hb.grown (sw_grown d') hb.size (fun k hk => by cases hk; exact hbase)⟩
theorem row_at {w W : World} {v : Value} {xs : List Int} (h : Kd.R (Kd.int .i64) 3 W w.heap.size (fun _ => True) v xs) (h0 : 0 < xs.length) : ∃ g cap, v = .slice (some ⟨g, 0, none⟩) xs.length cap := by
  have hown := Kd.own_of_R h
  obtain ⟨h1, h2⟩ := hown
  rcases h2 with ⟨_, h2⟩ | ⟨g, cap, cur, e, _⟩
  · omega
  · exact ⟨g, cap, e⟩
theorem clone_is (l : List Int) (h : l.length < 1000) : slices_Clone.f l = some l := by
  unfold slices_Clone.f
  rw [Option.bind_some, if_pos (by simp; omega)]
  rfl
theorem lsum_take (l : List Int) (j : Nat) (h : j < l.length) : M.lsum (l.take (j + 1)) = M.lsum (l.take j) + l[j] := by
  rw [List.take_succ_eq_append_getElem h, M.lsum_append]
  simp [M.lsum]
theorem lsum_le (l : List Int) (h : inB l) : 0 ≤ M.lsum l ∧ M.lsum l ≤ 1000000 * (l.length : Int) := by
  induction l with
  | nil => simp [M.lsum]
  | cons x l ih =>
    have h1 := ih (fun y hy => h y (List.mem_cons_of_mem _ hy))
    have h2 := h x List.mem_cons_self
    simp only [M.lsum, List.length_cons]
    omega
theorem take_inB {l : List Int} (h : inB l) (j : Nat) : inB (l.take j) := fun x hx => h x (List.mem_of_mem_take hx)
theorem rd_inB {l : List Int} (h : inB l) (i : Int) : 0 ≤ rd l i ∧ rd l i ≤ 1000000 := by
  unfold rd
  rw [List.getD_eq_getElem?_getD]
  by_cases hi : i.toNat < l.length
  · rw [List.getElem?_eq_getElem hi]
    exact h _ (List.getElem_mem hi)
  · rw [List.getElem?_eq_none (by omega)]
    simp

set_option maxHeartbeats 8000000 in
set_option maxRecDepth 100000 in
theorem tug_Bound.calls (k : Nat) (A0 : Option Addr) (c0 : Nat) (l0 : List Int) (a1 : Int) (r1 : Int) (r2 : Int) (w : World) (hr0 : Kd.C (Kd.int .i64) w A0 l0.length l0) (hc0 : l0.length ≤ c0) (h : tug_Bound.f k l0 a1 = some (r1, r2)) :
    Calls Try.prog 39 #[.slice A0 l0.length c0, .int .i64 a1] w fun e w' => e = .returned (.tuple #[.int .i64 r1, .int .i64 r2]) ∧ Below w.heap.size w w' := by
  have HR0 := Aside0.mk hr0
  have HC0 := Aside0.mk hc0
  clear hr0 hc0
  have HB := Aside0.mk (Below.refl w.heap.size w)
  unfold tug_Bound.f at h
  obtain ⟨t7, A3, H⟩ := Option.bind_eq_some_iff.mp h
  clear h
  have A3 := Aside0.mk A3
  by_cases c4 : t7 = 0
  · rw [if_pos c4] at H
    have c4b0 : (t7 == 0) = true := beq_iff_eq.mpr c4
    have c4b1 : (t7 != 0) = false := bne_eq_false_iff_eq.mpr c4
    clear c4
    by_cases c5 : a1 < 1
    · rw [if_pos c5] at H
      have c5b : decide (a1 < 1) = true := decide_eq_true c5
      simp only [Option.some.injEq, Prod.mk.injEq] at H
      obtain ⟨rfl, rfl⟩ := H
      go_enter Try.func39, Try.ntmps39
      go_wp2_with (first | ((with_reducible refine gate_callee (f := 43) rfl ?_); refine goesL_ (some 13) rfl rfl Try.func43 (by kernel_rfl) rfl #[.slice A0 l0.length c0, .int .i64 14] rfl (by (try simp only [List.map_toArray, List.map_cons, List.map_nil]); first | done | rfl) ?_; (with_reducible refine (tug_check.calls k _ _ l0 14 t7 _ ?side1 ?side2 A3.out).mono ?_); (case side1 => exact (Kd.C_below HR0.out HB.out)); (case side2 => exact HC0.out); rintro e w5 ⟨rfl, hb⟩; refine ⟨_, rfl, ?_⟩; have n1_ := Aside0.mk (below_step HB.out hb); clear HB hb; have HB := n1_; clear n1_))
      go_ret2
      exact ⟨rfl, HB.out⟩
    · rw [if_neg c5] at H
      have c5b : decide (a1 < 1) = false := decide_eq_false c5
      by_cases c6 : a1 > 4
      · rw [if_pos c6] at H
        have c6b : decide (4 < a1) = true := decide_eq_true c6
        simp only [Option.some.injEq, Prod.mk.injEq] at H
        obtain ⟨rfl, rfl⟩ := H
        go_enter Try.func39, Try.ntmps39
        go_wp2_with (first | ((with_reducible refine gate_callee (f := 43) rfl ?_); refine goesL_ (some 13) rfl rfl Try.func43 (by kernel_rfl) rfl #[.slice A0 l0.length c0, .int .i64 14] rfl (by (try simp only [List.map_toArray, List.map_cons, List.map_nil]); first | done | rfl) ?_; (with_reducible refine (tug_check.calls k _ _ l0 14 t7 _ ?side1 ?side2 A3.out).mono ?_); (case side1 => exact (Kd.C_below HR0.out HB.out)); (case side2 => exact HC0.out); rintro e w5 ⟨rfl, hb⟩; refine ⟨_, rfl, ?_⟩; have n1_ := Aside0.mk (below_step HB.out hb); clear HB hb; have HB := n1_; clear n1_))
        go_ret2
        exact ⟨rfl, HB.out⟩
      · rw [if_neg c6] at H
        have c6b : decide (4 < a1) = false := decide_eq_false c6
        by_cases c7 : inB l0 ∧ 0 < l0.length ∧ l0.length < 1000
        · rw [if_pos c7] at H
          have HL0 := Aside0.mk c7
          have HK4 := Aside0.mk (And.intro c5 c6)
          have HCL := Aside0.mk (clone_is l0 c7.2.2)
          clear c5 c6 c7
          simp only [Option.some.injEq, Prod.mk.injEq] at H
          obtain ⟨rfl, rfl⟩ := H
          go_enter Try.func39, Try.ntmps39
          go_wp2_with (first | ((with_reducible refine gate_callee (f := 43) rfl ?_); refine goesL_ (some 13) rfl rfl Try.func43 (by kernel_rfl) rfl #[.slice A0 l0.length c0, .int .i64 14] rfl (by (try simp only [List.map_toArray, List.map_cons, List.map_nil]); first | done | rfl) ?_; (with_reducible refine (tug_check.calls k _ _ l0 14 t7 _ ?side1 ?side2 A3.out).mono ?_); (case side1 => exact (Kd.C_below HR0.out HB.out)); (case side2 => exact HC0.out); rintro e w5 ⟨rfl, hb⟩; refine ⟨_, rfl, ?_⟩; have n1_ := Aside0.mk (below_step HB.out hb); clear HB hb; have HB := n1_; clear n1_) | ((with_reducible refine gate_callee (f := 53) rfl ?_); refine goesL_ (some 24) rfl rfl Try.func53 (by kernel_rfl) rfl #[.slice A0 l0.length c0] rfl (by (try simp only [List.map_toArray, List.map_cons, List.map_nil]); first | done | rfl) ?_; (refine (slices_Clone.calls A0 c0 l0 l0 _ (Kd.C_below HR0.out HB.out) HC0.out HCL.out).mono ?_); rintro e w6 ⟨v6, rfl, ho, hb⟩; refine ⟨_, rfl, ?_⟩; have HO := Aside0.mk (Kd.R_lower ho HB.out.size); have n1_ := Aside0.mk (below_step HB.out hb); clear HB hb ho; have HB := n1_; clear n1_; obtain ⟨g, cap, eo⟩ := row_at HO.out HL0.out.2.1; subst eo) | ((with_reducible refine gate_callee (f := 64) rfl ?_); refine goesL_ (some 26) rfl rfl Try.func64 (by kernel_rfl) rfl #[.slice (some ⟨g, 0, none⟩) l0.length cap, .func (.func 65) #[] #[]] rfl (by (try simp only [List.map_toArray, List.map_cons, List.map_nil]); first | done | rfl) ?_; (refine (bound_sort w _ g l0.length cap l0 HL0.out.1 rfl HL0.out.2.1 HL0.out.2.2 HO.out HB.out).mono ?_); rintro e w7 ⟨rfl, ho, hb⟩; refine ⟨_, rfl, ?_⟩; have n0_ := Aside0.mk ho; have n1_ := Aside0.mk hb; clear HO HB ho hb; have HO := n0_; have HB := n1_; clear n0_ n1_))
          have HIB := Aside0.mk (fall_inB HL0.out.1)
          have HFL := Aside0.mk (fall_length l0)
          go_loopw [8, 29] (fun v8 v29 w' => ∃ j : Nat, j ≤ l0.length ∧ v29 = .int .i64 (j : Int) ∧ v8 = .int .i64 (M.lsum ((fall l0).take j)) ∧ Aside0 (Below w.heap.size w w') ∧ Aside0 (Kd.R (Kd.int .i64) 3 w' w.heap.size (fun _ => True) (.slice (some ⟨g, 0, none⟩) l0.length cap) (fall l0))) (fun _ v29 _ => l0.length - (intOf v29).toNat)
          case atStart => exact ⟨0, Nat.zero_le _, rfl, rfl, HB, HO⟩
          case round =>
            clear HB HO
            obtain ⟨j, hj, rfl, rfl, HB, HO⟩ := hrel
            have hj1000 := HL0.out.2.2
            by_cases hlt : j < l0.length
            · have hltb : decide ((j : Int) < (l0.length : Int)) = true := decide_eq_true (by omega)
              obtain ⟨hc1, hf1⟩ := Kd.R_celln 0 HO.out (j : Int) (by omega) (by omega)
              rw [Int.toNat_natCast] at hc1 hf1
              have hl1 := lsum_le _ (take_inB HIB.out j)
              have hl2 := rd_inB HIB.out (j : Int)
              have hl3 : ((fall l0).take j).length ≤ 1000 := by rw [List.length_take]; omega
              have HS : Aside0 (M.lsum ((fall l0).take j) + rd (fall l0) (j : Int) = M.lsum ((fall l0).take (j + 1))) := ⟨by
                rw [lsum_take _ _ (by rw [fall_length]; exact hlt)]
                congr 1
                unfold rd
                rw [Int.toNat_natCast, List.getD_eq_getElem?_getD, List.getElem?_eq_getElem (by rw [fall_length]; exact hlt)]
                rfl⟩
              have hcc : rdOf 0 (fall l0) (j : Int) = rd (fall l0) (j : Int) := rfl
              rw [hcc] at hc1
              clear hcc
              obtain ⟨y, hy⟩ : ∃ y_ : Int, rd (fall l0) (j : Int) = y_ := ⟨_, rfl⟩
              rw [hy] at hc1 hl2 HS
              obtain ⟨s, hs⟩ : ∃ s_ : Int, M.lsum ((fall l0).take j) = s_ := ⟨_, rfl⟩
              rw [hs] at hl1 HS ⊢
              clear hy hs
              go_wp2
              go_roundw
              case rel => exact ⟨j + 1, by omega, by go_num, by rw [← HS.out], HB, HO⟩
              case measure => simp [intOf]; omega
            · have hltb : decide ((j : Int) < (l0.length : Int)) = false := decide_eq_false (by omega)
              obtain rfl : j = l0.length := by omega
              have hsm : (fall l0).take l0.length = fall l0 := List.take_of_length_le (by rw [fall_length]; exact Nat.le_refl _)
              rw [hsm]
              clear hsm hj hlt
              have hpos := HL0.out.2.1
              obtain ⟨hc1, hf1⟩ := Kd.R_celln 0 HO.out 0 (Int.le_refl 0) (by omega)
              have hl1 := lsum_le _ HIB.out
              rw [HFL.out] at hl1
              have hl2 := rd_inB HIB.out 0
              have hk1 : 1 ≤ a1 := by have := HK4.out; omega
              have hk2 : a1 ≤ 4 := by have := HK4.out; omega
              have hcc : rdOf 0 (fall l0) 0 = rd (fall l0) 0 := rfl
              rw [hcc, Int.toNat_zero] at hc1
              clear hcc
              have hbv : bval l0 a1 = if a1 < (l0.length : Int) then mx (mx (rd (fall l0) 0) ((M.lsum (fall l0) + a1 - 1) / a1)) (rd (fall l0) (a1 - 1) + rd (fall l0) a1) else mx (rd (fall l0) 0) ((M.lsum (fall l0) + a1 - 1) / a1) := rfl
              obtain ⟨s, hs⟩ : ∃ s_ : Int, M.lsum (fall l0) = s_ := ⟨_, rfl⟩
              obtain ⟨y0, hy0⟩ : ∃ y_ : Int, rd (fall l0) 0 = y_ := ⟨_, rfl⟩
              rw [hs] at hl1 hbv ⊢
              rw [hy0] at hc1 hl2 hbv
              clear hs hy0
              have ha0 : a1 ≠ 0 := by omega
              have hw1 : 0 ≤ s + a1 - 1 := by omega
              obtain ⟨t1, ht1⟩ : ∃ t_ : Int, s + a1 = t_ := ⟨_, rfl⟩
              obtain ⟨t2, ht2⟩ : ∃ t_ : Int, t1 - 1 = t_ := ⟨_, rfl⟩
              obtain ⟨q, hq⟩ : ∃ t_ : Int, t2 / a1 = t_ := ⟨_, rfl⟩
              have hqb : 0 ≤ q ∧ q ≤ 2000000000 := by
                subst hq
                have h1 : 0 ≤ t2 / a1 := Int.ediv_nonneg (by omega) (by omega)
                have h2 : t2 / a1 ≤ t2 := Int.ediv_le_self _ (by omega)
                omega
              rw [ht1, ht2, hq] at hbv
              have hw2 : IntKind.i64.wrap (s + a1) = t1 := (IntWalk.i64_in _ (by omega)).trans ht1
              have hw3 : IntKind.i64.wrap (t1 - 1) = t2 := (IntWalk.i64_in _ (by omega)).trans ht2
              have hw4 : t2.tdiv a1 = q := (Int.tdiv_eq_ediv_of_nonneg (by omega)).trans hq
              have hw5 : IntKind.i64.wrap q = q := IntWalk.i64_in _ (by omega)
              have hw6 : 0 ≤ t2 := by omega
              clear ht1 ht2 hq hqb hw1
              by_cases c9 : a1 < (l0.length : Int)
              · rw [if_pos c9] at hbv
                have c9b : decide (a1 < (l0.length : Int)) = true := decide_eq_true c9
                obtain ⟨hd1, _⟩ := Kd.R_celln 0 HO.out (a1 - 1) (by omega) (by omega)
                obtain ⟨hd2, _⟩ := Kd.R_celln 0 HO.out a1 (by omega) (by omega)
                have hcc : rdOf 0 (fall l0) (a1 - 1) = rd (fall l0) (a1 - 1) := rfl
                have hcd : rdOf 0 (fall l0) a1 = rd (fall l0) a1 := rfl
                rw [hcc] at hd1
                rw [hcd] at hd2
                clear hcc hcd
                have hl3 := rd_inB HIB.out (a1 - 1)
                have hl4 := rd_inB HIB.out a1
                generalize rd (fall l0) (a1 - 1) = y1 at *
                generalize rd (fall l0) a1 = y2 at *
                obtain ⟨u, hu⟩ : ∃ t_ : Int, a1 - 1 = t_ := ⟨_, rfl⟩
                obtain ⟨z, hz⟩ : ∃ t_ : Int, y1 + y2 = t_ := ⟨_, rfl⟩
                rw [hz] at hbv
                rw [hu] at hd1
                have HBV := Aside0.mk hbv
                clear hbv
                have hu0 := Aside0.mk (IntWalk.i64_in (a1 - 1) (by omega))
                have hz0 := Aside0.mk (IntWalk.i64_in (y1 + y2) (by omega))
                have hu1 : 0 ≤ u := by omega
                have hu2 : u < (l0.length : Int) := by omega
                have HU := Aside0.mk (And.intro hu hz)
                have HL34 := Aside0.mk (And.intro hl3 hl4)
                clear hu hz hl3 hl4
                go_wp2
                go_quiet (fail)
                all_goals go_wp2
                all_goals
                  clear hw2 hw3 hw4 hw5 hw6
                  have hwu : IntKind.i64.wrap (a1 - 1) = u := hu0.out.trans HU.out.1
                  have hwz : IntKind.i64.wrap (y1 + y2) = z := hz0.out.trans HU.out.2
                  go_quiet (fail)
                  all_goals go_wp2
                  all_goals
                    go_ret2
                    refine ⟨?_, pw_below_drewN HB.out _⟩
                    rw [HBV.out]
                    first
                      | (rw [show mx (mx y0 q) z = z from by unfold mx; repeat' split; all_goals omega]; rfl)
                      | (rw [show mx (mx y0 q) z = q from by unfold mx; repeat' split; all_goals omega]; rfl)
                      | (rw [show mx (mx y0 q) z = y0 from by unfold mx; repeat' split; all_goals omega]; rfl)
              · rw [if_neg c9] at hbv
                have HBV := Aside0.mk hbv
                clear hbv
                have c9b : decide (a1 < (l0.length : Int)) = false := decide_eq_false c9
                go_wp2
                go_quiet (fail)
                all_goals go_wp2
                all_goals
                  go_ret2
                  refine ⟨?_, pw_below_drewN HB.out _⟩
                  rw [HBV.out]
                  first
                    | (rw [show mx y0 q = q from by unfold mx; repeat' split; all_goals omega]; rfl)
                    | (rw [show mx y0 q = y0 from by unfold mx; repeat' split; all_goals omega]; rfl)
        · rw [if_neg c7] at H
          exact absurd H (by simp)
  · rw [if_neg c4] at H
    have c4b0 : (t7 == 0) = false := beq_eq_false_iff_ne.mpr c4
    have c4b1 : (t7 != 0) = true := bne_iff_ne.mpr c4
    clear c4
    simp only [Option.some.injEq, Prod.mk.injEq] at H
    obtain ⟨rfl, rfl⟩ := H
    go_enter Try.func39, Try.ntmps39
    go_wp2_with (first | ((with_reducible refine gate_callee (f := 43) rfl ?_); refine goesL_ (some 13) rfl rfl Try.func43 (by kernel_rfl) rfl #[.slice A0 l0.length c0, .int .i64 14] rfl (by (try simp only [List.map_toArray, List.map_cons, List.map_nil]); first | done | rfl) ?_; (with_reducible refine (tug_check.calls k _ _ l0 14 t7 _ ?side1 ?side2 A3.out).mono ?_); (case side1 => exact (Kd.C_below HR0.out HB.out)); (case side2 => exact HC0.out); rintro e w5 ⟨rfl, hb⟩; refine ⟨_, rfl, ?_⟩; have n1_ := Aside0.mk (below_step HB.out hb); clear HB hb; have HB := n1_; clear n1_))
    go_ret2
    exact ⟨rfl, HB.out⟩
end Go.Proofs.Ytpfbdpeohlohoaa.H
