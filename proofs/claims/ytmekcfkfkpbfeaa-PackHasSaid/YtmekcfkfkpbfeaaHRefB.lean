/- The walk of woggleref04.Minimal: each row that no other one strikes out, put in its place. Condition: rows of one length. -/
import Derived.Test.YtmekcfkfkpbfeaaHRefA
import Derived.BigRegion
import Derived.BigQuiet
import Derived.Deep.RegionHeld3
import Derived.Outline
namespace Go.Proofs.Ytmekcfkfkpbfeaa.H
open Go.RowKit Go.Proofs.YtmekcfkfkpbfeaaW.PrintWords Go.Proofs.YtmekcfkfkpbfeaaW.PrintLast Go.Proofs.YtmekcfkfkpbfeaaW.PrintMore
open Go.Proofs.Ytmekcfkfkpbfeaa.Ga Go.Proofs.Ytmekcfkfkpbfeaa.S
attribute [local go_sem] max2_int min2_int max_two min_two max_three min_three max_four min_four
set_option linter.unusedVariables false
set_option linter.unusedSimpArgs false
theorem RT_lit_of {W : World} {g base : Nat} (h : W.heap[g]? = some (.cells #[] 27 (0, 0))) (hb : base ≤ g) : Kd.R KT 27 W base (fun _ => True) (.slice (some ⟨g, 0, none⟩) 0 0) [] :=
  ⟨fun k hk => trivial, [], ⟨by simp, .inr ⟨g, 0, #[], rfl, hb, h, Nat.le_refl _, Nat.zero_le _, by simp, by simp⟩⟩, Reps.none _ _⟩
theorem RowOk.drewN {w : World} {t : HD} (h : RowOk w t) (m : Nat) : RowOk (w.drewN m) t := ⟨h.1, h.2.1, Kd.C_drewN h.2.2 m⟩
theorem alloc2_new (w : World) (a b : Obj) : ((w.alloc a).alloc b).heap[w.heap.size + 1]? = some b := by
  have h := heap_alloc_new (w.alloc a) b
  have z : (w.alloc a).heap.size = w.heap.size + 1 := by simp
  rw [z] at h
  exact h
theorem CT_one_of {W : World} {g : Nat} {x : HD} (h : W.heap[g]? = some (.cells #[encT x] 27 (0, 0))) : Kd.C KT W (some ⟨g, 0, none⟩) 1 [x] := by
  have hr : Kd.R KT 27 W 0 (fun _ => True) (.slice (some ⟨g, 0, none⟩) 1 1) [x] := Kd.R_of_own ⟨by simp [encs], .inr ⟨g, 1, _, rfl, Nat.zero_le _, h, Nat.le_refl _, by unfold maxLen; omega, by simp, by simp [encs]⟩⟩ (fun _ _ => trivial)
  exact (Kd.R_reads' hr).2.2
section
variable {ops : Array Oper} {o : Oper} {a : Act} {W : World}
theorem RT_app_step {K : Act → World → Prop} {Q : Exit → Act → World → Prop} {E : Prop} {w0 : World} (base : Nat) (hg : o.guard = none) (s x : Operand)
    (ho : o.op = .call { callee := .builtin .append, args := #[s, x], argTypes := #[24, 24] })
    (v : Value) (xs ys : List HD) (A : Option Addr) (m c : Nat) (hs : a.eval s = v) (hx : a.eval x = .slice A m c)
    (HO : Kd.R KT 27 W base (fun _ => True) v xs) (HR : Kd.C KT W A m ys)
    (HB : Below base w0 W) (hbase : base ≤ W.heap.size) (hl : (xs.length + m) * 24 ≤ 140737488355328)
    (h : ∀ v1 w1, Kd.R KT 27 w1 base (fun _ => True) v1 (xs ++ ys) → Below base w0 w1 → W.grownBy w1 v.ownBlock → (v1.ownBlock = v.ownBlock ∨ ∃ b, v1.ownBlock = some b ∧ W.heap.size ≤ b) → K (a.put o.dst v1) w1) :
    if Region.wanted o (yielded ops a.tmps) = true then Oper.wp Try.prog o a W K Q else E := by
  have hw : Region.wanted o (yielded ops a.tmps) = true := by simp [Region.wanted, hg]
  have h1 := Kd.R_append_rows_step (P := Try.prog) (Q := Q) KT (w0 := w0) base hw s x 24 27 (.slice none 0 0) 24 ho Try.underlying24 info27' rfl (by decide) (by omega) v xs ys A m c (fun _ => True) (fun _ => False) hs hx HO HR (fun _ _ h => h) (fun _ h => h.elim) (fun _ _ => trivial) HB hbase hl h
  rw [if_pos hw] at h1 ⊢
  exact h1
end
theorem posT_at (out : List HD) (t : HD) (k : Nat) (hk : k ≤ out.length) (ha : (out.take k).all (fun x => bef x.2.2 t.2.2) = true) (he : ∀ x, out[k]? = some x → bef x.2.2 t.2.2 = false) : posT out t = k := by
  unfold posT
  rw [← List.take_append_drop k out] 
  rw [List.takeWhile_append_of_pos (fun x hx => List.all_eq_true.1 ha x hx)]
  rw [List.length_append, List.length_take]
  cases hd : out.drop k with
  | nil => simp; omega
  | cons y ys =>
    have : out[k]? = some y := by
      have h2 : (out.drop k)[0]? = some y := by rw [hd]; rfl
      rwa [List.getElem?_drop, Nat.add_zero] at h2
    rw [List.takeWhile_cons_of_neg (by rw [he y this]; decide)]
    simp
    omega
set_option maxRecDepth 100000 in
set_option maxHeartbeats 16000000 in
theorem refMin_walk (A : Option Addr) (c n : Nat) (ts : List HD) (w : World) (hts : ∀ (i : Nat) (t : HD), ts[i]? = some t → ∃ ad, A = some ad ∧ w.cell? (ad.add i) = some (encT t)) (hok : ∀ t ∈ ts, RowOk w t) (hln : ∀ t ∈ ts, t.2.2.length = n) (hl : ts.length < 100000) :
    Calls Try.prog 23 #[.slice A ts.length c] w fun e w' => ∃ v, e = .returned v ∧ Kd.R KT 27 w' w.heap.size (fun _ => True) v (refTo ts ts.length) ∧ Below w.heap.size w w' := by
  have HTS := Aside0.mk hts
  have HOK := Aside0.mk hok
  have HLN := Aside0.mk hln
  have HL := Aside0.mk hl
  clear hts hok hln hl
  obtain ⟨i3, hi3, hz3⟩ := Option.map_eq_some_iff.1 info27'
  simp only [Prod.mk.injEq] at hz3
  have HI3 := Aside0.mk hi3
  have HI4 := Aside0.mk hz3.2.1
  clear hi3 hz3
  go_enter Try.func23, Try.ntmps23
  go_wp2
  have HB := Aside0.mk (below_alloc (Below.refl w.heap.size w) (.cells #[] 27))
  have HO := Aside0.mk (RT_lit_of (heap_alloc_new w (.cells #[] 27)) (Nat.le_refl w.heap.size))
  go_loopw [3, 4] (fun v3 v4 w' => ∃ (i g c3 : Nat), i ≤ ts.length ∧ v4 = .int .i64 (i : Int) ∧ v3 = .slice (some ⟨g, 0, none⟩) (refTo ts i).length c3 ∧ Aside0 (Kd.R KT 27 w' w.heap.size (fun _ => True) (.slice (some ⟨g, 0, none⟩) (refTo ts i).length c3) (refTo ts i)) ∧ Aside0 (Below w.heap.size w w')) (fun _ v4 _ => ts.length - (intOf v4).toNat)
  case atStart => exact ⟨0, _, _, Nat.zero_le _, rfl, rfl, HO, HB⟩
  case round =>
    clear HB HO
    obtain ⟨i, g, c3, hi, rfl, rfl, HO, HB⟩ := hrel
    have hl1 : ts.length < 100000 := HL.out
    by_cases hlt : i < ts.length
    · have hltb : decide ((i : Int) < (ts.length : Int)) = true := decide_eq_true (by omega)
      have hi0 : (0 : Int) ≤ (i : Int) := by omega
      have hi1 : (i : Int) < (ts.length : Int) := by omega
      obtain ⟨t, hti⟩ : ∃ t, ts[i]? = some t := ⟨_, List.getElem?_eq_getElem hlt⟩
      obtain ⟨ad, hA, x1⟩ := HTS.out i t hti
      subst hA
      have HTI : Aside0 (ts.getD i default = t) := ⟨by rw [List.getD_eq_getElem?_getD, hti]; rfl⟩
      have HOT := Aside0.mk (HOK.out t (List.mem_of_getElem? hti))
      have HLT := Aside0.mk (HLN.out t (List.mem_of_getElem? hti))
      have HX1 := Aside0.mk x1
      have HSU := Aside0.mk (refTo_succ ts i)
      rw [HTI.out] at HSU
      have HOM := Aside0.mk (refTo_mem ts i hi)
      have HOL := Aside0.mk (refTo_length ts i)
      generalize hout : refTo ts i = out at *
      clear hout x1 hti
      obtain ⟨t0, t1, t2⟩ := t
      dsimp only [encT] at HX1
      go_wp2
      go_loopw [5, 6] (fun v5 v6 w' => ∃ (k : Nat), k ≤ ts.length ∧ v6 = .int .i64 (k : Int) ∧ v5 = .bool (keptTo ts i k) ∧ Aside0 (∃ m, w' = wr.drewN m)) (fun _ v6 _ => ts.length - (intOf v6).toNat)
      case atStart => exact ⟨0, Nat.zero_le _, rfl, rfl, ⟨0, rfl⟩⟩
      case round =>
        obtain ⟨k, hk, rfl, rfl, HW⟩ := hrel
        obtain ⟨mm, e⟩ := HW.out
        have HE := Aside0.mk e
        clear HW e
        by_cases hkt : k < ts.length
        · have hktb : decide ((k : Int) < (ts.length : Int)) = true := decide_eq_true (by omega)
          have hk0 : (0 : Int) ≤ (k : Int) := by omega
          have hk1 : (k : Int) < (ts.length : Int) := by omega
          have x1 : wr.cell? (ad.add i) = some (.slice t0 t2.length t1) := by rw [HE.out]; exact pw_cell_below HB.out HX1.out
          obtain ⟨s, hsk⟩ : ∃ s, ts[k]? = some s := ⟨_, List.getElem?_eq_getElem hkt⟩
          obtain ⟨ad', hA, y1⟩ := HTS.out k s hsk
          injection hA with hA
          subst hA
          have HSK : Aside0 (ts.getD k default = s) := ⟨by rw [List.getD_eq_getElem?_getD, hsk]; rfl⟩
          have HOS : Aside0 (RowOk wr s) := ⟨by rw [HE.out]; exact ((HOK.out s (List.mem_of_getElem? hsk)).below HB.out).drewN mm⟩
          have HOTT : Aside0 (RowOk wr (t0, t1, t2)) := ⟨by rw [HE.out]; exact (HOT.out.below HB.out).drewN mm⟩
          have HLS := Aside0.mk (HLN.out s (List.mem_of_getElem? hsk))
          have HKS := Aside0.mk (keptTo_succ ts i k)
          have HST : Aside0 (strikes ts i k = (decide (k ≠ i) && (divL s.2.2 t2 && (!decide (s.2.2 = t2) || decide (k < i))))) := ⟨by unfold strikes; rw [HTI.out, HSK.out]⟩
          clear hsk
          have y1' := pw_cell_below HB.out y1
          clear y1
          have y1 : wr.cell? (ad.add k) = some (encT s) := by rw [HE.out]; exact y1'
          clear y1'
          obtain ⟨s0, s1, s2⟩ := s
          dsimp only [encT] at y1
          dsimp only at HST
          by_cases q1 : k = i
          · have q1b : ((k : Int) != (i : Int)) = false := by rw [bne_eq_false_iff_eq]; omega
            have HVV : Aside0 (keptTo ts i (k + 1) = keptTo ts i k) := ⟨by rw [HKS.out, HST.out]; simp [*]⟩
            generalize keptTo ts i k = kv at *
            go_wp2
            go_quiet (fail)
            go_wp2
            go_roundw
            case rel => exact ⟨k + 1, by omega, by go_num, by rw [HVV.out], ⟨_, by rw [HE.out, World.drewN_drewN]⟩⟩
            case measure => simp [intOf]; omega
          have q1b : ((k : Int) != (i : Int)) = true := by rw [bne_iff_ne]; omega
          cases q2 : divL s2 t2 with
          | false =>
            have HD := Aside0.mk (fun m => div_q (s0, s1, s2) (t0, t1, t2) wr m HOS.out HOTT.out (by rw [HLS.out, HLT.out]; exact Nat.le_refl _) false q2)
            dsimp only [encT] at HD
            have HVV : Aside0 (keptTo ts i (k + 1) = keptTo ts i k) := ⟨by rw [HKS.out, HST.out]; simp [*]⟩
            generalize keptTo ts i k = kv at *
            go_wp2
            go_quiet ((go_at_call 53; exact HD.out _))
            go_wp2
            go_roundw
            case rel => exact ⟨k + 1, by omega, by go_num, by rw [HVV.out], ⟨_, by rw [HE.out, World.drewN_drewN]⟩⟩
            case measure => simp [intOf]; omega
          | true =>
            have HD := Aside0.mk (fun m => div_q (s0, s1, s2) (t0, t1, t2) wr m HOS.out HOTT.out (by rw [HLS.out, HLT.out]; exact Nat.le_refl _) true q2)
            dsimp only [encT] at HD
            cases q3 : decide (s2 = t2) with
            | false =>
              have HS := Aside0.mk (fun m => same_q (s0, s1, s2) (t0, t1, t2) wr m HOS.out HOTT.out false q3)
              dsimp only [encT] at HS
              have HVV : Aside0 (keptTo ts i (k + 1) = false) := ⟨by rw [HKS.out, HST.out]; simp [*]⟩
              generalize keptTo ts i k = kv at *
              go_wp2
              go_quiet (first | (go_at_call 53; exact HD.out _) | (go_at_call 50; exact HS.out _))
              go_wp2
              go_roundw
              case rel => exact ⟨k + 1, by omega, by go_num, by rw [HVV.out], ⟨_, by rw [HE.out, World.drewN_drewN]⟩⟩
              case measure => simp [intOf]; omega
            | true =>
              have HS := Aside0.mk (fun m => same_q (s0, s1, s2) (t0, t1, t2) wr m HOS.out HOTT.out true q3)
              dsimp only [encT] at HS
              by_cases q4 : k < i
              · have q4b : decide ((k : Int) < (i : Int)) = true := decide_eq_true (by omega)
                have HVV : Aside0 (keptTo ts i (k + 1) = false) := ⟨by rw [HKS.out, HST.out]; simp [*]⟩
                generalize keptTo ts i k = kv at *
                go_wp2
                go_quiet (first | (go_at_call 53; exact HD.out _) | (go_at_call 50; exact HS.out _))
                go_wp2
                go_roundw
                case rel => exact ⟨k + 1, by omega, by go_num, by rw [HVV.out], ⟨_, by rw [HE.out, World.drewN_drewN]⟩⟩
                case measure => simp [intOf]; omega
              · have q4b : decide ((k : Int) < (i : Int)) = false := decide_eq_false (by omega)
                have HVV : Aside0 (keptTo ts i (k + 1) = keptTo ts i k) := ⟨by rw [HKS.out, HST.out]; simp [*]⟩
                generalize keptTo ts i k = kv at *
                go_wp2
                go_quiet (first | (go_at_call 53; exact HD.out _) | (go_at_call 50; exact HS.out _))
                go_wp2
                go_roundw
                case rel => exact ⟨k + 1, by omega, by go_num, by rw [HVV.out], ⟨_, by rw [HE.out, World.drewN_drewN]⟩⟩
                case measure => simp [intOf]; omega
        · have hktb : decide ((k : Int) < (ts.length : Int)) = false := decide_eq_false (by omega)
          obtain rfl : k = ts.length := by omega
          have HLI := Aside0.mk hlt
          cases hkp : keptTo ts i ts.length with
          | false =>
            have HSV : Aside0 (refTo ts (i + 1) = out) := ⟨by rw [HSU.out, hkp]; rfl⟩
            go_wp2
            go_roundw
            case rel => exact ⟨i + 1, g, c3, by omega, by go_num, by rw [HSV.out], ⟨by rw [HSV.out, HE.out]; exact Kd.R_drewN HO.out mm⟩, ⟨by rw [HE.out]; exact pw_below_drewN HB.out mm⟩⟩
            case measure => simp [intOf]; omega
          | true =>
            have HKP := Aside0.mk hkp
            have HB1_ : Aside0 (Below w.heap.size w wr) := ⟨by rw [HE.out]; exact pw_below_drewN HB.out mm⟩
            have HO1_ : Aside0 (Kd.R KT 27 wr w.heap.size (fun _ => True) (.slice (some ⟨g, 0, none⟩) out.length c3) out) := ⟨by rw [HE.out]; exact Kd.R_drewN HO.out mm⟩
            clear hkp HB HO HE
            have HB := HB1_
            have HO := HO1_
            clear HB1_ HO1_
            go_wp2
            go_loopw [7] (fun v7 w' => ∃ (k : Nat), k ≤ out.length ∧ v7 = .int .i64 (k : Int) ∧ Aside0 ((out.take k).all (fun x => bef x.2.2 t2) = true) ∧ Aside0 (∃ m, w' = wr.drewN m)) (fun v7 _ => out.length - (intOf v7).toNat)
            case atStart => exact ⟨0, Nat.zero_le _, rfl, ⟨rfl⟩, ⟨0, rfl⟩⟩
            case round =>
              obtain ⟨k, hk, rfl, HAL, HW⟩ := hrel
              obtain ⟨mm, e⟩ := HW.out
              have HE := Aside0.mk e
              clear HW e
              have hol : out.length < 100000 := by have h1 := HOL.out; omega
              by_cases hkt : k < out.length
              · have hktb : decide ((k : Int) < (out.length : Int)) = true := decide_eq_true (by omega)
                have hk0 : (0 : Int) ≤ (k : Int) := by omega
                have hk1 : (k : Int) < (out.length : Int) := by omega
                have x1 : wr.cell? (ad.add i) = some (.slice t0 t2.length t1) := by rw [HE.out]; exact pw_cell_below HB.out HX1.out
                obtain ⟨s, hsk⟩ : ∃ s, out[k]? = some s := ⟨_, List.getElem?_eq_getElem hkt⟩
                have y0 := (Kd.R_celln default HO.out (k : Int) (by omega) (by omega)).1
                have e1 : rdOf default out (k : Int) = s := by unfold rdOf; rw [Int.toNat_natCast, List.getD_eq_getElem?_getD, hsk]; rfl
                rw [Int.toNat_natCast, e1] at y0
                have y1 : wr.cell? ⟨g, k, none⟩ = some (encT s) := by rw [HE.out]; exact y0
                have hms := HOM.out s (List.mem_of_getElem? hsk)
                have HOS : Aside0 (RowOk wr s) := ⟨by rw [HE.out]; exact ((HOK.out s hms).below HB.out).drewN mm⟩
                have HOTT : Aside0 (RowOk wr (t0, t1, t2)) := ⟨by rw [HE.out]; exact (HOT.out.below HB.out).drewN mm⟩
                have HTK : Aside0 (out.take (k + 1) = out.take k ++ [s]) := ⟨by
                  obtain ⟨hk', e⟩ := List.getElem?_eq_some_iff.1 hsk
                  rw [List.take_succ_eq_append_getElem hk', e]⟩
                have HSK := Aside0.mk hsk
                clear hsk hms e1 y0
                obtain ⟨s0, s1, s2⟩ := s
                dsimp only [encT] at y1
                cases qb : bef s2 t2 with
                | true =>
                  have HD := Aside0.mk (fun m => bef_q (s0, s1, s2) (t0, t1, t2) wr m HOS.out HOTT.out true qb)
                  dsimp only [encT] at HD
                  have HA2 : Aside0 ((out.take (k + 1)).all (fun x => bef x.2.2 t2) = true) := ⟨by rw [HTK.out, List.all_append, HAL.out]; simp [qb]⟩
                  go_wp2
                  go_quiet ((go_at_call 56; exact HD.out _))
                  go_wp2
                  go_roundw
                  case rel => exact ⟨k + 1, by omega, by go_num, HA2, ⟨_, by rw [HE.out, World.drewN_drewN]⟩⟩
                  case measure => simp [intOf]; omega
                | false =>
                  have HD := Aside0.mk (fun m => bef_q (s0, s1, s2) (t0, t1, t2) wr m HOS.out HOTT.out false qb)
                  dsimp only [encT] at HD
                  have HPOS : Aside0 (posT out (t0, t1, t2) = k) := ⟨posT_at out (t0, t1, t2) k hk HAL.out (fun x hx => by rw [HSK.out] at hx; injection hx with hx; subst hx; exact qb)⟩
                  go_wp2
                  go_quiet ((go_at_call 56; exact HD.out _))
                  go_wp2
                  clear x1 y1 hktb hk1 hkt qb HD
                  have HB5 : Aside0 (Below w.heap.size w (wr.drewN nq)) := ⟨by rw [HE.out]; exact pw_below_drewN (pw_below_drewN HB.out mm) nq⟩
                  have HO5 : Aside0 (Kd.R KT 27 (wr.drewN nq) w.heap.size (fun _ => True) (.slice (some ⟨g, 0, none⟩) out.length c3) out) := ⟨by rw [HE.out]; exact Kd.R_drewN (Kd.R_drewN HO.out mm) nq⟩
                  have hxp : (wr.drewN nq).cell? (ad.add i) = some (.slice t0 t2.length t1) := by rw [HE.out]; exact pw_cell_below HB.out HX1.out
                  generalize wr.drewN nq = w5 at HB5 HO5 hxp ⊢
                  have HXC := Aside0.mk hxp
                  have hjc := (Kd.R_reads' HO5.out).2.1
                  have hcutT := cut_to (P := Try.prog) 24 27 .i64 Try.underlying24 HI3.out (some ⟨g, 0, none⟩) out.length c3 (k : Int) (by omega) (by omega) hjc
                  have hcutF := cut_from (P := Try.prog) 24 27 .i64 Try.underlying24 HI3.out 1 HI4.out (some ⟨g, 0, none⟩) out.length c3 (k : Int) (by omega) (by omega)
                  rw [Int.toNat_natCast] at hcutT hcutF
                  have hR := (Kd.R_reads' HO5.out).2.2
                  have HCT := Aside0.mk (show Kd.C KT w5 (some ⟨g, 0, none⟩) k (out.take k) from by have h_ := Kd.C_take hR (m := k) hk; rw [List.length_take, Nat.min_eq_left hk] at h_; exact h_)
                  have hD := Kd.C_drop hR (m := k) (c := c3) hk hjc
                  obtain ⟨A5, hA5⟩ : ∃ A_ : Option Addr, (if c3 = k then some (⟨g, 0, none⟩ : Addr) else (some (⟨g, 0, none⟩ : Addr)).map (·.add (k * 1))) = A_ := ⟨_, rfl⟩
                  rw [show KT.sz = 1 from rfl, hA5, List.length_drop] at hD
                  rw [hA5] at hcutF
                  have HCD := Aside0.mk hD
                  have HLE : Aside0 (k ≤ out.length ∧ out.length ≤ c3 ∧ out.length < 100000) := ⟨hk, hjc, by have h1 := HOL.out; omega⟩
                  clear hA5 hR hD
                  have HXL := Aside0.mk (World.block_lt_of_cell? w5 _ hxp)
                  have B0 := Aside0.mk (show (w5.alloc (.cells #[] 27)).drew.heap[w5.heap.size]? = some (.cells #[] 27 (0, 0)) from heap_alloc_new w5 _)
                  have B1 := Aside0.mk (show ((w5.alloc (.cells #[] 27)).alloc (.cells #[encT (t0, t1, t2)] 27)).drew.heap[w5.heap.size]? = some (.cells #[] 27 (0, 0)) from blk_alloc (heap_alloc_new w5 _) _)
                  have B1x := Aside0.mk (show ((w5.alloc (.cells #[] 27)).alloc (.cells #[encT (t0, t1, t2)] 27)).drew.heap[w5.heap.size + 1]? = some (.cells #[encT (t0, t1, t2)] 27 (0, 0)) from alloc2_new w5 _ _)
                  have B2 := Aside0.mk (show ((w5.alloc (.cells #[encT (t0, t1, t2)] 27)).alloc (.cells #[] 27)).drew.heap[w5.heap.size + 1]? = some (.cells #[] 27 (0, 0)) from alloc2_new w5 _ _)
                  have B2x := Aside0.mk (show ((w5.alloc (.cells #[encT (t0, t1, t2)] 27)).alloc (.cells #[] 27)).drew.heap[w5.heap.size]? = some (.cells #[encT (t0, t1, t2)] 27 (0, 0)) from blk_alloc (heap_alloc_new w5 _) _)
                  have hi0 : (0 : Int) ≤ (i : Int) := by omega
                  have hi1 : (i : Int) < (ts.length : Int) := by have h1 := HLI.out; omega
                  go_region_held3 (fun w' => w'.cell? (ad.add i) = some (.slice t0 t2.length t1)) (first | exact hxp | exact hxp1 | exact hxp2 | exact hxp3 | exact (Below.cell (below_alloc (Below.refl _ _) _) (by have h1 := HB1.out.size; have h2 := HXL.out; omega)).trans hxp1 | go_keep) (first | ((refine RT_app_step (w0 := w5) w5.heap.size rfl (.tmp 70) (.tmp 73) rfl (.slice (some ⟨w5.heap.size, 0, none⟩) 0 0) [] (out.take k) (some ⟨g, 0, none⟩) k c3 ?hs_ ?hx_ (RT_lit_of ?hb_ ?hbb_) (Kd.C_below HCT.out ?hB2_) ?hB_ ?hz_ ?hl_ ?_); (case hs_ => rfl); (case hx_ => first | rfl | (simp [Act.eval, Act.put]; done)); (case hb_ => first | exact B0.out | exact B1.out | exact B2.out); (case hbb_ => omega); (case hB2_ => repeat (first | exact Below.refl _ _ | apply below_drew1 | apply below_alloc)); (case hB_ => repeat (first | exact Below.refl _ _ | apply below_drew1 | apply below_alloc)); (case hz_ => simp <;> omega); (case hl_ => have h1 := HLE.out; simp; omega); intro v1 w1 hn_ hb_ hg_ hat_; have HN1 := Aside0.mk hn_; have HB1 := Aside0.mk hb_; (first | have HX1_ := Aside0.mk (blk_grown B1x.out hg_ (by simp [Value.ownBlock])) | have HX1_ := Aside0.mk (blk_grown B2x.out hg_ (by simp [Value.ownBlock])) | skip); have hxp1 := (hb_.cell HXL.out).trans HXC.out; clear hn_ hb_ hg_ hat_) | ((refine RT_app_step (w0 := w5) w5.heap.size rfl (.tmp 70) (.tmp 73) rfl (.slice (some ⟨w5.heap.size + 1, 0, none⟩) 0 0) [] (out.take k) (some ⟨g, 0, none⟩) k c3 ?hs_ ?hx_ (RT_lit_of ?hb_ ?hbb_) (Kd.C_below HCT.out ?hB2_) ?hB_ ?hz_ ?hl_ ?_); (case hs_ => rfl); (case hx_ => first | rfl | (simp [Act.eval, Act.put]; done)); (case hb_ => first | exact B0.out | exact B1.out | exact B2.out); (case hbb_ => omega); (case hB2_ => repeat (first | exact Below.refl _ _ | apply below_drew1 | apply below_alloc)); (case hB_ => repeat (first | exact Below.refl _ _ | apply below_drew1 | apply below_alloc)); (case hz_ => simp <;> omega); (case hl_ => have h1 := HLE.out; simp; omega); intro v1 w1 hn_ hb_ hg_ hat_; have HN1 := Aside0.mk hn_; have HB1 := Aside0.mk hb_; (first | have HX1_ := Aside0.mk (blk_grown B1x.out hg_ (by simp [Value.ownBlock])) | have HX1_ := Aside0.mk (blk_grown B2x.out hg_ (by simp [Value.ownBlock])) | skip); have hxp1 := (hb_.cell HXL.out).trans HXC.out; clear hn_ hb_ hg_ hat_) | ((refine RT_app_step (w0 := w5) w5.heap.size rfl (.tmp 80) (.tmp 83) rfl v2 (([] ++ out.take k) ++ [(t0, t1, t2)]) (out.drop k) A5 (out.length - k) (c3 - k) ?hs_ ?hx_ HN2.out (Kd.C_below HCD.out HB2.out) HB2.out HB2.out.size ?hl_ ?_); (case hs_ => rfl); (case hx_ => first | rfl | (simp [Act.eval, Act.put]; done)); (case hl_ => have h1 := HLE.out; simp; omega); intro v3 w3 hn_ hb_ hg_ hat_; have HN3 := Aside0.mk hn_; have HB3 := Aside0.mk hb_; have hxp3 := (hb_.cell HXL.out).trans HXC.out; clear hn_ hb_ hg_ hat_) | ((refine RT_app_step (w0 := w5) w5.heap.size rfl (.tmp 74) (.tmp 79) rfl v1 ([] ++ out.take k) [(t0, t1, t2)] (some ⟨w1.heap.size, 0, none⟩) 1 1 ?hs_ ?hx_ ?hr_ (CT_one_of ?hb_) ?hB_ ?hz_ ?hl_ ?_); (case hs_ => rfl); (case hx_ => rfl); (case hr_ => first | exact HN1.out | exact Kd.R_alloc HN1.out _); (case hb_ => first | exact heap_alloc_new w1 _ | exact HX1_.out); (case hB_ => first | exact HB1.out | exact below_alloc HB1.out _); (case hz_ => have h1 := HB1.out.size; first | exact h1 | (simp; omega)); (case hl_ => have h1 := HLE.out; simp; omega); intro v2 w2 hn_ hb_ hg_ hat_; have HN2 := Aside0.mk hn_; have HB2 := Aside0.mk hb_; have hxp2 := (hb_.cell HXL.out).trans HXC.out; clear hn_ hb_ hg_ hat_) | ((refine RT_app_step (w0 := w5) w5.heap.size rfl (.tmp 74) (.tmp 79) rfl v1 ([] ++ out.take k) [(t0, t1, t2)] (some ⟨w5.heap.size + 1, 0, none⟩) 1 1 ?hs_ ?hx_ ?hr_ (CT_one_of ?hb_) ?hB_ ?hz_ ?hl_ ?_); (case hs_ => rfl); (case hx_ => rfl); (case hr_ => first | exact HN1.out | exact Kd.R_alloc HN1.out _); (case hb_ => first | exact heap_alloc_new w1 _ | exact HX1_.out); (case hB_ => first | exact HB1.out | exact below_alloc HB1.out _); (case hz_ => have h1 := HB1.out.size; first | exact h1 | (simp; omega)); (case hl_ => have h1 := HLE.out; simp; omega); intro v2 w2 hn_ hb_ hg_ hat_; have HN2 := Aside0.mk hn_; have HB2 := Aside0.mk hb_; have hxp2 := (hb_.cell HXL.out).trans HXC.out; clear hn_ hb_ hg_ hat_) | ((refine RT_app_step (w0 := w5) w5.heap.size rfl (.tmp 74) (.tmp 79) rfl v1 ([] ++ out.take k) [(t0, t1, t2)] (some ⟨w5.heap.size, 0, none⟩) 1 1 ?hs_ ?hx_ ?hr_ (CT_one_of ?hb_) ?hB_ ?hz_ ?hl_ ?_); (case hs_ => rfl); (case hx_ => rfl); (case hr_ => first | exact HN1.out | exact Kd.R_alloc HN1.out _); (case hb_ => first | exact heap_alloc_new w1 _ | exact HX1_.out); (case hB_ => first | exact HB1.out | exact below_alloc HB1.out _); (case hz_ => have h1 := HB1.out.size; first | exact h1 | (simp; omega)); (case hl_ => have h1 := HLE.out; simp; omega); intro v2 w2 hn_ hb_ hg_ hat_; have HN2 := Aside0.mk hn_; have HB2 := Aside0.mk hb_; have hxp2 := (hb_.cell HXL.out).trans HXC.out; clear hn_ hb_ hg_ hat_))
                  all_goals
                    go_wp2
                    go_roundw
                    case rel =>
                      have hfo : ((([] ++ out.take k) ++ [(t0, t1, t2)]) ++ out.drop k : List HD) = refTo ts (i + 1) := by rw [HSU.out, if_pos HKP.out]; unfold insT; rw [HPOS.out]; rfl
                      have h3 := Kd.R_lower HN3.out HB5.out.size
                      rw [hfo] at h3
                      obtain ⟨g9, c9, e9, _⟩ := Kd.R_form h3 (by rw [← hfo]; simp; omega)
                      rw [e9] at h3
                      exact ⟨i + 1, g9, c9, by have h1 := HLI.out; omega, by go_num, by rw [e9], ⟨h3⟩, ⟨below_step HB5.out HB3.out⟩⟩
                    case measure => have h1 := HLI.out; simp [intOf]; omega
              · have hktb : decide ((k : Int) < (out.length : Int)) = false := decide_eq_false (by omega)
                have HPOS : Aside0 (posT out (t0, t1, t2) = k) := ⟨posT_at out (t0, t1, t2) k hk HAL.out (fun x hx => by have := (List.getElem?_eq_some_iff.1 hx).1; omega)⟩
                go_wp2
                go_quiet (fail)
                go_wp2
                clear hktb hkt
                have HB5 : Aside0 (Below w.heap.size w (wr.drewN nq)) := ⟨by rw [HE.out]; exact pw_below_drewN (pw_below_drewN HB.out mm) nq⟩
                have HO5 : Aside0 (Kd.R KT 27 (wr.drewN nq) w.heap.size (fun _ => True) (.slice (some ⟨g, 0, none⟩) out.length c3) out) := ⟨by rw [HE.out]; exact Kd.R_drewN (Kd.R_drewN HO.out mm) nq⟩
                have hxp : (wr.drewN nq).cell? (ad.add i) = some (.slice t0 t2.length t1) := by rw [HE.out]; exact pw_cell_below HB.out HX1.out
                generalize wr.drewN nq = w5 at HB5 HO5 hxp ⊢
                have HXC := Aside0.mk hxp
                have hjc := (Kd.R_reads' HO5.out).2.1
                have hcutT := cut_to (P := Try.prog) 24 27 .i64 Try.underlying24 HI3.out (some ⟨g, 0, none⟩) out.length c3 (k : Int) (by omega) (by omega) hjc
                have hcutF := cut_from (P := Try.prog) 24 27 .i64 Try.underlying24 HI3.out 1 HI4.out (some ⟨g, 0, none⟩) out.length c3 (k : Int) (by omega) (by omega)
                rw [Int.toNat_natCast] at hcutT hcutF
                have hR := (Kd.R_reads' HO5.out).2.2
                have HCT := Aside0.mk (show Kd.C KT w5 (some ⟨g, 0, none⟩) k (out.take k) from by have h_ := Kd.C_take hR (m := k) hk; rw [List.length_take, Nat.min_eq_left hk] at h_; exact h_)
                have hD := Kd.C_drop hR (m := k) (c := c3) hk hjc
                obtain ⟨A5, hA5⟩ : ∃ A_ : Option Addr, (if c3 = k then some (⟨g, 0, none⟩ : Addr) else (some (⟨g, 0, none⟩ : Addr)).map (·.add (k * 1))) = A_ := ⟨_, rfl⟩
                rw [show KT.sz = 1 from rfl, hA5, List.length_drop] at hD
                rw [hA5] at hcutF
                have HCD := Aside0.mk hD
                have HLE : Aside0 (k ≤ out.length ∧ out.length ≤ c3 ∧ out.length < 100000) := ⟨hk, hjc, by have h1 := HOL.out; omega⟩
                clear hA5 hR hD
                have HXL := Aside0.mk (World.block_lt_of_cell? w5 _ hxp)
                have B0 := Aside0.mk (show (w5.alloc (.cells #[] 27)).drew.heap[w5.heap.size]? = some (.cells #[] 27 (0, 0)) from heap_alloc_new w5 _)
                have B1 := Aside0.mk (show ((w5.alloc (.cells #[] 27)).alloc (.cells #[encT (t0, t1, t2)] 27)).drew.heap[w5.heap.size]? = some (.cells #[] 27 (0, 0)) from blk_alloc (heap_alloc_new w5 _) _)
                have B1x := Aside0.mk (show ((w5.alloc (.cells #[] 27)).alloc (.cells #[encT (t0, t1, t2)] 27)).drew.heap[w5.heap.size + 1]? = some (.cells #[encT (t0, t1, t2)] 27 (0, 0)) from alloc2_new w5 _ _)
                have B2 := Aside0.mk (show ((w5.alloc (.cells #[encT (t0, t1, t2)] 27)).alloc (.cells #[] 27)).drew.heap[w5.heap.size + 1]? = some (.cells #[] 27 (0, 0)) from alloc2_new w5 _ _)
                have B2x := Aside0.mk (show ((w5.alloc (.cells #[encT (t0, t1, t2)] 27)).alloc (.cells #[] 27)).drew.heap[w5.heap.size]? = some (.cells #[encT (t0, t1, t2)] 27 (0, 0)) from blk_alloc (heap_alloc_new w5 _) _)
                have hi0 : (0 : Int) ≤ (i : Int) := by omega
                have hi1 : (i : Int) < (ts.length : Int) := by have h1 := HLI.out; omega
                go_region_held3 (fun w' => w'.cell? (ad.add i) = some (.slice t0 t2.length t1)) (first | exact hxp | exact hxp1 | exact hxp2 | exact hxp3 | exact (Below.cell (below_alloc (Below.refl _ _) _) (by have h1 := HB1.out.size; have h2 := HXL.out; omega)).trans hxp1 | go_keep) (first | ((refine RT_app_step (w0 := w5) w5.heap.size rfl (.tmp 70) (.tmp 73) rfl (.slice (some ⟨w5.heap.size, 0, none⟩) 0 0) [] (out.take k) (some ⟨g, 0, none⟩) k c3 ?hs_ ?hx_ (RT_lit_of ?hb_ ?hbb_) (Kd.C_below HCT.out ?hB2_) ?hB_ ?hz_ ?hl_ ?_); (case hs_ => rfl); (case hx_ => first | rfl | (simp [Act.eval, Act.put]; done)); (case hb_ => first | exact B0.out | exact B1.out | exact B2.out); (case hbb_ => omega); (case hB2_ => repeat (first | exact Below.refl _ _ | apply below_drew1 | apply below_alloc)); (case hB_ => repeat (first | exact Below.refl _ _ | apply below_drew1 | apply below_alloc)); (case hz_ => simp <;> omega); (case hl_ => have h1 := HLE.out; simp; omega); intro v1 w1 hn_ hb_ hg_ hat_; have HN1 := Aside0.mk hn_; have HB1 := Aside0.mk hb_; (first | have HX1_ := Aside0.mk (blk_grown B1x.out hg_ (by simp [Value.ownBlock])) | have HX1_ := Aside0.mk (blk_grown B2x.out hg_ (by simp [Value.ownBlock])) | skip); have hxp1 := (hb_.cell HXL.out).trans HXC.out; clear hn_ hb_ hg_ hat_) | ((refine RT_app_step (w0 := w5) w5.heap.size rfl (.tmp 70) (.tmp 73) rfl (.slice (some ⟨w5.heap.size + 1, 0, none⟩) 0 0) [] (out.take k) (some ⟨g, 0, none⟩) k c3 ?hs_ ?hx_ (RT_lit_of ?hb_ ?hbb_) (Kd.C_below HCT.out ?hB2_) ?hB_ ?hz_ ?hl_ ?_); (case hs_ => rfl); (case hx_ => first | rfl | (simp [Act.eval, Act.put]; done)); (case hb_ => first | exact B0.out | exact B1.out | exact B2.out); (case hbb_ => omega); (case hB2_ => repeat (first | exact Below.refl _ _ | apply below_drew1 | apply below_alloc)); (case hB_ => repeat (first | exact Below.refl _ _ | apply below_drew1 | apply below_alloc)); (case hz_ => simp <;> omega); (case hl_ => have h1 := HLE.out; simp; omega); intro v1 w1 hn_ hb_ hg_ hat_; have HN1 := Aside0.mk hn_; have HB1 := Aside0.mk hb_; (first | have HX1_ := Aside0.mk (blk_grown B1x.out hg_ (by simp [Value.ownBlock])) | have HX1_ := Aside0.mk (blk_grown B2x.out hg_ (by simp [Value.ownBlock])) | skip); have hxp1 := (hb_.cell HXL.out).trans HXC.out; clear hn_ hb_ hg_ hat_) | ((refine RT_app_step (w0 := w5) w5.heap.size rfl (.tmp 80) (.tmp 83) rfl v2 (([] ++ out.take k) ++ [(t0, t1, t2)]) (out.drop k) A5 (out.length - k) (c3 - k) ?hs_ ?hx_ HN2.out (Kd.C_below HCD.out HB2.out) HB2.out HB2.out.size ?hl_ ?_); (case hs_ => rfl); (case hx_ => first | rfl | (simp [Act.eval, Act.put]; done)); (case hl_ => have h1 := HLE.out; simp; omega); intro v3 w3 hn_ hb_ hg_ hat_; have HN3 := Aside0.mk hn_; have HB3 := Aside0.mk hb_; have hxp3 := (hb_.cell HXL.out).trans HXC.out; clear hn_ hb_ hg_ hat_) | ((refine RT_app_step (w0 := w5) w5.heap.size rfl (.tmp 74) (.tmp 79) rfl v1 ([] ++ out.take k) [(t0, t1, t2)] (some ⟨w1.heap.size, 0, none⟩) 1 1 ?hs_ ?hx_ ?hr_ (CT_one_of ?hb_) ?hB_ ?hz_ ?hl_ ?_); (case hs_ => rfl); (case hx_ => rfl); (case hr_ => first | exact HN1.out | exact Kd.R_alloc HN1.out _); (case hb_ => first | exact heap_alloc_new w1 _ | exact HX1_.out); (case hB_ => first | exact HB1.out | exact below_alloc HB1.out _); (case hz_ => have h1 := HB1.out.size; first | exact h1 | (simp; omega)); (case hl_ => have h1 := HLE.out; simp; omega); intro v2 w2 hn_ hb_ hg_ hat_; have HN2 := Aside0.mk hn_; have HB2 := Aside0.mk hb_; have hxp2 := (hb_.cell HXL.out).trans HXC.out; clear hn_ hb_ hg_ hat_) | ((refine RT_app_step (w0 := w5) w5.heap.size rfl (.tmp 74) (.tmp 79) rfl v1 ([] ++ out.take k) [(t0, t1, t2)] (some ⟨w5.heap.size + 1, 0, none⟩) 1 1 ?hs_ ?hx_ ?hr_ (CT_one_of ?hb_) ?hB_ ?hz_ ?hl_ ?_); (case hs_ => rfl); (case hx_ => rfl); (case hr_ => first | exact HN1.out | exact Kd.R_alloc HN1.out _); (case hb_ => first | exact heap_alloc_new w1 _ | exact HX1_.out); (case hB_ => first | exact HB1.out | exact below_alloc HB1.out _); (case hz_ => have h1 := HB1.out.size; first | exact h1 | (simp; omega)); (case hl_ => have h1 := HLE.out; simp; omega); intro v2 w2 hn_ hb_ hg_ hat_; have HN2 := Aside0.mk hn_; have HB2 := Aside0.mk hb_; have hxp2 := (hb_.cell HXL.out).trans HXC.out; clear hn_ hb_ hg_ hat_) | ((refine RT_app_step (w0 := w5) w5.heap.size rfl (.tmp 74) (.tmp 79) rfl v1 ([] ++ out.take k) [(t0, t1, t2)] (some ⟨w5.heap.size, 0, none⟩) 1 1 ?hs_ ?hx_ ?hr_ (CT_one_of ?hb_) ?hB_ ?hz_ ?hl_ ?_); (case hs_ => rfl); (case hx_ => rfl); (case hr_ => first | exact HN1.out | exact Kd.R_alloc HN1.out _); (case hb_ => first | exact heap_alloc_new w1 _ | exact HX1_.out); (case hB_ => first | exact HB1.out | exact below_alloc HB1.out _); (case hz_ => have h1 := HB1.out.size; first | exact h1 | (simp; omega)); (case hl_ => have h1 := HLE.out; simp; omega); intro v2 w2 hn_ hb_ hg_ hat_; have HN2 := Aside0.mk hn_; have HB2 := Aside0.mk hb_; have hxp2 := (hb_.cell HXL.out).trans HXC.out; clear hn_ hb_ hg_ hat_))
                all_goals
                  go_wp2
                  go_roundw
                  case rel =>
                    have hfo : ((([] ++ out.take k) ++ [(t0, t1, t2)]) ++ out.drop k : List HD) = refTo ts (i + 1) := by rw [HSU.out, if_pos HKP.out]; unfold insT; rw [HPOS.out]; rfl
                    have h3 := Kd.R_lower HN3.out HB5.out.size
                    rw [hfo] at h3
                    obtain ⟨g9, c9, e9, _⟩ := Kd.R_form h3 (by rw [← hfo]; simp; omega)
                    rw [e9] at h3
                    exact ⟨i + 1, g9, c9, by have h1 := HLI.out; omega, by go_num, by rw [e9], ⟨h3⟩, ⟨below_step HB5.out HB3.out⟩⟩
                  case measure => have h1 := HLI.out; simp [intOf]; omega
    · have hltb : decide ((i : Int) < (ts.length : Int)) = false := decide_eq_false (by omega)
      obtain rfl : i = ts.length := by omega
      go_wp2
      go_ret
      exact ⟨_, rfl, HO.out, HB.out⟩
/-- The reference's minimal generators. -/
theorem refMin_calls (A : Option Addr) (c n : Nat) (xs : List (List Int)) (w : World) (hr : Kd.C KL w A xs.length xs) (hln : ∀ x ∈ xs, x.length = n) (hn : n < 1000000) (hl : xs.length < 100000) :
    ∃ ts : List HD, ts.map (fun t => t.2.2) = xs ∧ Calls Try.prog 23 #[.slice A xs.length c] w fun e w' => ∃ A1 c1, e = .returned (.slice A1 ((refTo ts ts.length).map (fun t => t.2.2)).length c1) ∧ ((refTo ts ts.length).map (fun t => t.2.2)).length ≤ c1 ∧ Kd.C KL w' A1 ((refTo ts ts.length).map (fun t => t.2.2)).length ((refTo ts ts.length).map (fun t => t.2.2)) ∧ Below w.heap.size w w' := by
  obtain ⟨ts, h1, h2, h3⟩ := heads_of hr (fun x hx => by rw [hln x hx]; exact hn)
  have hlen : ts.length = xs.length := by rw [← h1, List.length_map]
  refine ⟨ts, h1, ?_⟩
  have h := refMin_walk A c n ts w h3 h2 (fun t ht => hln _ (by rw [← h1]; exact List.mem_map_of_mem ht)) (by omega)
  rw [hlen] at h ⊢
  refine h.mono ?_
  rintro e w' ⟨v, rfl, ho, hb⟩
  obtain ⟨A1, c1, e, hc, hC⟩ := Kd.R_reads ho
  subst e
  refine ⟨A1, c1, by rw [List.length_map], by rw [List.length_map]; exact hc, ?_, hb⟩
  exact C_of_heads hC (fun t ht => (h2 t (refTo_mem ts xs.length (by omega) t ht)).below hb)
end Go.Proofs.Ytmekcfkfkpbfeaa.H
