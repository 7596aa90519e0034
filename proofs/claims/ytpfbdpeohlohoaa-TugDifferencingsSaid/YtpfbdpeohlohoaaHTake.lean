/- The walk of woggleref05.take: the item with the greatest value, and the others in their order. Condition: at most 1000 items (else the function says none). -/
import Derived.Test.YtpfbdpeohlohoaaGd0
import Derived.Test.YtpfbdpeohlohoaaHClone
import Derived.BigRegion
import Derived.BigQuiet
import Derived.Deep.RegionHeld3
import Derived.Outline
namespace Go.Proofs.Ytpfbdpeohlohoaa.H
open Go.Proofs.Ytpfbdpeohlohoaa.Ga Go.Proofs.Ytpfbdpeohlohoaa.Gd
open Go.RowKit Go.Proofs.YtpfbdpeohlohoaaW.PrintWords Go.Proofs.YtpfbdpeohlohoaaW.PrintLast Go.Proofs.YtpfbdpeohlohoaaW.PrintMore
attribute [local go_sem] max2_int min2_int max_two min_two max_three min_three max_four min_four
set_option linter.unusedVariables false
set_option linter.unusedSimpArgs false
def take.l0 (x0 : List S71) : Nat → Int → Int → Option (Int × List Int × List S71)
  | 0, _, _ => none
  | k + 1, x4, x5 => if 0 ≤ x4 ∧ x4 < (x0.length : Int) ∧ 0 ≤ x5 then (if x5 < (x0.length : Int) then (if (rd_T71 x0 x5).f0 > (rd_T71 x0 x4).f0 then take.l0 x0 k x5 (wrap64 (x5 + 1)) else take.l0 x0 k x4 (wrap64 (x5 + 1))) else some ((rd_T71 x0 x4).f0, (rd_T71 x0 x4).f1, x0.take x4.toNat ++ x0.drop (x4.toNat + 1))) else none
def ref_take.f (k : Nat) (l0 : List S71) : Option (Int × List Int × List S71) := if l0.length < 1000 then take.l0 l0 k 0 1 else none
theorem take.mono_l (x0 : List S71) : ∀ k y0 y1, LeO (take.l0 x0 k y0 y1) (take.l0 x0 (k + 1) y0 y1)
  | 0 => fun _ _ r h => by simp [take.l0] at h
  | k + 1 => by
    have ih0 := take.mono_l x0 k
    intro y0 y1
    unfold take.l0
    repeat' first
      | (with_reducible exact ih0 _ _)
      | (with_reducible exact LeO.refl _)
      | (with_reducible exact LeO.none _)
      | (with_reducible refine LeO.ite ?_ ?_)
theorem ref_take.mono : ∀ a0 k, LeO (ref_take.f k a0) (ref_take.f (k + 1) a0) := by
  intro a0 k
  unfold ref_take.f
  exact LeO.ite (take.mono_l _ _ _ _) (LeO.refl _)
/-- An empty row of the call's own. -/
theorem N_empty {w W : World} {P : Nat → Prop} (base : Nat) (o : Obj) (ho : o = .cells #[] 71 (0, 0)) (hP : P W.heap.size) (hb : base ≤ W.heap.size) : Kd.N k71 71 (W.alloc o) base P (.slice (some ⟨W.heap.size, 0, none⟩) 0 0) [] := by
  subst ho
  refine ⟨fun k hk => ?_, [], rfl, ?_, fun j x c hx => by simp at hx⟩
  · have : W.heap.size = k := by simpa [Value.ownBlock] using hk
    subst this
    exact hP
  · refine ⟨fun k hk => hk.symm, [], ⟨by simp, .inr ⟨W.heap.size, 0, #[], rfl, hb, heap_alloc_new W _, Nat.le_refl _, Nat.zero_le _, by simp, by simp⟩⟩, Reps.none _ _⟩
theorem cell_grown {w w1 : World} {row : Option Nat} {a : Addr} (hg : w.grownBy w1 row) (hne : some a.block ≠ row) (hlt : a.block < w.heap.size) : w1.cell? a = w.cell? a := World.cell?_of_block (hg.block a.block hlt hne)
section
variable {ops : Array Oper} {o : Oper} {a : Act} {W : World}
theorem N_app_step {K : Act → World → Prop} {Q : Exit → Act → World → Prop} {E : Prop} {w0 : World} (base : Nat) (hg : o.guard = none) (s x : Operand)
    (ho : o.op = .call { callee := .builtin .append, args := #[s, x], argTypes := #[69, 69] })
    (v : Value) (xs ys : List S71) (A : Option Addr) (m c : Nat) (ok okp : Nat → Prop) (hs : a.eval s = v) (hx : a.eval x = .slice A m c)
    (HO : Kd.N k71 71 W base ok v xs) (HR : Kd.F k71 W okp A m ys) (hokp : ∀ k, okp k → ok k ∧ some k ≠ v.ownBlock) (hfresh : ∀ k, W.heap.size ≤ k → ok k)
    (HB : Below base w0 W) (hbase : base ≤ W.heap.size) (hl : (xs.length + m) * 32 ≤ 140737488355328)
    (h : ∀ v1 w1, Kd.N k71 71 w1 base ok v1 (xs ++ ys) → Below base w0 w1 → W.grownBy w1 v.ownBlock → (v1.ownBlock = v.ownBlock ∨ ∃ b, v1.ownBlock = some b ∧ W.heap.size ≤ b) → K (a.put o.dst v1) w1) :
    if Region.wanted o (yielded ops a.tmps) = true then Oper.wp Try.prog o a W K Q else E := by
  have hw : Region.wanted o (yielded ops a.tmps) = true := by simp [Region.wanted, hg]
  have h1 := Kd.N_append_rows_step (P := Try.prog) (Q := Q) k71 base hw s x 69 71 _ 32 ho Try.underlying69 Gd.info71 rfl (by decide) (by decide) v xs ys A m c ok okp hs hx HO HR hokp hfresh HB hbase hl h
  rw [if_pos hw] at h1 ⊢
  exact h1
end
set_option maxHeartbeats 8000000 in
set_option maxRecDepth 100000 in
theorem ref_take.calls (k : Nat) (P : Nat → Prop) (A0 : Option Addr) (c0 : Nat) (l0 : List S71) (r1 : Int) (r2 : List Int) (r3 : List S71) (w : World) (hs0 : Kd.V k71 71 w w.heap.size P (.slice A0 l0.length c0) l0) (h : ref_take.f k l0 = some (r1, r2, r3)) :
    Calls Try.prog 49 #[.slice A0 l0.length c0] w fun e w' => ∃ v1_ v2_ : Value, e = .returned (.tuple #[.agg #[.int .i64 r1, v1_], v2_]) ∧ Kd.V (Kd.int .i64) 3 w' w.heap.size (fun k_ => (P k_ ∨ w.heap.size ≤ k_) ∧ some k_ ≠ (v2_ : Value).ownBlock) v1_ r2 ∧ Kd.N k71 71 w' w.heap.size (fun k_ => P k_ ∨ w.heap.size ≤ k_) v2_ r3 ∧ Below w.heap.size w w' := by
  have HS0 := Aside0.mk hs0
  clear hs0
  obtain ⟨i71, hi71, hz71⟩ := Option.map_eq_some_iff.1 Gd.info71
  simp only [Prod.mk.injEq] at hz71
  have HI71 := Aside0.mk hi71
  have HI72 := Aside0.mk hz71.2.1
  clear hi71 hz71
  unfold ref_take.f at h
  by_cases c1 : l0.length < 1000
  · rw [if_pos c1] at h
    have HL0 := Aside0.mk c1
    have H' := Aside0.mk h
    clear h c1
    go_enter Try.func49, Try.ntmps49
    go_wp2
    have HB := Aside0.mk (below_alloc (Below.refl w.heap.size w) (.cells #[.int .i64 0, .slice none 0 0] 71))
    have HT := Aside0.mk (heap_alloc_new w (.cells #[.int .i64 0, .slice none 0 0] 71))
    go_loopg [4, 5] k (fun kq v4 v5 w' => ∃ (x4 x5 : Int), v4 = .int .i64 x4 ∧ v5 = .int .i64 x5 ∧ Aside0 (take.l0 l0 kq x4 x5 = some (r1, r2, r3)) ∧ Aside0 (kq ≤ k) ∧ Aside0 (Below w.heap.size w w') ∧ Aside0 (w'.heap[w.heap.size]? = some (.cells #[.int .i64 0, .slice none 0 0] 71 (0, 0))))
    case atStart => exact ⟨0, 1, rfl, rfl, H', ⟨Nat.le_refl _⟩, HB, HT⟩
    case round =>
      clear H' HB HT
      obtain ⟨x4, x5, rfl, rfl, HA, HK1, HB, HT⟩ := hrel
      cases gk with
      | zero => exact absurd HA.out (by simp [take.l0])
      | succ k1 =>
        have H := HA.out
        clear HA
        simp only [take.l0] at H
        by_cases c2 : 0 ≤ x4 ∧ x4 < (l0.length : Int) ∧ 0 ≤ x5
        · rw [if_pos c2] at H
          obtain ⟨p1, p2, p3⟩ := c2
          have hlen := HL0.out
          by_cases c3 : x5 < (l0.length : Int)
          · rw [if_pos c3] at H
            have c3b : decide (x5 < (l0.length : Int)) = true := decide_eq_true c3
            obtain ⟨ad, A1, c1, e1, q1, _⟩ := at_T71 (Kd.V_reads' (Kd.V_below HS0.out HB.out)).2.2 x4 p1 p2
            obtain ⟨ad2, A2, c2, e2, q2, _⟩ := at_T71 (Kd.V_reads' (Kd.V_below HS0.out HB.out)).2.2 x5 p3 c3
            subst e1
            obtain rfl := Option.some.inj e2
            obtain ⟨f4, hf4⟩ : ∃ f_ : Int, (rd_T71 l0 x4).f0 = f_ := ⟨_, rfl⟩
            obtain ⟨f5, hf5⟩ : ∃ f_ : Int, (rd_T71 l0 x5).f0 = f_ := ⟨_, rfl⟩
            rw [hf4] at q1
            rw [hf5] at q2
            rw [hf4, hf5] at H
            clear hf4 hf5 e2
            by_cases c4 : f5 > f4
            · rw [if_pos c4] at H
              have c4b : decide (f4 < f5) = true := decide_eq_true c4
              have H' := Aside0.mk H
              clear H c4
              go_wp2
              go_quiet (fail)
              go_wp2
              go_roundg k1
              case measure => have := HK1.out; omega
              case rel => exact ⟨x5, wrap64 (x5 + 1), rfl, (by rw [show wrap64 (x5 + 1) = x5 + 1 from by unfold wrap64; omega]), H', ⟨by have := HK1.out; omega⟩, ⟨pw_below_drewN HB.out _⟩, ⟨HT.out⟩⟩
            · rw [if_neg c4] at H
              have c4b : decide (f4 < f5) = false := decide_eq_false c4
              have H' := Aside0.mk H
              clear H c4
              go_wp2
              go_quiet (fail)
              go_wp2
              go_roundg k1
              case measure => have := HK1.out; omega
              case rel => exact ⟨x4, wrap64 (x5 + 1), rfl, (by rw [show wrap64 (x5 + 1) = x5 + 1 from by unfold wrap64; omega]), H', ⟨by have := HK1.out; omega⟩, ⟨pw_below_drewN HB.out _⟩, ⟨HT.out⟩⟩
          · rw [if_neg c3] at H
            have c3b : decide (x5 < (l0.length : Int)) = false := decide_eq_false c3
            simp only [Option.some.injEq, Prod.mk.injEq] at H
            obtain ⟨rfl, rfl, rfl⟩ := H
            obtain ⟨n4, rfl⟩ : ∃ n : Nat, x4 = (n : Int) := ⟨x4.toNat, by omega⟩
            have HSB := Aside0.mk (Kd.V_bound HS0.out)
            have HV := Aside0.mk (Kd.V_below HSB.out HB.out)
            obtain ⟨ad, cs, e1, hcl, hfk, hcc0, hpa⟩ := Kd.F_get (Kd.V_F HSB.out) z71 (n4 : Int) p1 p2
            have hcc : ∀ j u, cs[j]? = some u → wr.cell? (ad.add ((n4 : Int).toNat * k71.sz + j)) = some u := fun j u hu => (HB.out.cell (World.block_lt_of_cell? w _ (hcc0 j u hu))).trans (hcc0 j u hu)
            subst e1
            obtain ⟨A1, c1, rfl, hl1, hF1⟩ := k71_openF hfk
            have q0 := hcc 0 _ rfl
            have q1 := hcc 1 _ rfl
            have hx : l0.getD (n4 : Int).toNat z71 = rd_T71 l0 (n4 : Int) := rfl
            rw [hx] at q0 q1 hl1 hF1
            rw [Int.toNat_natCast, show k71.sz = 2 from rfl, Nat.add_zero] at q0
            rw [Int.toNat_natCast, show k71.sz = 2 from rfl] at q1
            rw [add_field _ _ 1 (by omega)] at q1
            obtain ⟨it, hit⟩ : ∃ i_, rd_T71 l0 (n4 : Int) = i_ := ⟨_, rfl⟩
            rw [hit] at q0 q1 hl1 hF1
            have HF1 := Aside0.mk hF1
            have HPA := Aside0.mk (hpa (by decide)).1
            have HL1 := Aside0.mk hl1
            have HVF := HV
            have HWL := Aside0.mk (blk_lt HT.out)
            clear hfk hcc hcc0 hF1 hpa hx hcl hl1
            have hn4 : n4 < l0.length := by omega
            have hn5 : n4 + 1 ≤ l0.length := by omega
            have hn6 : (n4 : Int) ≤ (l0.length : Int) := by omega
            have hn7 : (n4 : Int) + 1 ≤ (l0.length : Int) := by omega
            have hadl := World.block_lt_of_cell? wr _ q0
            have HAD := Aside0.mk hadl
            have hlc := (Kd.V_at HV.out).2.1
            have hlc2 : (l0.length : Int) ≤ (c0 : Int) := by omega
            go_wp2
            have HF0 := Aside0.mk (Kd.F_take (Kd.V_F HVF.out) (show n4 ≤ l0.length from Nat.le_of_lt hn4))
            have HFD := Aside0.mk (Kd.F_cut (Kd.V_F HVF.out) hn5 hlc)
            have HNE := Aside0.mk (N_empty (w := w) (W := wr) (P := fun k_ => (P k_ ∧ k_ < w.heap.size) ∨ w.heap.size < k_) w.heap.size (.cells #[] 71) rfl (.inr HWL.out) HB.out.size)
            have hcutT := cut_to (P := Try.prog) 69 71 .i64 Try.underlying69 HI71.out (some ad) l0.length c0 (n4 : Int) p1 (by omega) hlc
            have hcutF := cut_from (P := Try.prog) 69 71 .i64 Try.underlying69 HI71.out 2 HI72.out (some ad) l0.length c0 ((n4 : Int) + 1) (by omega) (by omega)
            rw [Int.toNat_natCast] at hcutT
            rw [show ((n4 : Int) + 1).toNat = n4 + 1 by omega] at hcutF
            have HFD2 := HFD.out
            obtain ⟨A5, hA5⟩ : ∃ A_ : Option Addr, (if c0 = n4 + 1 then some ad else (some ad).map (·.add ((n4 + 1) * 2))) = A_ := ⟨_, rfl⟩
            rw [show k71.sz = 2 from rfl, hA5] at HFD2
            rw [hA5] at hcutF
            have HFD3 := Aside0.mk HFD2
            have z1 : IntKind.i64.wrap ((n4 : Int) + 1) = (n4 : Int) + 1 := IntWalk.i64_in _ (by omega)
            have z2 : (0 : Int) ≤ (n4 : Int) + 1 := by omega
            clear hA5 HFD2 HFD
            have HSZ := Aside0.mk (show (wr.alloc (.cells #[] 71)).drew.heap.size = wr.heap.size + 1 from by show (wr.alloc (.cells #[] 71)).heap.size = _; simp)
            have H0R := Aside0.mk (show Kd.F k71 (wr.alloc (.cells #[] 71)).drew (fun k_ => P k_ ∧ k_ < w.heap.size) (some ad) n4 (l0.take n4) from by have h_ := Kd.F_drew (Kd.F_alloc HF0.out (.cells #[] 71)); rw [List.length_take, Nat.min_eq_left (Nat.le_of_lt hn4)] at h_; exact h_)
            have H0O := Aside0.mk (show ∀ k_, (P k_ ∧ k_ < w.heap.size) → ((P k_ ∧ k_ < w.heap.size) ∨ w.heap.size < k_) ∧ some k_ ≠ (Value.slice (some ⟨wr.heap.size, 0, none⟩) 0 0).ownBlock from fun k_ hk_ => ⟨.inl hk_, fun e_ => Nat.ne_of_lt (Nat.lt_trans hk_.2 HWL.out) (Option.some.inj e_)⟩)
            have H0F := Aside0.mk (show ∀ k_, (wr.alloc (.cells #[] 71)).drew.heap.size ≤ k_ → ((P k_ ∧ k_ < w.heap.size) ∨ w.heap.size < k_) from fun k_ hk_ => .inr (by have h1 := HWL.out; have h2 := HSZ.out; omega))
            have H0B := Aside0.mk (below_drew1 (below_alloc HB.out (.cells #[] 71)))
            have H0Z := Aside0.mk (show w.heap.size ≤ (wr.alloc (.cells #[] 71)).drew.heap.size from by have h1 := HB.out.size; have h2 := HSZ.out; omega)
            have H0L := Aside0.mk (show (([] : List S71).length + n4) * 32 ≤ 140737488355328 from by have h1 := HL0.out; simp; omega)
            have H1R := Aside0.mk (show ∀ w1 : World, (wr.alloc (.cells #[] 71)).drew.grownBy w1 (some wr.heap.size) → Kd.F k71 w1 (fun k_ => P k_ ∧ k_ < w.heap.size) A5 (l0.length - (n4 + 1)) (l0.drop (n4 + 1)) from fun w1 hg_ => by
              have h_ := Kd.F_grown (Kd.F_drew (Kd.F_alloc HFD3.out (.cells #[] 71))) hg_ (fun k_ hk_ e_ => Nat.ne_of_lt (Nat.lt_trans hk_.2 HWL.out) (Option.some.inj e_))
              rw [List.length_drop] at h_
              exact h_)
            have H1O := Aside0.mk (show ∀ v1 : Value, (v1.ownBlock = (Value.slice (some ⟨wr.heap.size, 0, none⟩) 0 0).ownBlock ∨ ∃ b, v1.ownBlock = some b ∧ (wr.alloc (.cells #[] 71)).drew.heap.size ≤ b) → ∀ k_, (P k_ ∧ k_ < w.heap.size) → ((P k_ ∧ k_ < w.heap.size) ∨ w.heap.size < k_) ∧ some k_ ≠ v1.ownBlock from fun v1 hv_ k_ hk_ => ⟨.inl hk_, fun e_ => by
              have h5 := HWL.out
              rcases hv_ with hv_ | ⟨b, hv_, hb_⟩
              · exact Nat.ne_of_lt (Nat.lt_trans hk_.2 h5) (Option.some.inj (e_.trans hv_))
              · have h1 := Option.some.inj (e_.trans hv_)
                have h2 := hk_.2
                have h3 := HSZ.out
                omega⟩)
            have H1F := Aside0.mk (show ∀ w1 : World, (wr.alloc (.cells #[] 71)).drew.grownBy w1 (some wr.heap.size) → ∀ k_, w1.heap.size ≤ k_ → ((P k_ ∧ k_ < w.heap.size) ∨ w.heap.size < k_) from fun w1 hg_ k_ hk_ => .inr (by have h1 := HWL.out; have h2 := hg_.size; have h3 := HSZ.out; omega))
            have H1L := Aside0.mk (show (([] ++ l0.take n4 : List S71).length + (l0.length - (n4 + 1))) * 32 ≤ 140737488355328 from by have h1 := HL0.out; simp; omega)
            have HQ0 := Aside0.mk (And.intro q0 q1)
            have H1Q := Aside0.mk (show ∀ w1 : World, (wr.alloc (.cells #[] 71)).drew.grownBy w1 (some wr.heap.size) → w1.cell? (ad.add (n4 * 2)) = some (.int .i64 it.f0) ∧ w1.cell? ⟨(ad.add (n4 * 2)).block, (ad.add (n4 * 2)).off + 1, none⟩ = some (.slice A1 it.f1.length c1) from fun w1 hg_ => by
              have hne : some (ad.add (n4 * 2)).block ≠ some wr.heap.size := fun e_ => Nat.ne_of_lt HAD.out (Option.some.inj e_)
              have hlt : (ad.add (n4 * 2)).block < (wr.alloc (.cells #[] 71)).drew.heap.size := by have := HAD.out; have h3 := HSZ.out; omega
              have hk := below_drew1 (below_alloc (Below.refl wr.heap.size wr) (.cells #[] 71))
              exact ⟨(cell_grown hg_ hne hlt).trans ((hk.cell HAD.out).trans HQ0.out.1), (cell_grown (a := ⟨(ad.add (n4 * 2)).block, (ad.add (n4 * 2)).off + 1, none⟩) hg_ hne hlt).trans ((hk.cell (p := ⟨(ad.add (n4 * 2)).block, (ad.add (n4 * 2)).off + 1, none⟩) HAD.out).trans HQ0.out.2)⟩)
            have H2Q := Aside0.mk (show ∀ v1 : Value, (v1.ownBlock = (Value.slice (some ⟨wr.heap.size, 0, none⟩) 0 0).ownBlock ∨ ∃ b, v1.ownBlock = some b ∧ (wr.alloc (.cells #[] 71)).drew.heap.size ≤ b) → ∀ w1 w2 : World, (wr.alloc (.cells #[] 71)).drew.grownBy w1 (some wr.heap.size) → w1.grownBy w2 v1.ownBlock → w2.cell? (ad.add (n4 * 2)) = some (.int .i64 it.f0) ∧ w2.cell? ⟨(ad.add (n4 * 2)).block, (ad.add (n4 * 2)).off + 1, none⟩ = some (.slice A1 it.f1.length c1) from fun v1 hv_ w1 w2 hg1 hg2 => by
              have hne : some (ad.add (n4 * 2)).block ≠ v1.ownBlock := fun e_ => by
                rcases hv_ with hv_ | ⟨b, hv_, hb_⟩
                · exact Nat.ne_of_lt HAD.out (Option.some.inj (e_.trans hv_))
                · have h1 := Option.some.inj (e_.trans hv_)
                  have h2 := HAD.out
                  have h3 := HSZ.out
                  omega
              have hlt : (ad.add (n4 * 2)).block < w1.heap.size := by have h1 := HAD.out; have h2 := hg1.size; have h3 := HSZ.out; omega
              have h3 := H1Q.out w1 hg1
              exact ⟨(cell_grown hg2 hne hlt).trans h3.1, (cell_grown (a := ⟨(ad.add (n4 * 2)).block, (ad.add (n4 * 2)).off + 1, none⟩) hg2 hne hlt).trans h3.2⟩)
            have H2T := Aside0.mk (show ∀ v1 : Value, (v1.ownBlock = (Value.slice (some ⟨wr.heap.size, 0, none⟩) 0 0).ownBlock ∨ ∃ b, v1.ownBlock = some b ∧ (wr.alloc (.cells #[] 71)).drew.heap.size ≤ b) → ∀ w1 w2 : World, (wr.alloc (.cells #[] 71)).drew.grownBy w1 (some wr.heap.size) → w1.grownBy w2 v1.ownBlock → w2.heap[w.heap.size]? = some (.cells #[.int .i64 0, .slice none 0 0] 71 (0, 0)) from fun v1 hv_ w1 w2 hg1 hg2 => by
              have hlt := blk_lt HT.out
              have h0 : (wr.alloc (.cells #[] 71)).drew.heap[w.heap.size]? = some (.cells #[.int .i64 0, .slice none 0 0] 71 (0, 0)) := blk_alloc HT.out _
              have h1 := blk_grown h0 hg1 (fun e_ => by have h3 := Option.some.inj e_; omega)
              exact blk_grown h1 hg2 (fun e_ => by
                rcases hv_ with hv_ | ⟨b, hv_, hb_⟩
                · exact absurd (show w.heap.size = wr.heap.size from Option.some.inj (e_.trans hv_)) (by omega)
                · have h3 := Option.some.inj (e_.trans hv_); have h4 := HSZ.out; omega))
            have hadw : (ad.add (n4 * 2)).block < w.heap.size := by
              obtain ⟨ad2, _, _, e2, q2, _⟩ := at_T71 (Kd.V_reads' HS0.out).2.2 (n4 : Int) p1 p2
              obtain rfl := Option.some.inj e2
              rw [Int.toNat_natCast] at q2
              exact World.block_lt_of_cell? w _ q2
            have hneq1 : ¬ (ad.add (n4 * 2)).block = w.heap.size := by omega
            have hneq2 : ¬ w.heap.size = (ad.add (n4 * 2)).block := by omega
            have HIT := Aside0.mk hit
            clear HF0 hit
            go_region_held3 (fun w' => w'.cell? (ad.add (n4 * 2)) = some (.int .i64 it.f0) ∧ w'.cell? ⟨(ad.add (n4 * 2)).block, (ad.add (n4 * 2)).off + 1, none⟩ = some (.slice A1 it.f1.length c1)) (first | exact ⟨q0, q1⟩ | exact HQ1.out | exact HQ2.out | go_keep) (first | ((refine N_app_step (w0 := w) w.heap.size rfl (.tmp 28) (.tmp 31) rfl (.slice (some ⟨wr.heap.size, 0, none⟩) 0 0) [] (l0.take n4) (some ad) n4 c0 (fun k_ => (P k_ ∧ k_ < w.heap.size) ∨ w.heap.size < k_) (fun k_ => P k_ ∧ k_ < w.heap.size) ?hs_ ?hx_ (Kd.N_drew HNE.out) ?hr_ ?ho_ ?hf_ ?hb_ ?hz_ ?hl_ ?_); (case hs_ => first | rfl | (simp [Act.eval, Act.put]; done)); (case hx_ => first | rfl | (simp [Act.eval, Act.put]; done)); (case hr_ => exact H0R.out); (case ho_ => exact H0O.out); (case hf_ => exact H0F.out); (case hb_ => exact H0B.out); (case hz_ => exact H0Z.out); (case hl_ => exact H0L.out); intro v1 w1 hn_ hb_ hg_ hat_; have HN1 := Aside0.mk hn_; have HB1 := Aside0.mk hb_; have HG1 := Aside0.mk hg_; have HAT1 := Aside0.mk hat_; have HQ1 := Aside0.mk (H1Q.out w1 hg_); clear hn_ hb_ hg_ hat_) | ((refine N_app_step (w0 := w) w.heap.size rfl (.tmp 32) (.tmp 36) rfl v1 ([] ++ l0.take n4) (l0.drop (n4 + 1)) A5 (l0.length - (n4 + 1)) (c0 - (n4 + 1)) (fun k_ => (P k_ ∧ k_ < w.heap.size) ∨ w.heap.size < k_) (fun k_ => P k_ ∧ k_ < w.heap.size) ?hs_ ?hx_ HN1.out ?hr_ ?ho_ ?hf_ HB1.out HB1.out.size ?hl_ ?_); (case hs_ => first | rfl | (simp [Act.eval, Act.put]; done)); (case hx_ => first | rfl | (simp [Act.eval, Act.put]; done)); (case hr_ => exact H1R.out w1 HG1.out); (case ho_ => exact H1O.out v1 HAT1.out); (case hf_ => exact H1F.out w1 HG1.out); (case hl_ => exact H1L.out); intro v2 w2 hn_ hb_ hg_ hat_; have HN2 := Aside0.mk hn_; have HB2 := Aside0.mk hb_; have HG2 := Aside0.mk hg_; have HAT2 := Aside0.mk hat_; have HQ2 := Aside0.mk (H2Q.out v1 HAT1.out _ w2 HG1.out hg_); have HT2 := Aside0.mk (H2T.out v1 HAT1.out _ w2 HG1.out hg_); have t0 := (blk_cell HT2.out 0).trans (rfl : _ = some (Value.int .i64 0)); have t1 := (blk_cell HT2.out 1).trans (rfl : _ = some (Value.slice none 0 0)); have tf0 := blk_frozen HT2.out 0; have tf1 := blk_frozen HT2.out 1; clear hn_ hb_ hg_ hat_))
            all_goals
              go_wp2
              have HT3 := Aside0.mk (show ((w2.setCell ⟨w.heap.size, 0, none⟩ (.int .i64 it.f0)).setCell ⟨w.heap.size, 1, none⟩ (.slice A1 it.f1.length c1)).heap[w.heap.size]? = some (.cells #[.int .i64 it.f0, .slice A1 it.f1.length c1] 71 (0, 0)) from by simpa using blk_set (blk_set HT2.out 0 (.int .i64 it.f0)) 1 (.slice A1 it.f1.length c1))
              have HB3 := Aside0.mk (below_set (g := w.heap.size) (j := 1) (v := .slice A1 it.f1.length c1) (below_set (g := w.heap.size) (j := 0) (v := .int .i64 it.f0) HB2.out (Nat.le_refl _)) (Nat.le_refl _))
              have hc0 := (blk_cell HT3.out 0).trans (rfl : _ = some (Value.int .i64 it.f0))
              have hc1 := (blk_cell HT3.out 1).trans (rfl : _ = some (Value.slice A1 it.f1.length c1))
              have HN3 := Aside0.mk (Kd.N_far (p := ⟨w.heap.size, 1, none⟩) (Kd.N_far (p := ⟨w.heap.size, 0, none⟩) HN2.out (fun k_ hk_ => by rcases hk_ with hk_ | hk_; exact Nat.ne_of_lt hk_.2; exact Nat.ne_of_gt hk_) (.int .i64 it.f0)) (fun k_ hk_ => by rcases hk_ with hk_ | hk_; exact Nat.ne_of_lt hk_.2; exact Nat.ne_of_gt hk_) (.slice A1 it.f1.length c1))
              generalize ((w2.setCell ⟨w.heap.size, 0, none⟩ (.int .i64 it.f0)).setCell ⟨w.heap.size, 1, none⟩ (.slice A1 it.f1.length c1)) = w3 at *
              refine bodyPost_ret (v := .tuple #[.agg #[.int .i64 it.f0, .slice A1 it.f1.length c1], v2]) (by simp [results, Try.results49, go_sem, hc0, hc1]) rfl ⟨_, _, by rw [HIT.out], ?_, ?_, HB3.out⟩
              · rw [HIT.out]
                exact Kd.V_mono (Kd.V_mk HL1.out (Kd.F_below HF1.out HB3.out)) (fun k_ hk_ => ⟨.inl hk_.1, fun e_ => by have h_ := Kd.N_base HN3.out k_ e_.symm; have h2_ := hk_.2; omega⟩)
              · rw [Int.toNat_natCast]
                exact Kd.N_mono HN3.out (fun k_ hk_ => by rcases hk_ with hk_ | hk_; exact .inl hk_.1; exact .inr (by omega))
        · rw [if_neg c2] at H
          exact absurd H (by simp)
  · rw [if_neg c1] at h
    exact absurd h (by simp)
end Go.Proofs.Ytpfbdpeohlohoaa.H
