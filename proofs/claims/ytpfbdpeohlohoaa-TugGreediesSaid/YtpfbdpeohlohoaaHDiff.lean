/- The walk of tug.Differencing: items are sorted and the two first ones made one, until one is left; its pulls are put on sides. Condition: 1 to 999 pulls (else the function says none). -/
import Derived.Test.YtpfbdpeohlohoaaHRow
import Derived.Test.YtpfbdpeohlohoaaGa1
namespace Go.Proofs.Ytpfbdpeohlohoaa.H
open Go.Proofs.Ytpfbdpeohlohoaa.Ga
open Go.Sort hiding rd
open Go.RowKit Go.Proofs.YtpfbdpeohlohoaaW.PrintWords Go.Proofs.YtpfbdpeohlohoaaW.PrintLast Go.Proofs.YtpfbdpeohlohoaaW.PrintMore
set_option linter.unusedVariables false
set_option linter.unusedSimpArgs false
/-- The items at first. -/
def lvs (l : List Int) (j : Nat) : List KT := (List.range j).map (fun i : Nat => KT.leaf (rd l (i : Int)) (i : Int))
theorem lvs_succ (l : List Int) (j : Nat) : lvs l (j + 1) = lvs l j ++ [KT.leaf (rd l (j : Int)) (j : Int)] := by simp [lvs, List.range_succ]
theorem lvs_length (l : List Int) (j : Nat) : (lvs l j).length = j := by simp [lvs]
/-- The items after some rounds. -/
def kkr : Nat → List KT → Int → List KT
  | 0, ts, _ => ts
  | n + 1, ts, made => match ts.mergeSort KT.le with
    | a :: b :: rest => kkr n (rest ++ [KT.node (wrap64 (a.worth - b.worth)) made a b]) (wrap64 (made + 1))
    | _ => ts
def flipAll (l : List Int) : List Int := l.map (fun x => wrap64 (1 - x))
def kkEnd (l : List Int) : List KT → Option (Int × List Int × Int)
  | [t] => (t.place (List.replicate l.length 0) 0).bind fun out => if rd out 0 = 1 then some (t.worth, flipAll out, 0) else some (t.worth, out, 0)
  | _ => none
def tug_Differencing.f (k : Nat) (l0 : List Int) : Option (Int × List Int × Int) := (tug_check.f k l0 14).bind fun t5 => (if t5 = 0 then (if 0 < l0.length ∧ l0.length < 1000 then kkEnd l0 (kkr (l0.length - 1) (lvs l0 l0.length) (l0.length : Int)) else none) else some (0, [], t5))
theorem tug_Differencing.mono : ∀ a0 k, LeO (tug_Differencing.f k a0) (tug_Differencing.f (k + 1) a0) := by
  intro a0 k
  unfold tug_Differencing.f
  repeat' first
    | (with_reducible exact tug_check.mono _ _ _)
    | (with_reducible exact LeO.refl _)
    | (with_reducible exact LeO.none _)
    | (with_reducible refine LeO.ite ?_ ?_)
    | (with_reducible refine LeO.bind ?_ (fun _ => ?_))
/-- The items' numbers: all below the next one, no two alike. -/
def Fresh (ts : List KT) (made : Int) : Prop := (ts.map KT.made).Nodup ∧ ∀ t ∈ ts, t.made < made
theorem Fresh.next {ts rest : List KT} {a b : KT} {made : Int} {p : Int} (h : Fresh ts made) (e : ts.mergeSort KT.le = a :: b :: rest) : Fresh (rest ++ [KT.node p made a b]) (made + 1) := by
  have hp : (a :: b :: rest).Perm ts := by rw [← e]; exact List.mergeSort_perm _ _
  obtain ⟨h1, h2⟩ := h
  have h3 : ((a :: b :: rest).map KT.made).Nodup := (hp.map KT.made).nodup_iff.2 h1
  have h4 : ∀ t ∈ rest, t.made < made := fun t ht => h2 t (hp.mem_iff.1 (by simp [ht]))
  refine ⟨?_, fun t ht => ?_⟩
  · rw [List.map_append, List.nodup_append]
    simp only [List.map_cons, List.nodup_cons] at h3
    refine ⟨h3.2.2, by simp, ?_⟩
    intro x hx y hy hxy
    obtain ⟨t, ht, rfl⟩ := List.mem_map.1 hx
    simp at hy
    have := h4 t ht
    subst hy
    simp only [KT.made] at hxy
    unfold KT.made at *
    omega
  · rcases List.mem_append.1 ht with ht | ht
    · have := h4 t ht; omega
    · simp at ht
      subst ht
      show made < made + 1
      omega
theorem lvs_fresh (l : List Int) (j : Nat) : Fresh (lvs l j) (j : Int) := by
  refine ⟨?_, fun t ht => ?_⟩
  · unfold lvs
    rw [List.map_map]
    rw [List.nodup_iff_pairwise_ne, List.pairwise_map]
    exact (List.nodup_iff_pairwise_ne.1 List.nodup_range).imp (fun {a b} h e => h (Int.ofNat.inj (show (a : Int) = (b : Int) from by simpa [KT.made] using e)))
  · unfold lvs at ht
    obtain ⟨i, hi, rfl⟩ := List.mem_map.1 ht
    have := List.mem_range.1 hi
    simp [KT.made]
    omega
/-! ### Making an item -/
section
variable {base : Nat} {w : World} {v : Value} {xs : List (KT × Nat)}
theorem leaf_ready (HO : IRow base w v xs) (p i : Int) :
    IRow base ((w.alloc (.cells #[.int .i64 p, .int .i64 i, .int .i64 i, .pointer none, .pointer none] 63)).alloc (.cells #[.pointer (some ⟨w.heap.size, 0, none⟩)] 59)) v xs ∧
    (KT.leaf p i).At ((w.alloc (.cells #[.int .i64 p, .int .i64 i, .int .i64 i, .pointer none, .pointer none] 63)).alloc (.cells #[.pointer (some ⟨w.heap.size, 0, none⟩)] 59)) w.heap.size ∧
    ((w.alloc (.cells #[.int .i64 p, .int .i64 i, .int .i64 i, .pointer none, .pointer none] 63)).alloc (.cells #[.pointer (some ⟨w.heap.size, 0, none⟩)] 59)).cell? ⟨w.heap.size + 1, 0, none⟩ = some (kptr (KT.leaf p i, w.heap.size)) := by
  refine ⟨(HO.alloc _).alloc _, blk_alloc (heap_alloc_new w _) _, ?_⟩
  have h := heap_alloc_new (w.alloc (.cells #[.int .i64 p, .int .i64 i, .int .i64 i, .pointer none, .pointer none] 63)) (.cells #[.pointer (some ⟨w.heap.size, 0, none⟩)] 59)
  have z : (w.alloc (.cells #[.int .i64 p, .int .i64 i, .int .i64 i, .pointer none, .pointer none] 63)).heap.size = w.heap.size + 1 := by simp
  rw [z] at h
  exact (blk_cell h 0).trans rfl
theorem node_ready (HO : IRow base w v xs) (p i : Int) {a b : KT} {ga gb : Nat} (ha : a.At w ga) (hb : b.At w gb) :
    IRow base ((w.alloc (.cells #[.int .i64 p, .int .i64 i, .int .i64 (-1), .pointer (some ⟨ga, 0, none⟩), .pointer (some ⟨gb, 0, none⟩)] 63)).alloc (.cells #[.pointer (some ⟨w.heap.size, 0, none⟩)] 59)) v xs ∧
    (KT.node p i a b).At ((w.alloc (.cells #[.int .i64 p, .int .i64 i, .int .i64 (-1), .pointer (some ⟨ga, 0, none⟩), .pointer (some ⟨gb, 0, none⟩)] 63)).alloc (.cells #[.pointer (some ⟨w.heap.size, 0, none⟩)] 59)) w.heap.size ∧
    ((w.alloc (.cells #[.int .i64 p, .int .i64 i, .int .i64 (-1), .pointer (some ⟨ga, 0, none⟩), .pointer (some ⟨gb, 0, none⟩)] 63)).alloc (.cells #[.pointer (some ⟨w.heap.size, 0, none⟩)] 59)).cell? ⟨w.heap.size + 1, 0, none⟩ = some (kptr (KT.node p i a b, w.heap.size)) := by
  have hk := (Kp.alloc w (.cells #[.int .i64 p, .int .i64 i, .int .i64 (-1), .pointer (some ⟨ga, 0, none⟩), .pointer (some ⟨gb, 0, none⟩)] 63)).trans (Kp.alloc _ (.cells #[.pointer (some ⟨w.heap.size, 0, none⟩)] 59))
  refine ⟨(HO.alloc _).alloc _, ⟨ga, gb, blk_alloc (heap_alloc_new w _) _, ha.keep hk, hb.keep hk⟩, ?_⟩
  have h := heap_alloc_new (w.alloc (.cells #[.int .i64 p, .int .i64 i, .int .i64 (-1), .pointer (some ⟨ga, 0, none⟩), .pointer (some ⟨gb, 0, none⟩)] 63)) (.cells #[.pointer (some ⟨w.heap.size, 0, none⟩)] 59)
  have z : (w.alloc (.cells #[.int .i64 p, .int .i64 i, .int .i64 (-1), .pointer (some ⟨ga, 0, none⟩), .pointer (some ⟨gb, 0, none⟩)] 63)).heap.size = w.heap.size + 1 := by simp
  rw [z] at h
  exact (blk_cell h 0).trans rfl
end
end Go.Proofs.Ytpfbdpeohlohoaa.H
namespace Go.Proofs.Ytpfbdpeohlohoaa.H
open Go.Proofs.Ytpfbdpeohlohoaa.Ga
open Go.Sort hiding rd
open Go.RowKit Go.Proofs.YtpfbdpeohlohoaaW.PrintWords Go.Proofs.YtpfbdpeohlohoaaW.PrintLast Go.Proofs.YtpfbdpeohlohoaaW.PrintMore
attribute [local go_sem] max2_int min2_int max_two min_two max_three min_three max_four min_four
set_option linter.unusedVariables false
set_option linter.unusedSimpArgs false
theorem info3 : (Try.prog.info? 3).map (fun i => (i.zero, i.size, i.bytes)) = some (some (.int .i64 0), 1, 8) := by kernel_rfl
/-- The first j numbers turned. -/
def flipTo (out : List Int) (j : Nat) : List Int := flipAll (out.take j) ++ out.drop j
theorem flipTo_zero (out : List Int) : flipTo out 0 = out := by simp [flipTo, flipAll]
theorem flipTo_all (out : List Int) (n : Nat) (h : out.length ≤ n) : flipTo out n = flipAll out := by
  unfold flipTo
  rw [List.take_of_length_le h, List.drop_eq_nil_of_le h, List.append_nil]
theorem flipTo_set (out : List Int) (j : Nat) (h : j < out.length) : (flipTo out j).set j (wrap64 (1 - rdOf 0 (flipTo out j) (j : Int))) = flipTo out (j + 1) := by
  have hl : (flipAll (out.take j)).length = j := by simp [flipAll]; omega
  have e : rdOf 0 (flipTo out j) (j : Int) = out[j] := by
    unfold rdOf flipTo
    rw [Int.toNat_natCast, List.getD_eq_getElem?_getD, List.getElem?_append_right (by omega), hl, Nat.sub_self, List.getElem?_drop, Nat.add_zero, List.getElem?_eq_getElem h]
    rfl
  rw [e]
  unfold flipTo
  rw [List.set_append_right _ _ (by omega), hl, Nat.sub_self, List.drop_eq_getElem_cons h, List.set_cons_zero, List.take_succ_eq_append_getElem h]
  unfold flipAll
  rw [List.map_append, List.append_assoc]
  rfl
set_option maxHeartbeats 8000000 in
set_option maxRecDepth 100000 in
theorem tug_Differencing.calls (k : Nat) (A0 : Option Addr) (c0 : Nat) (l0 : List Int) (r1 : Int) (r2 : List Int) (r3 : Int) (w : World) (hr0 : Kd.C (Kd.int .i64) w A0 l0.length l0) (hc0 : l0.length ≤ c0) (h : tug_Differencing.f k l0 = some (r1, r2, r3)) :
    Calls Try.prog 18 #[.slice A0 l0.length c0] w fun e w' => ∃ v2_ : Value, e = .returned (.tuple #[.int .i64 r1, v2_, .int .i64 r3]) ∧ Kd.R (Kd.int .i64) 3 w' w.heap.size (fun _ => True) v2_ r2 ∧ Below w.heap.size w w' := by
  have HR0 := Aside0.mk hr0
  have HC0 := Aside0.mk hc0
  clear hr0 hc0
  have HB := Aside0.mk (Below.refl w.heap.size w)
  unfold tug_Differencing.f at h
  obtain ⟨t5, A3, H⟩ := Option.bind_eq_some_iff.mp h
  clear h
  have A3 := Aside0.mk A3
  by_cases c4 : t5 = 0
  · rw [if_pos c4] at H
    have c4b0 : (t5 == 0) = true := beq_iff_eq.mpr c4
    have c4b1 : (t5 != 0) = false := bne_eq_false_iff_eq.mpr c4
    clear c4
    by_cases c7 : 0 < l0.length ∧ l0.length < 1000
    · rw [if_pos c7] at H
      have HL0 := Aside0.mk c7
      clear c7
      have H' := Aside0.mk H
      clear H
      go_enter Try.func18, Try.ntmps18
      go_wp2_with (first | ((with_reducible refine gate_callee (f := 43) rfl ?_); refine goesL_ (some 15) rfl rfl Try.func43 (by kernel_rfl) rfl #[.slice A0 l0.length c0, .int .i64 14] rfl (by (try simp only [List.map_toArray, List.map_cons, List.map_nil]); first | done | rfl) ?_; (with_reducible refine (tug_check.calls k _ _ l0 14 t5 _ ?side1 ?side2 A3.out).mono ?_); (case side1 => exact (Kd.C_below HR0.out HB.out)); (case side2 => exact HC0.out); rintro e w5 ⟨rfl, hb⟩; refine ⟨_, rfl, ?_⟩; have n1_ := Aside0.mk (below_step HB.out hb); clear HB hb; have HB := n1_; clear n1_))
      go_loopw [6, 21] (fun v6 v21 w' => ∃ (j : Nat) (xs : List (KT × Nat)), j ≤ l0.length ∧ v21 = .int .i64 (j : Int) ∧ Aside0 (xs.map (fun x => x.1) = lvs l0 j) ∧ Aside0 (IRow w.heap.size w' v6 xs) ∧ Aside0 (Below w.heap.size w w')) (fun _ v21 _ => l0.length - (intOf v21).toNat)
      case atStart => exact ⟨0, [], Nat.zero_le _, rfl, ⟨rfl⟩, ⟨IRow.nil _ _⟩, HB⟩
      case round =>
        clear HB
        obtain ⟨j, xs, hj, rfl, HXS, HI, HB⟩ := hrel
        have hj1000 := HL0.out.2
        by_cases hlt : j < l0.length
        · have hltb : decide ((j : Int) < (l0.length : Int)) = true := decide_eq_true (by omega)
          obtain ⟨ad, ead, hxp⟩ := Kd.at_int HR0.out (j : Int) (by omega) (by omega)
          rw [Int.toNat_natCast] at hxp
          subst ead
          replace hxp := (HB.out.cell (World.block_lt_of_cell? w _ hxp)).trans hxp
          have HNX := Aside0.mk (lvs_succ l0 j)
          obtain ⟨y, hy⟩ : ∃ y_ : Int, rd l0 (j : Int) = y_ := ⟨_, rfl⟩
          rw [hy] at hxp HNX
          clear hy
          have HXL : Aside0 (xs.length = j) := ⟨by have := congrArg List.length HXS.out; rw [lvs_length] at this; simpa using this⟩
          have HRD := Aside0.mk (leaf_ready HI.out y (j : Int))
          go_wp2_with (first | ((with_reducible refine gate_builtin (b := .append) (xs := #[.tmp 26, .tmp 33]) rfl ?_); refine irow_wp w.heap.size rfl (.tmp 26) (.tmp 33) rfl u6 xs (KT.leaf y (j : Int), wr.heap.size) (wr.heap.size + 1) rfl ?hx_ HRD.out.1 HRD.out.2.1 HRD.out.2.2 ?hl_ ?hb_ ?_; (case hx_ => first | rfl | (simp [Act.eval, Act.put]; done)); (case hl_ => have := HXL.out; have := HL0.out; omega); (case hb_ => have := HB.out.size; simp; omega); intro v1 w1 hi_ hk_ hw_; have HI := Aside0.mk hi_; have HW := Aside0.mk hw_; clear hi_ hk_ hw_))
          go_roundw
          case rel => exact ⟨j + 1, _, by omega, by go_num, ⟨by rw [List.map_append, HXS.out, HNX.out]; rfl⟩, HI, ⟨HW.out _ _ (below_alloc (below_alloc HB.out _) _) (Nat.le_refl _) (by have := HB.out.size; simp; omega)⟩⟩
          case measure => simp [intOf]; omega
        · have hltb : decide ((j : Int) < (l0.length : Int)) = false := decide_eq_false (by omega)
          obtain rfl : j = l0.length := by omega
          have HXL : Aside0 (xs.length = l0.length) := ⟨by have := congrArg List.length HXS.out; rw [lvs_length] at this; simpa using this⟩
          clear hj hlt
          obtain ⟨fin, hfin⟩ : ∃ f_ : List KT, kkr (l0.length - 1) (lvs l0 l0.length) (l0.length : Int) = f_ := ⟨_, rfl⟩
          rw [hfin] at H'
          have HFIN := Aside0.mk hfin
          clear hfin
          go_wp2
          go_loopw [6, 9] (fun v6 v9 w' => ∃ (n : Nat) (made : Int) (xs : List (KT × Nat)), v9 = .int .i64 made ∧ 0 ≤ made ∧ made + n ≤ 5000 ∧ Aside0 (xs.length = n + 1) ∧ Aside0 (xs.length < 1000) ∧ Aside0 (kkr n (xs.map (fun x => x.1)) made = fin) ∧ Aside0 (Fresh (xs.map (fun x => x.1)) made) ∧ Aside0 (IRow w.heap.size w' v6 xs) ∧ Aside0 (Below w.heap.size w w')) (fun v6 _ _ => match v6 with | .slice _ n _ => n | _ => 0)
          case atStart => exact ⟨l0.length - 1, (l0.length : Int), xs, rfl, by omega, by omega, ⟨by have := HXL.out; have := HL0.out; omega⟩, ⟨by have := HXL.out; have := HL0.out; omega⟩, ⟨by rw [HXS.out]; exact HFIN.out⟩, ⟨by rw [HXS.out]; exact lvs_fresh _ _⟩, HI, HB⟩
          case round =>
            clear HB HI HXS HXL
            obtain ⟨n, made, xs, rfl, hm0, hm1, HXL, HX1, HKK, HFR, HI, HB⟩ := hrel
            obtain ⟨g, off, cap, eform, hgb, hgl, hcap⟩ := HI.out.form (by have := HXL.out; omega)
            subst eform
            have HGB := Aside0.mk (And.intro hgb (And.intro hgl hcap))
            clear hgb hgl hcap
            cases n with
            | zero =>
              have hgt : decide (1 < xs.length) = false := decide_eq_false (by have := HXL.out; omega)
              have hgt2 : decide ((1 : Int) < (xs.length : Int)) = false := decide_eq_false (by have := HXL.out; omega)
              obtain ⟨pt, hxs⟩ : ∃ pt, xs = [pt] := by
                have h2 := HXL.out
                match xs, h2 with
                | [], h1 => simp at h1
                | [pt], h1 => exact ⟨pt, rfl⟩
                | _ :: _ :: _, h1 => simp at h1
              subst hxs
              have HF2 : Aside0 (fin = [pt.1]) := ⟨by have h1 := HKK.out; rw [kkr] at h1; exact h1.symm⟩
              obtain ⟨out, hA, hE⟩ := Option.bind_eq_some_iff.mp (show (pt.1.place (List.replicate l0.length 0) 0).bind (fun out => if rd out 0 = 1 then some (pt.1.worth, flipAll out, 0) else some (pt.1.worth, out, 0)) = some (r1, r2, r3) from by have h1 := H'.out; rw [HF2.out] at h1; exact h1)
              have HA := Aside0.mk hA
              have HAT := Aside0.mk (HI.out.1 pt (by simp))
              obtain ⟨cur, hcur, hblk⟩ : ∃ cur : Array Value, cur[off]? = some (.pointer (some ⟨pt.2, 0, none⟩)) ∧ wr.heap[g]? = some (Obj.cells cur 59 (0, 0)) := by
                rcases HI.out.2 with ⟨e, _⟩ | ⟨g', off', cap', cur, e1, e2, e3, e4, e5, e6⟩
                · cases e
                · injection e1 with a1 a2 a3
                  injection a1 with a1
                  injection a1 with b1 b2 _
                  subst b1 b2 a3
                  refine ⟨cur, ?_, e3⟩
                  have h1 := (HI.out.at_ 0 (by simp)).1
                  rw [Nat.add_zero, blk_cell e3] at h1
                  exact h1
              have HCUR := Aside0.mk hcur
              have HG := Aside0.mk hblk
              have q0 := (blk_cell hblk off).trans hcur
              clear hcur hblk hA HI HKK HFR
              have hx1i : 0 < [pt].length := by simp
              have hx2i : (0 : Int) < ([pt].length : Int) := by simp
              have hl0p : (0 : Int) < (l0.length : Int) := by have := HL0.out.1; omega
              have hl0n : 0 < l0.length := HL0.out.1
              by_cases c1 : rd out 0 = 1
              · rw [if_pos c1] at hE
                simp only [Option.some.injEq, Prod.mk.injEq] at hE
                obtain ⟨rfl, rfl, rfl⟩ := hE
                have c1b : (rdOf 0 out 0 == 1) = true := beq_iff_eq.mpr c1
                clear c1
                go_wp2_with (first | ((with_reducible refine gate_dst (N := 74) rfl ?_); refine Kd.R_make (Kd.int .i64) w.heap.size 3 rfl (N := 74) rfl 22 _ _ rfl (l0.length : Int) rfl rfl Try.underlying22 (.int .i64 0) 8 info3 rfl (by decide) (by decide) 0 (ok := fun _ => True) (okp := fun _ => True) rfl (fun _ hk => hk) trivial (by omega) (by have := HL0.out.2; omega) HB.out HB.out.size ?_; intro v74 w6 ho hb hg hat; obtain ⟨go1, cap1, e74, hgb, hgl, _⟩ := Kd.R_form ho (by rw [List.length_replicate]; have := HL0.out.1; omega); subst e74; rw [List.length_replicate, Int.toNat_natCast] at ho; (rw [List.length_replicate, Int.toNat_natCast]); have HO1 := Aside0.mk (Kd.R_reok (ok := fun k_ => k_ = go1) rfl ho (fun k_ hk_ => (Option.some.inj hk_).symm)); have HG1 := Aside0.mk (show g ≠ go1 ∧ w.heap.size ≤ go1 from by obtain ⟨b_, hb_, hle_⟩ := hat; have e1_ := Option.some.inj hb_; have e2_ := blk_lt HG.out; have e3_ : go1 = b_ := e1_; have e4_ := HB.out.size; omega); have m0_ := Aside0.mk (blk_grown HG.out hg (by simp)); have m1_ := Aside0.mk hb; have m2_ := Aside0.mk (HAT.out.keep (Kp.grown0 hg)); clear HB HG HAT q0 ho hb hg hat hgb hgl; have HG := m0_; have HB := m1_; have HAT := m2_; clear m0_ m1_ m2_; have q0 := (blk_cell HG.out off).trans HCUR.out) | ((with_reducible refine gate_callee (f := 47) rfl ?_); refine goesL_ (some 79) rfl rfl Try.func47 (by kernel_rfl) rfl #[.pointer (some ⟨pt.2, 0, none⟩), .slice (some ⟨go1, 0, none⟩) l0.length cap1, .int .i64 0] rfl (by (try simp only [List.map_toArray, List.map_cons, List.map_nil]); first | done | rfl) ?_; (refine (place_calls w.heap.size go1 l0.length cap1 pt.1 pt.2 (List.replicate l0.length 0) out 0 _ HAT.out HO1.out HA.out).mono ?_); rintro e w8 ⟨rfl, hp⟩; refine ⟨_, rfl, ?_⟩; have n0_ := Aside0.mk (HB.out.grown hp.gr HB.out.size (fun k_ hk_ => by cases hk_; exact HG1.out.2)); have n1_ := Aside0.mk (blk_grown HG.out hp.gr (by simpa using HG1.out.1)); have n2_ := Aside0.mk (HAT.out.keep hp.kp); have n3_ := Aside0.mk hp.row; clear HB HG HAT HO1 q0 hp; have HB := n0_; have HG := n1_; have HAT := n2_; have HO1 := n3_; clear n0_ n1_ n2_ n3_; have q0 := (blk_cell HG.out off).trans HCUR.out; have qp := (Kd.R_celln 0 HO1.out 0 (Int.le_refl 0) (by have := HL0.out.1; omega)).1; rw [Int.toNat_zero] at qp; obtain ⟨p3_, p4_, hpc_⟩ := HAT.out.cells; have HPC := Aside0.mk hpc_; have qw := (blk_cell hpc_ 0).trans (rfl : _ = some (Value.int .i64 pt.1.worth)); clear hpc_))
                go_loopw [86] (fun v86 w' => ∃ j : Nat, j ≤ l0.length ∧ v86 = .int .i64 (j : Int) ∧ Aside0 (Below w.heap.size w w') ∧ Aside0 (w'.heap[g]? = some (Obj.cells cur 59 (0, 0))) ∧ Aside0 (pt.1.At w' pt.2) ∧ Aside0 (Kd.R (Kd.int .i64) 3 w' w.heap.size (fun k_ => k_ = go1) (.slice (some ⟨go1, 0, none⟩) l0.length cap1) (flipTo out j))) (fun v86 _ => l0.length - (intOf v86).toNat)
                case atStart => exact ⟨0, Nat.zero_le _, rfl, HB, HG, HAT, ⟨by rw [flipTo_zero]; exact HO1.out⟩⟩
                case round =>
                  have HOL := Aside0.mk (Kd.R_reads' HO1.out).1
                  clear HB HG HAT HO1 q0 qp qw HPC
                  obtain ⟨j, hj, rfl, HB, HG, HAT, HO1⟩ := hrel
                  have hj1000 := HL0.out.2
                  by_cases hlt : j < l0.length
                  · have hltb : decide ((j : Int) < (l0.length : Int)) = true := decide_eq_true (by omega)
                    obtain ⟨hc1, hf1⟩ := Kd.R_celln 0 HO1.out (j : Int) (by omega) (by omega)
                    rw [Int.toNat_natCast] at hc1 hf1
                    obtain ⟨x, hx⟩ : ∃ x_ : Int, rdOf 0 (flipTo out j) (j : Int) = x_ := ⟨_, rfl⟩
                    obtain ⟨y, hy⟩ : ∃ y_ : Int, wrap64 (1 - x) = y_ := ⟨_, rfl⟩
                    have hyw : IntKind.i64.wrap (1 - x) = y := (i64_w _).trans hy
                    rw [hx] at hc1
                    have HST := Aside0.mk (Kd.R_putg HO1.out (j : Int) y)
                    have HFT : Aside0 ((flipTo out j).set j y = flipTo out (j + 1)) := ⟨by rw [← hy, ← hx]; exact flipTo_set out j (by have := HOL.out; omega)⟩
                    have HKP : Aside0 (Kp wr (wr.setCell ⟨go1, (j : Int).toNat, none⟩ (.int .i64 y))) := ⟨by
                      obtain ⟨cur2, hcur2⟩ := own_block (Kd.own_of_R HO1.out)
                      exact Kp.grown HST.out.2 hcur2 (by decide)⟩
                    clear hx hy
                    go_wp2
                    go_roundw
                    case rel => exact ⟨j + 1, by omega, by go_num, ⟨below_set HB.out HG1.out.2⟩, ⟨blk_far HG.out HG1.out.1 _⟩, ⟨HAT.out.keep (by have h_ := HKP.out; rw [Int.toNat_natCast] at h_; exact h_)⟩, ⟨by have h_ := HST.out.1; rw [Int.toNat_natCast, HFT.out] at h_; exact h_⟩⟩
                    case measure => simp [intOf]; omega
                  · have hltb : decide ((j : Int) < (l0.length : Int)) = false := decide_eq_false (by omega)
                    obtain rfl : j = l0.length := by omega
                    have q0 := (blk_cell HG.out off).trans HCUR.out
                    obtain ⟨p3_, p4_, hpc_⟩ := HAT.out.cells
                    have qw := (blk_cell hpc_ 0).trans (rfl : _ = some (Value.int .i64 pt.1.worth))
                    clear hpc_
                    have HRES := Aside0.mk HO1.out
                    rw [flipTo_all out l0.length (by have := HOL.out; omega)] at HRES
                    go_wp2
                    go_ret3
                    exact ⟨_, rfl, Kd.R_mono HRES.out (fun _ _ => trivial), HB.out⟩
              · rw [if_neg c1] at hE
                simp only [Option.some.injEq, Prod.mk.injEq] at hE
                obtain ⟨rfl, rfl, rfl⟩ := hE
                have c1b : (rdOf 0 out 0 == 1) = false := beq_eq_false_iff_ne.mpr c1
                clear c1
                go_wp2_with (first | ((with_reducible refine gate_dst (N := 74) rfl ?_); refine Kd.R_make (Kd.int .i64) w.heap.size 3 rfl (N := 74) rfl 22 _ _ rfl (l0.length : Int) rfl rfl Try.underlying22 (.int .i64 0) 8 info3 rfl (by decide) (by decide) 0 (ok := fun _ => True) (okp := fun _ => True) rfl (fun _ hk => hk) trivial (by omega) (by have := HL0.out.2; omega) HB.out HB.out.size ?_; intro v74 w6 ho hb hg hat; obtain ⟨go1, cap1, e74, hgb, hgl, _⟩ := Kd.R_form ho (by rw [List.length_replicate]; have := HL0.out.1; omega); subst e74; rw [List.length_replicate, Int.toNat_natCast] at ho; (rw [List.length_replicate, Int.toNat_natCast]); have HO1 := Aside0.mk (Kd.R_reok (ok := fun k_ => k_ = go1) rfl ho (fun k_ hk_ => (Option.some.inj hk_).symm)); have HG1 := Aside0.mk (show g ≠ go1 ∧ w.heap.size ≤ go1 from by obtain ⟨b_, hb_, hle_⟩ := hat; have e1_ := Option.some.inj hb_; have e2_ := blk_lt HG.out; have e3_ : go1 = b_ := e1_; have e4_ := HB.out.size; omega); have m0_ := Aside0.mk (blk_grown HG.out hg (by simp)); have m1_ := Aside0.mk hb; have m2_ := Aside0.mk (HAT.out.keep (Kp.grown0 hg)); clear HB HG HAT q0 ho hb hg hat hgb hgl; have HG := m0_; have HB := m1_; have HAT := m2_; clear m0_ m1_ m2_; have q0 := (blk_cell HG.out off).trans HCUR.out) | ((with_reducible refine gate_callee (f := 47) rfl ?_); refine goesL_ (some 79) rfl rfl Try.func47 (by kernel_rfl) rfl #[.pointer (some ⟨pt.2, 0, none⟩), .slice (some ⟨go1, 0, none⟩) l0.length cap1, .int .i64 0] rfl (by (try simp only [List.map_toArray, List.map_cons, List.map_nil]); first | done | rfl) ?_; (refine (place_calls w.heap.size go1 l0.length cap1 pt.1 pt.2 (List.replicate l0.length 0) out 0 _ HAT.out HO1.out HA.out).mono ?_); rintro e w8 ⟨rfl, hp⟩; refine ⟨_, rfl, ?_⟩; have n0_ := Aside0.mk (HB.out.grown hp.gr HB.out.size (fun k_ hk_ => by cases hk_; exact HG1.out.2)); have n1_ := Aside0.mk (blk_grown HG.out hp.gr (by simpa using HG1.out.1)); have n2_ := Aside0.mk (HAT.out.keep hp.kp); have n3_ := Aside0.mk hp.row; clear HB HG HAT HO1 q0 hp; have HB := n0_; have HG := n1_; have HAT := n2_; have HO1 := n3_; clear n0_ n1_ n2_ n3_; have q0 := (blk_cell HG.out off).trans HCUR.out; have qp := (Kd.R_celln 0 HO1.out 0 (Int.le_refl 0) (by have := HL0.out.1; omega)).1; rw [Int.toNat_zero] at qp; obtain ⟨p3_, p4_, hpc_⟩ := HAT.out.cells; have HPC := Aside0.mk hpc_; have qw := (blk_cell hpc_ 0).trans (rfl : _ = some (Value.int .i64 pt.1.worth)); clear hpc_))
                go_ret3
                exact ⟨_, rfl, Kd.R_mono HO1.out (fun _ _ => trivial), HB.out⟩
            | succ m =>
              have hgt : decide (1 < xs.length) = true := decide_eq_true (by have := HXL.out; omega)
              have hgt2 : decide ((1 : Int) < (xs.length : Int)) = true := decide_eq_true (by have := HXL.out; omega)
              go_wp2_with (first | ((with_reducible refine gate_callee (f := 44) rfl ?_); refine goesL_ (some 44) rfl rfl Try.func44 (by kernel_rfl) rfl #[.slice (some ⟨g, off, none⟩) xs.length cap, .func (.func 45) #[] #[]] rfl (by (try simp only [List.map_toArray, List.map_cons, List.map_nil]); first | done | rfl) ?_; (refine (kt_sort w.heap.size _ g off cap xs HI.out (by have := HXL.out; omega) HX1.out (by have h_ := HFR.out.1; rw [List.map_map] at h_; exact h_)).mono ?_); rintro e w7 ⟨rfl, ys, hys, hyl, hi, hk, hgr, hbg⟩; refine ⟨_, rfl, ?_⟩; have HYS := Aside0.mk hys; have HYL := Aside0.mk hyl; have n0_ := Aside0.mk hi; have n1_ := Aside0.mk (HB.out.grown hgr HB.out.size (fun k_ hk_ => by cases hk_; exact hbg)); clear HI HB hys hyl hi hk hgr hbg; have HI := n0_; have HB := n1_; clear n0_ n1_))
              obtain ⟨pa, pb, rest, hyy⟩ : ∃ pa pb rest, ys = pa :: pb :: rest := by
                have h1 := HYL.out
                have h2 := HXL.out
                match ys, h1 with
                | [], h1 => simp at h1; omega
                | [_], h1 => simp at h1; omega
                | pa :: pb :: rest, _ => exact ⟨pa, pb, rest, rfl⟩
              subst hyy
              have q0 := (HI.out.at_ 0 (by simp)).1
              have q1 := (HI.out.at_ 1 (by simp)).1
              simp only [List.getElem_cons_zero, List.getElem_cons_succ, kptr, Nat.add_zero] at q0 q1
              have q0' : w7.cell? ⟨g, off + 0, none⟩ = some (.pointer (some ⟨pa.2, 0, none⟩)) := q0
              have hx0 : 0 < xs.length := by have := HXL.out; omega
              have hx1 : 1 < xs.length := by have := HXL.out; omega
              simp only [Act.put, List.setIfInBounds_toArray, List.set_cons_succ, List.set_cons_zero]
              go_quiet (fail)
              clear q0 q1 q0'
              have n0_ := Aside0.mk (HI.out.drewN nq)
              have n1_ := Aside0.mk (pw_below_drewN HB.out nq)
              clear HI HB
              have HI := n0_
              have HB := n1_
              clear n0_ n1_
              generalize w7.drewN nq = w8 at HI HB ⊢
              have hA := HI.out.1 pa (by simp)
              have hB := HI.out.1 pb (by simp)
              obtain ⟨a3, a4, hAc⟩ := hA.cells
              obtain ⟨b3, b4, hBc⟩ := hB.cells
              have eA := (blk_cell hAc 0).trans (rfl : _ = some (Value.int .i64 pa.1.worth))
              have eB := (blk_cell hBc 0).trans (rfl : _ = some (Value.int .i64 pb.1.worth))
              have HAB := Aside0.mk (And.intro hA hB)
              have HCS0 := Aside0.mk (And.intro hAc hBc)
              clear hA hB hAc hBc
              obtain ⟨p, hp⟩ : ∃ p_ : Int, pa.1.worth = p_ := ⟨_, rfl⟩
              obtain ⟨q, hq⟩ : ∃ p_ : Int, pb.1.worth = p_ := ⟨_, rfl⟩
              obtain ⟨d, hd⟩ : ∃ p_ : Int, wrap64 (p - q) = p_ := ⟨_, rfl⟩
              have hdw : IntKind.i64.wrap (p - q) = d := (i64_w _).trans hd
              rw [hp] at eA
              rw [hq] at eB
              have HCS := Aside0.mk (show w8.heap[pa.2]? = some (.cells #[.int .i64 p, .int .i64 pa.1.made, .int .i64 pa.1.pull, a3, a4] 63 (0, 0)) ∧ w8.heap[pb.2]? = some (.cells #[.int .i64 q, .int .i64 pb.1.made, .int .i64 pb.1.pull, b3, b4] 63 (0, 0)) from by rw [← hp, ← hq]; exact HCS0.out)
              clear HCS0
              have HPQ := Aside0.mk (And.intro hp (And.intro hq hd))
              clear hp hq hd
              have hx2 : 2 ≤ xs.length := by omega
              have hcap2 := HGB.out.2.2
              have HX1000 := Aside0.mk (show rest.length < 1000 by have h1 := HYL.out; have h2 := HX1.out; simp at h1; omega)
              go_wp2
              have HAB2 := Aside0.mk (show (((w8.alloc (.cells #[.int .i64 d, .int .i64 made, .int .i64 (-1), .pointer (some ⟨pa.2, 0, none⟩), .pointer (some ⟨pb.2, 0, none⟩)] 63)).alloc (.cells #[.pointer (some ⟨w8.heap.size, 0, none⟩)] 59)).heap[pa.2]? = some (.cells #[.int .i64 p, .int .i64 pa.1.made, .int .i64 pa.1.pull, a3, a4] 63 (0, 0))) ∧ (((w8.alloc (.cells #[.int .i64 d, .int .i64 made, .int .i64 (-1), .pointer (some ⟨pa.2, 0, none⟩), .pointer (some ⟨pb.2, 0, none⟩)] 63)).alloc (.cells #[.pointer (some ⟨w8.heap.size, 0, none⟩)] 59)).heap[pb.2]? = some (.cells #[.int .i64 q, .int .i64 pb.1.made, .int .i64 pb.1.pull, b3, b4] 63 (0, 0))) from ⟨blk_alloc (blk_alloc HCS.out.1 _) _, blk_alloc (blk_alloc HCS.out.2 _) _⟩)
              have HNX : Aside0 (kkr m ((rest ++ [(KT.node d made pa.1 pb.1, w8.heap.size)]).map (fun x => x.1)) (made + 1) = fin ∧ Fresh ((rest ++ [(KT.node d made pa.1 pb.1, w8.heap.size)]).map (fun x => x.1)) (made + 1)) := ⟨by
                have h1 := HKK.out
                have h2 := HYS.out
                have h3 := HFR.out
                rw [kkr, ← h2] at h1
                simp only [List.map_cons] at h1 h2
                rw [HPQ.out.1, HPQ.out.2.1, HPQ.out.2.2, show wrap64 (made + 1) = made + 1 by unfold wrap64; omega] at h1
                rw [List.map_append]
                exact ⟨h1, h3.next h2.symm⟩⟩
              by_cases hcz : cap = 2
              · have HDR := Aside0.mk (HI.out.drop2z (by have := HYL.out; simp at this; omega) hcz)
                subst hcz
                obtain hxl : xs.length = 2 := by omega
                rw [hxl]
                have HRD := Aside0.mk (node_ready HDR.out d made HAB.out.1 HAB.out.2)
                go_region_held3 (fun w' => w'.cell? ⟨pa.2, 0, none⟩ = some (.int .i64 p) ∧ w'.cell? ⟨pb.2, 0, none⟩ = some (.int .i64 q)) (first | exact ⟨eA, eB⟩ | exact ⟨eA2, eB2⟩ | go_keep) (first | ((refine irow_step w.heap.size rfl (.tmp 52) (.tmp 70) rfl (.slice (some ⟨g, off, none⟩) 0 0) rest (KT.node d made pa.1 pb.1, w8.heap.size) (w8.heap.size + 1) ?hs_ ?hx_ HRD.out.1.drew ?hp_ ?hc_ HX1000.out ?hb_ ?_); (case hs_ => first | rfl | (simp [Act.eval, Act.put]; done)); (case hx_ => first | rfl | (simp [Act.eval, Act.put]; done)); (case hp_ => exact HRD.out.2.1.keep (Kp.drew _)); (case hc_ => exact HRD.out.2.2); (case hb_ => have := HB.out.size; simp; omega); intro v1 w1 hi_ hk_ hw_; have eA2 := (blk_cell ((hk_ _ _ _ (HAB2.out.1)).trans HAB2.out.1) 0).trans (rfl : _ = some (Value.int .i64 p)); have eB2 := (blk_cell ((hk_ _ _ _ (HAB2.out.2)).trans HAB2.out.2) 0).trans (rfl : _ = some (Value.int .i64 q)); have HI2 := Aside0.mk hi_; have HW := Aside0.mk hw_; clear hi_ hk_ hw_))
                all_goals
                  go_wp2
                  go_roundw
                  case rel => exact ⟨m, made + 1, _, rfl, by omega, by omega, ⟨by have h1 := HYL.out; have h2 := HXL.out; simp at h1 ⊢; omega⟩, ⟨by have h1 := HYL.out; have h2 := HX1.out; simp at h1 ⊢; omega⟩, ⟨HNX.out.1⟩, ⟨HNX.out.2⟩, HI2, ⟨HW.out _ _ (below_drew1 (below_alloc (below_alloc HB.out _) _)) (Nat.le_refl _) (by have := HB.out.size; simp; omega)⟩⟩
                  case measure => (obtain ⟨g9, o9, c9, e9, _⟩ := HI2.out.form (by simp)); subst e9; (have h1 := HYL.out); (have h2 := HXL.out); simp at h1 ⊢; omega
              · have HDR := Aside0.mk (HI.out.drop2 (by omega))
                have hx2i : (2 : Int) ≤ (xs.length : Int) := by omega
                have hx3i : (xs.length : Int) ≤ (cap : Int) := by omega
                have hx4i : ¬ (2 : Int) = (cap : Int) := by omega
                have hx5i : ¬ 2 = cap := by omega
                have HRD := Aside0.mk (node_ready HDR.out d made HAB.out.1 HAB.out.2)
                go_region_held3 (fun w' => w'.cell? ⟨pa.2, 0, none⟩ = some (.int .i64 p) ∧ w'.cell? ⟨pb.2, 0, none⟩ = some (.int .i64 q)) (first | exact ⟨eA, eB⟩ | exact ⟨eA2, eB2⟩ | go_keep) (first | ((refine irow_step w.heap.size rfl (.tmp 52) (.tmp 70) rfl (.slice (some ⟨g, off + 2, none⟩) (xs.length - 2) (cap - 2)) rest (KT.node d made pa.1 pb.1, w8.heap.size) (w8.heap.size + 1) ?hs_ ?hx_ HRD.out.1.drew ?hp_ ?hc_ HX1000.out ?hb_ ?_); (case hs_ => first | rfl | (simp [Act.eval, Act.put]; done)); (case hx_ => first | rfl | (simp [Act.eval, Act.put]; done)); (case hp_ => exact HRD.out.2.1.keep (Kp.drew _)); (case hc_ => exact HRD.out.2.2); (case hb_ => have := HB.out.size; simp; omega); intro v1 w1 hi_ hk_ hw_; have eA2 := (blk_cell ((hk_ _ _ _ (HAB2.out.1)).trans HAB2.out.1) 0).trans (rfl : _ = some (Value.int .i64 p)); have eB2 := (blk_cell ((hk_ _ _ _ (HAB2.out.2)).trans HAB2.out.2) 0).trans (rfl : _ = some (Value.int .i64 q)); have HI2 := Aside0.mk hi_; have HW := Aside0.mk hw_; clear hi_ hk_ hw_))
                all_goals
                  go_wp2
                  go_roundw
                  case rel => exact ⟨m, made + 1, _, rfl, by omega, by omega, ⟨by have h1 := HYL.out; have h2 := HXL.out; simp at h1 ⊢; omega⟩, ⟨by have h1 := HYL.out; have h2 := HX1.out; simp at h1 ⊢; omega⟩, ⟨HNX.out.1⟩, ⟨HNX.out.2⟩, HI2, ⟨HW.out _ _ (below_drew1 (below_alloc (below_alloc HB.out _) _)) (Nat.le_refl _) (by have := HB.out.size; simp; omega)⟩⟩
                  case measure => (obtain ⟨g9, o9, c9, e9, _⟩ := HI2.out.form (by simp)); subst e9; (have h1 := HYL.out); (have h2 := HXL.out); simp at h1 ⊢; omega
    · rw [if_neg c7] at H
      exact absurd H (by simp)
  · rw [if_neg c4] at H
    have c4b0 : (t5 == 0) = false := beq_eq_false_iff_ne.mpr c4
    have c4b1 : (t5 != 0) = true := bne_iff_ne.mpr c4
    clear c4
    simp only [Option.some.injEq, Prod.mk.injEq] at H
    obtain ⟨rfl, rfl, rfl⟩ := H
    go_enter Try.func18, Try.ntmps18
    go_wp2_with (first | ((with_reducible refine gate_callee (f := 43) rfl ?_); refine goesL_ (some 15) rfl rfl Try.func43 (by kernel_rfl) rfl #[.slice A0 l0.length c0, .int .i64 14] rfl (by (try simp only [List.map_toArray, List.map_cons, List.map_nil]); first | done | rfl) ?_; (with_reducible refine (tug_check.calls k _ _ l0 14 t5 _ ?side1 ?side2 A3.out).mono ?_); (case side1 => exact (Kd.C_below HR0.out HB.out)); (case side2 => exact HC0.out); rintro e w5 ⟨rfl, hb⟩; refine ⟨_, rfl, ?_⟩; have n1_ := Aside0.mk (below_step HB.out hb); clear HB hb; have HB := n1_; clear n1_))
    go_ret3
    exact ⟨_, rfl, Kd.R_nil _ _ _ _ _, HB.out⟩
end Go.Proofs.Ytpfbdpeohlohoaa.H
