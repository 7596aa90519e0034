/- The walk of tug.Greedy: the pulls in a falling order (a stable sort of their numbers), each assigned to the team with the least sum. Condition: 1 to 19 pulls (else the function says none). -/
import Derived.Test.YtpfbdpeohlohoaaHSort
import Derived.Test.YtpfbdpeohlohoaaGa1
import Derived.Test.YtpfbdpeohlohoaaGa5
import Derived.BigRegion
import Derived.Deep.RegionHeld3
import Derived.Laws.EntriesVeiled
import Derived.Outline
namespace Go.Proofs.Ytpfbdpeohlohoaa.H
open Go.Proofs.Ytpfbdpeohlohoaa.Ga
open Go.RowKit Go.Sort Go.Proofs.YtpfbdpeohlohoaaW.PrintWords Go.Proofs.YtpfbdpeohlohoaaW.PrintLast Go.Proofs.YtpfbdpeohlohoaaW.PrintMore
attribute [local go_sem] max2_int min2_int max_two min_two max_three min_three max_four min_four
set_option linter.unusedVariables false
set_option linter.unusedSimpArgs false

/-- What the closure compares: the second pull less the first one. -/
def gcmp (l0 : List Int) (i j : Fin l0.length) : Int := wrap64 (rd l0 (j.val : Int) - rd l0 (i.val : Int))
def genc (l0 : List Int) (i : Fin l0.length) : Value := .int .i64 (i.val : Int)
def gsorted (l0 : List Int) (hn : 0 < l0.length) : Array (Fin l0.length) := @Sort.insertionSort (Fin l0.length) ⟨⟨0, hn⟩⟩ (ltOf (gcmp l0)) (Array.ofFn fun i => i) 0 l0.length
/-- The numbers of the pulls, from the greatest pull down. -/
def gorder (l0 : List Int) : List Int := if hn : 0 < l0.length then (gsorted l0 hn).toList.map (fun i => (i.val : Int)) else []
def greedy.l0 (x0 ord : List Int) : Nat → List Int → List Int → Int → Option (Int × List Int × Int)
  | 0, _, _, _ => none
  | k + 1, x10, x11, x49 => if x49 < (ord.length : Int) then (if 0 ≤ x49 then ((slices_Min_int_int.f k x11).bind fun m => ((slices_Index_int_int.f k x11 m).bind fun t => (if 0 ≤ t ∧ t < (x11.length : Int) ∧ 0 ≤ rd ord x49 ∧ rd ord x49 < (x10.length : Int) ∧ rd ord x49 < (x0.length : Int) then (greedy.l0 x0 ord k (x10.set (rd ord x49).toNat t) (x11.set t.toNat (wrap64 (rd x11 t + rd x0 (rd ord x49)))) (wrap64 (x49 + 1))) else none))) else none) else ((slices_Max_int_int.f k x11).bind fun m => some (m, x10, 0))
def tug_Greedy.f (k : Nat) (l0 : List Int) (a1 : Int) : Option (Int × List Int × Int) := (tug_check.f k l0 14).bind fun t7 => (if t7 = 0 then (if a1 < 1 then some (0, [], 1) else (if a1 > 4 then some (0, [], 1) else (if 0 < l0.length ∧ l0.length < 20 then (greedy.l0 l0 (gorder l0) k (List.replicate l0.length 0) (List.replicate a1.toNat 0) 0) else none))) else some (0, [], t7))
theorem greedy.mono_l (x0 ord : List Int) : ∀ k y0 y1 y2, LeO (greedy.l0 x0 ord k y0 y1 y2) (greedy.l0 x0 ord (k + 1) y0 y1 y2)
  | 0 => fun _ _ _ r h => by simp [greedy.l0] at h
  | k + 1 => by
    have ih0 := greedy.mono_l x0 ord k
    intro y0 y1 y2
    unfold greedy.l0
    repeat' first
      | (with_reducible exact ih0 _ _ _)
      | (with_reducible exact slices_Max_int_int.mono _ _)
      | (with_reducible exact slices_Min_int_int.mono _ _)
      | (with_reducible exact slices_Index_int_int.mono _ _ _)
      | (with_reducible exact LeO.refl _)
      | (with_reducible exact LeO.none _)
      | (with_reducible refine LeO.ite ?_ ?_)
      | (with_reducible refine LeO.bind ?_ (fun _ => ?_))
theorem tug_Greedy.mono : ∀ a0 a1 k, LeO (tug_Greedy.f k a0 a1) (tug_Greedy.f (k + 1) a0 a1) := by
  intro a0 a1 k
  unfold tug_Greedy.f
  repeat' first
    | (with_reducible exact greedy.mono_l _ _ _ _ _ _)
    | (with_reducible exact tug_check.mono _ _ _)
    | (with_reducible exact LeO.refl _)
    | (with_reducible exact LeO.none _)
    | (with_reducible refine LeO.ite ?_ ?_)
    | (with_reducible refine LeO.bind ?_ (fun _ => ?_))

set_option maxHeartbeats 2000000 in
set_option maxRecDepth 100000 in
/-- The closure: in whatever world in which the pulls lie. -/
theorem greedy_cmp (A0 : Option Addr) (c0 : Nat) (l0 : List Int) (g2 : Nat) (i j : Fin l0.length) (W : World) (hr0 : Kd.C (Kd.int .i64) W A0 l0.length l0) (hc2 : W.cell? ⟨g2, 0, none⟩ = some (.slice A0 l0.length c0)) :
    Calls Try.prog 62 #[genc l0 i, genc l0 j, .pointer (some ⟨g2, 0, none⟩)] W fun e w' => e = .returned (.int .i64 (gcmp l0 i j)) ∧ ∃ q, w' = W.drewN q := by
  unfold genc gcmp
  obtain ⟨i, hi⟩ := i
  obtain ⟨j, hj⟩ := j
  obtain ⟨ad, ead, hxi⟩ := Kd.at_int hr0 (i : Int) (by omega) (by omega)
  obtain ⟨ad2, ead2, hxj⟩ := Kd.at_int hr0 (j : Int) (by omega) (by omega)
  subst ead
  obtain rfl := Option.some.inj ead2
  rw [Int.toNat_natCast] at hxi hxj
  obtain ⟨y, hy⟩ : ∃ j_ : Int, wrap64 (rd l0 (j : Int) - rd l0 (i : Int)) = j_ := ⟨_, rfl⟩
  have hyw : IntKind.i64.wrap (rd l0 (j : Int) - rd l0 (i : Int)) = y := (i64_w _).trans hy
  dsimp only
  rw [hy]
  clear hr0
  go_enter Try.func62, Try.ntmps62
  go_wp2
  go_quiet (fail)
  go_wp2
  go_ret
  exact ⟨rfl, _, rfl⟩

set_option maxHeartbeats 4000000 in
set_option maxRecDepth 100000 in
/-- slices.SortStableFunc at one to nineteen numbers: one block, sorted by insertion. -/
theorem greedy_sort (A0 : Option Addr) (c0 : Nat) (l0 : List Int) (g2 blk cap : Nat) (w0 w : World) (hn : 0 < l0.length) (hn2 : l0.length < 20) (hr0 : Kd.C (Kd.int .i64) w0 A0 l0.length l0) (hb : Below w0.heap.size w0 w) (hc2 : w.cell? ⟨g2, 0, none⟩ = some (.slice A0 l0.length c0)) (h2 : g2 ≠ blk) (hblk : w0.heap.size ≤ blk) (hlt : blk < w.heap.size)
    (hH : @Holds (Fin l0.length) ⟨⟨0, hn⟩⟩ (genc l0) w blk 0 (Array.ofFn fun i => i)) :
    Calls Try.prog 61 #[.slice (some ⟨blk, 0, none⟩) l0.length cap, .func (.func 62) #[] #[.pointer (some ⟨g2, 0, none⟩)]] w fun e w' => e = .returned (.tuple #[]) ∧ ∃ q, w' = @sortWorld (Fin l0.length) ⟨⟨0, hn⟩⟩ (genc l0) w blk 0 q (gsorted l0 hn) #[] := by
  letI : Inhabited (Fin l0.length) := ⟨⟨0, hn⟩⟩
  have eg : ∀ args w, (callFunc 62 args).run Try.prog w = .ok (.enter 62 args) w := fun args w => enters_ (P := Try.prog) Try.func62 (by kernel_rfl) rfl args w
  have hcr : CmpReads Try.prog 62 #[.pointer (some ⟨g2, 0, none⟩)] (genc l0) (gcmp l0) blk 0 (Array.ofFn (fun i : Fin l0.length => i)).size w := by
    intro m os dk hdk x y
    have hg : w.grownBy (sortWorld (genc l0) w blk 0 m dk os) (some blk) := sw_grown dk
    have hb2 : Below w0.heap.size w0 (sortWorld (genc l0) w blk 0 m dk os) := hb.grown hg hb.size (fun k hk => by cases hk; exact hblk)
    exact greedy_cmp A0 c0 l0 g2 x y _ (Kd.C_below hr0 hb2) ((World.cell?_of_block (hg.block g2 (World.block_lt_of_cell? w _ hc2) (by simpa using h2))).trans hc2)
  have hins := Any.insertionSortCmpFunc_one lays_F20_f81 (genc l0) (fun _ => rfl) (gcmp l0) 62 #[.pointer (some ⟨g2, 0, none⟩)] blk 0 cap 0 l0.length (Array.ofFn fun i => i) w eg hcr hH (Nat.zero_le _) (by simp) (by simp; omega)
  rw [Array.size_ofFn] at hins
  change Calls Try.prog 81 _ _ _ at hins
  have HI := Aside0.mk hins
  have n1 : decide ((20 : Int) ≤ (l0.length : Int)) = false := decide_eq_false (by omega)
  have n2 : decide ((20 : Int) < (l0.length : Int)) = false := decide_eq_false (by omega)
  have n3 : decide (20 ≤ l0.length) = false := decide_eq_false (by omega)
  have n4 : decide (20 < l0.length) = false := decide_eq_false (by omega)
  clear hins hcr hH hc2 hr0 hb
  have h69 : Calls Try.prog 69 #[.slice (some ⟨blk, 0, none⟩) l0.length cap, .int .i64 (l0.length : Int), .func (.func 62) #[] #[.pointer (some ⟨g2, 0, none⟩)]] w fun e w' => e = .returned (.tuple #[]) ∧ ∃ q, w' = sortWorld (genc l0) w blk 0 q (gsorted l0 hn) #[] := by
    go_enter Try.func69, Try.ntmps69
    go_wp2
    refine wp_loop_rounds 1 ?_
    rw [rounds_succ]
    go_wp2_with (first | (go_at_call 81; refine HI.out.mono ?_; rintro e w' ⟨rfl, q, rfl⟩))
    refine wp_loop_rounds 1 ?_
    rw [rounds_succ]
    go_wp2
    (first | go_end0 | refine bodyPost_ret (results_none rfl _ _ _) rfl ?_)
    exact ⟨rfl, q, (sortWorld_none _ _ _ _ _ _).symm⟩
  have H69 := Aside0.mk h69
  clear h69 HI n1 n2 n3 n4
  go_enter Try.func61, Try.ntmps61
  go_wp2_with (first | (go_at_call 69; refine H69.out.mono ?_; rintro e w' ⟨rfl, q, hq⟩; have HQ := Aside0.mk hq; clear hq))
  (first | go_end0 | refine bodyPost_ret (results_none rfl _ _ _) rfl ?_)
  exact ⟨rfl, q, HQ.out⟩

/-- The numbers from 0 on, as far as they are laid. -/
def gfill (n j : Nat) : List Int := (List.range n).map (fun i => if i < j then (i : Int) else 0)
theorem gfill_length (n j : Nat) : (gfill n j).length = n := by simp [gfill]
theorem gfill_zero (n : Nat) : gfill n 0 = List.replicate n 0 := by
  apply List.ext_getElem
  · simp [gfill]
  · intro i h1 h2
    simp [gfill]
theorem gfill_set (n j : Nat) (h : j < n) : (gfill n j).set j (j : Int) = gfill n (j + 1) := by
  apply List.ext_getElem
  · simp [gfill]
  · intro i h1 h2
    rw [List.getElem_set]
    simp only [gfill, List.getElem_map, List.getElem_range]
    by_cases e : j = i
    · subst e; simp
    · rw [if_neg e]
      by_cases e2 : i < j
      · rw [if_pos e2, if_pos (by omega)]
      · rw [if_neg e2, if_neg (by omega)]
theorem gfill_enc (l0 : List Int) : (Array.ofFn (fun i : Fin l0.length => i)).toList.map (genc l0) = encs (Value.int .i64) (gfill l0.length l0.length) := by
  apply List.ext_getElem
  · simp [gfill, encs]
  · intro i h1 h2
    have : i < l0.length := by simpa using h1
    simp [gfill, encs, genc]
    omega
theorem size_insInner {α : Type} [Inhabited α] (lt : α → α → Bool) (a : Nat) : ∀ (j : Nat) (d : Array α), (insInner lt a j d).size = d.size
  | 0, d => rfl
  | j + 1, d => by
    unfold insInner
    split
    · rw [size_insInner lt a j]; simp [swp]
    · rfl
theorem size_insOuter {α : Type} [Inhabited α] (lt : α → α → Bool) (a b : Nat) : ∀ (n i : Nat) (d : Array α), b - i ≤ n → (insOuter lt a b i d).size = d.size
  | 0, i, d, h => by
    unfold insOuter
    rw [if_neg (by omega)]
  | n + 1, i, d, h => by
    unfold insOuter
    split
    · rw [size_insOuter lt a b n (i + 1) _ (by omega), size_insInner]
    · rfl
theorem gsorted_size (l0 : List Int) (hn : 0 < l0.length) : (gsorted l0 hn).size = l0.length := by
  unfold gsorted insertionSort
  letI : Inhabited (Fin l0.length) := ⟨⟨0, hn⟩⟩
  rw [size_insOuter _ _ _ l0.length _ _ (by omega)]
  simp
theorem gorder_length (l0 : List Int) : (gorder l0).length = l0.length := by
  unfold gorder
  split
  · rename_i hn
    rw [List.length_map, Array.length_toList, gsorted_size]
  · rename_i hn
    simp only [List.length_nil]
    omega
theorem gorder_enc (l0 : List Int) (hn : 0 < l0.length) : (gsorted l0 hn).toList.map (genc l0) = encs (Value.int .i64) (gorder l0) := by
  unfold gorder
  rw [dif_pos hn]
  simp [encs, genc]

theorem greedy_row {w wr : World} {go1 cap1 : Nat} {l0 : List Int} (hn : 0 < l0.length) (ho : Kd.R (Kd.int .i64) 3 wr w.heap.size (fun k_ => k_ = go1) (.slice (some ⟨go1, 0, none⟩) l0.length cap1) (gfill l0.length l0.length)) :
    go1 < wr.heap.size ∧ @Holds (Fin l0.length) ⟨⟨0, hn⟩⟩ (genc l0) wr go1 0 (Array.ofFn fun i => i) ∧ (∀ q, wr.grownBy (@sortWorld (Fin l0.length) ⟨⟨0, hn⟩⟩ (genc l0) wr go1 0 q (gsorted l0 hn) #[]) (some go1)) ∧
      ∀ q, Kd.R (Kd.int .i64) 3 (@sortWorld (Fin l0.length) ⟨⟨0, hn⟩⟩ (genc l0) wr go1 0 q (gsorted l0 hn) #[]) w.heap.size (fun k_ => k_ = go1) (.slice (some ⟨go1, 0, none⟩) l0.length cap1) (gorder l0) := by
  letI : Inhabited (Fin l0.length) := ⟨⟨0, hn⟩⟩
  have hown := Kd.own_of_R ho
  rw [gfill_length] at hown
  have hlt := own_lt hown go1 rfl
  obtain ⟨h1, h2⟩ := hown
  rcases h2 with ⟨e, _⟩ | ⟨g, cap, cur, e, hb, hh, h3, h4, h5, h6⟩
  · cases e
  · injection e with e1 _ e3
    injection e1 with e1
    injection e1 with e1 _ _
    subst e1
    subst e3
    refine ⟨hlt, ?_, fun q => sw_grown _, fun q => ?_⟩
    · refine sw_holds hh ?_
      rw [gfill_enc, Array.size_ofFn]
      rw [Nat.mul_one] at h6
      exact h6
    · have h7 := sw_own (q := q) (os := #[]) (enc := genc l0) (gsorted l0 hn) (gsorted_size l0 hn) hb hh h3 h4 h5
      rw [gorder_enc l0 hn] at h7
      exact Kd.R_of_own (by rw [gorder_length]; exact h7) (fun k_ hk_ => (Option.some.inj hk_).symm)

theorem make_row {w W : World} {i0 : TypeInfo} (hI : Try.prog.info? 3 = some i0 ∧ i0.zero = some (.int .i64 0) ∧ i0.size = 1 ∧ i0.bytes = 8) (z : Int) (n : Nat) (hz : z = (n : Int)) (hn : n < 1000) {A0 : Option Addr} {c0 : Nat} {l0 : List Int} (hx : W.heap[w.heap.size]? = some (.cells #[.slice A0 l0.length c0] 22 (0, 0))) (hb : Below w.heap.size w W) :
    ∃ W1, (Instr.makeSlice 22 (.int .i64 z) (.int .i64 z)).run Try.prog W = .ok (.slice (some ⟨W.heap.size, 0, none⟩) n n) W1 ∧ Kd.R (Kd.int .i64) 3 W1 w.heap.size (fun k_ => k_ = W.heap.size) (.slice (some ⟨W.heap.size, 0, none⟩) n n) (List.replicate n 0) ∧ W.grownBy W1 none ∧ W1.heap[w.heap.size]? = some (.cells #[.slice A0 l0.length c0] 22 (0, 0)) ∧ Below w.heap.size w W1 ∧ W.heap.size < W1.heap.size := by
  subst hz
  obtain ⟨hi0, hz0, hz1, hz2⟩ := hI
  obtain ⟨w1, hrun, hown, hg1⟩ := run_make_full (P := Try.prog) W w.heap.size 22 3 i0 (.int .i64 0) 1 Try.underlying22 hi0 hz0 hz1 .i64 .i64 n (by rw [hz2]; omega) (by unfold maxLen; omega) hb.size
  have h1 : Kd.R (Kd.int .i64) 3 w1 w.heap.size (fun k_ => k_ = W.heap.size) (.slice (some ⟨W.heap.size, 0, none⟩) n n) (List.replicate n 0) := Kd.R_of_own (by rw [List.length_replicate]; have h_ := hown; rw [show (Value.int .i64 0).cells = #[.int .i64 0] from rfl, toList_madeCells_one, Nat.mul_one] at h_; simpa [encs] using h_) (fun k_ hk_ => (Option.some.inj hk_).symm)
  exact ⟨w1, hrun, h1, hg1, blk_grown hx hg1 (by simp), hb.grown hg1 hb.size (fun k hk => by cases hk), own_lt hown _ rfl⟩
theorem row_grown {w W W1 : World} {g n c : Nat} {xs : List Int} (h : Kd.R (Kd.int .i64) 3 W w.heap.size (fun k_ => k_ = g) (.slice (some ⟨g, 0, none⟩) n c) xs) (hg : W.grownBy W1 none) : Kd.R (Kd.int .i64) 3 W1 w.heap.size (fun k_ => k_ = g) (.slice (some ⟨g, 0, none⟩) n c) xs := Kd.R_grown h hg (fun k hk => by simp)

structure GSt (w : World) (A0 : Option Addr) (c0 : Nat) (l0 : List Int) (go1 cap1 g10 c10 g11 c11 n11 : Nat) (W : World) (x10 x11 : List Int) : Prop where
  hx : W.heap[w.heap.size]? = some (.cells #[.slice A0 l0.length c0] 22 (0, 0))
  hb : Below w.heap.size w W
  h1 : Kd.R (Kd.int .i64) 3 W w.heap.size (fun k_ => k_ = go1) (.slice (some ⟨go1, 0, none⟩) l0.length cap1) (gorder l0)
  h10 : Kd.R (Kd.int .i64) 3 W w.heap.size (fun k_ => k_ = g10) (.slice (some ⟨g10, 0, none⟩) l0.length c10) x10
  h11 : Kd.R (Kd.int .i64) 3 W w.heap.size (fun k_ => k_ = g11) (.slice (some ⟨g11, 0, none⟩) n11 c11) x11
section
variable {w W W1 : World} {A0 : Option Addr} {c0 : Nat} {l0 : List Int} {go1 cap1 g10 c10 g11 c11 n11 : Nat} {x10 x11 : List Int}
theorem GSt.below (h : GSt w A0 c0 l0 go1 cap1 g10 c10 g11 c11 n11 W x10 x11) (hb : Below W.heap.size W W1) : GSt w A0 c0 l0 go1 cap1 g10 c10 g11 c11 n11 W1 x10 x11 := ⟨blk_below h.hx hb, below_step h.hb hb, Kd.R_below h.h1 hb, Kd.R_below h.h10 hb, Kd.R_below h.h11 hb⟩
theorem GSt.drew (h : GSt w A0 c0 l0 go1 cap1 g10 c10 g11 c11 n11 W x10 x11) : GSt w A0 c0 l0 go1 cap1 g10 c10 g11 c11 n11 W.drew x10 x11 := ⟨h.hx, below_drew1 h.hb, Kd.R_drew h.h1, Kd.R_drew h.h10, Kd.R_drew h.h11⟩
theorem GSt.set10 (n : w.heap.size ≠ g10 ∧ w.heap.size ≠ g11 ∧ go1 ≠ g10 ∧ go1 ≠ g11 ∧ g10 ≠ g11 ∧ w.heap.size ≤ g10 ∧ w.heap.size ≤ g11) (h : GSt w A0 c0 l0 go1 cap1 g10 c10 g11 c11 n11 W x10 x11) (i x : Int) : GSt w A0 c0 l0 go1 cap1 g10 c10 g11 c11 n11 (W.setCell ⟨g10, i.toNat, none⟩ (.int .i64 x)) (x10.set i.toNat x) x11 :=
  ⟨blk_far h.hx n.1 _, below_set h.hb n.2.2.2.2.2.1, Kd.R_far h.h1 (fun k hk => by rw [hk]; exact n.2.2.1) _, (Kd.R_putg h.h10 i x).1, Kd.R_far h.h11 (fun k hk => by rw [hk]; exact fun e => n.2.2.2.2.1 e.symm) _⟩
theorem GSt.set11 (n : w.heap.size ≠ g10 ∧ w.heap.size ≠ g11 ∧ go1 ≠ g10 ∧ go1 ≠ g11 ∧ g10 ≠ g11 ∧ w.heap.size ≤ g10 ∧ w.heap.size ≤ g11) (h : GSt w A0 c0 l0 go1 cap1 g10 c10 g11 c11 n11 W x10 x11) (i x : Int) : GSt w A0 c0 l0 go1 cap1 g10 c10 g11 c11 n11 (W.setCell ⟨g11, i.toNat, none⟩ (.int .i64 x)) x10 (x11.set i.toNat x) :=
  ⟨blk_far h.hx n.2.1 _, below_set h.hb n.2.2.2.2.2.2, Kd.R_far h.h1 (fun k hk => by rw [hk]; exact n.2.2.2.1) _, Kd.R_far h.h10 (fun k hk => by rw [hk]; exact n.2.2.2.2.1) _, (Kd.R_putg h.h11 i x).1⟩
theorem GSt.c0_ (h : GSt w A0 c0 l0 go1 cap1 g10 c10 g11 c11 n11 W x10 x11) : W.cell? ⟨w.heap.size, 0, none⟩ = some (.slice A0 l0.length c0) := (blk_cell h.hx 0).trans rfl
end
theorem GSt.c11_ {w W : World} {A0 : Option Addr} {c0 : Nat} {l0 : List Int} {go1 cap1 g10 c10 g11 c11 n11 : Nat} {x10 x11 : List Int} (h : GSt w A0 c0 l0 go1 cap1 g10 c10 g11 c11 n11 W x10 x11) : Kd.C (Kd.int .i64) W (some ⟨g11, 0, none⟩) n11 x11 := by
  have h1 := Kd.R_reads' h.h11
  rw [h1.1]
  exact h1.2.2
theorem grdOf (xs : List Int) (i : Int) : rdOf 0 xs i = rd xs i := rfl

set_option maxHeartbeats 8000000 in
set_option maxRecDepth 100000 in
theorem tug_Greedy.calls (k : Nat) (A0 : Option Addr) (c0 : Nat) (l0 : List Int) (a1 : Int) (r1 : Int) (r2 : List Int) (r3 : Int) (w : World) (hr0 : Kd.C (Kd.int .i64) w A0 l0.length l0) (hc0 : l0.length ≤ c0) (h : tug_Greedy.f k l0 a1 = some (r1, r2, r3)) :
    Calls Try.prog 38 #[.slice A0 l0.length c0, .int .i64 a1] w fun e w' => ∃ v2_ : Value, e = .returned (.tuple #[.int .i64 r1, v2_, .int .i64 r3]) ∧ Kd.R (Kd.int .i64) 3 w' w.heap.size (fun _ => True) v2_ r2 ∧ Below w.heap.size w w' := by
  have HR0 := Aside0.mk hr0
  have HC0 := Aside0.mk hc0
  clear hr0 hc0
  have HX0 := Aside0.mk (heap_alloc_new w (.cells #[.slice A0 l0.length c0] 22))
  have HB := Aside0.mk (below_alloc (Below.refl w.heap.size w) (.cells #[.slice A0 l0.length c0] 22))
  have hx0 := (blk_cell HX0.out 0).trans (rfl : _ = some (Value.slice A0 l0.length c0))
  have hmf : ∀ (fn : Fn) (first cap : Array Value) (w : World), (Instr.makeFunc fn first cap).run Try.prog w = .ok (.func fn first cap) w := fun _ _ _ _ => rfl
  unfold tug_Greedy.f at h
  obtain ⟨t7, A3, H⟩ := Option.bind_eq_some_iff.mp h
  clear h
  have A3 := Aside0.mk A3
  by_cases c4 : t7 = 0
  · rw [if_pos c4] at H
    have c4b0 : (t7 == 0) = true := beq_iff_eq.mpr c4
    have c4b1 : (t7 != 0) = false := bne_eq_false_iff_eq.mpr c4
    clear c4
    by_cases c5 : a1 < 1
    · rw [if_pos c5] at H
      have c5b : decide (a1 < 1) = true := decide_eq_true c5
      simp only [Option.some.injEq, Prod.mk.injEq] at H
      obtain ⟨rfl, rfl, rfl⟩ := H
      go_enter Try.func38, Try.ntmps38
      go_wp2_with (first | ((with_reducible refine gate_callee (f := 43) rfl ?_); refine goesL_ (some 16) rfl rfl Try.func43 (by kernel_rfl) rfl #[.slice A0 l0.length c0, .int .i64 14] rfl (by (try simp only [List.map_toArray, List.map_cons, List.map_nil]); first | done | rfl) ?_; (with_reducible refine (tug_check.calls k _ _ l0 14 t7 _ ?side1 ?side2 A3.out).mono ?_); (case side1 => exact (Kd.C_below HR0.out HB.out)); (case side2 => exact HC0.out); rintro e w5 ⟨rfl, hb⟩; refine ⟨_, rfl, ?_⟩; have n1_ := Aside0.mk (below_step HB.out hb); have m0_ := Aside0.mk (blk_below HX0.out hb); clear HB HX0 hx0 hb; have HB := n1_; have HX0 := m0_; clear n1_ m0_; have hx0 := (blk_cell HX0.out 0).trans (rfl : _ = some (Value.slice A0 l0.length c0))))
      go_ret3
      exact ⟨_, rfl, Kd.R_nil _ _ _ _ _, HB.out⟩
    · rw [if_neg c5] at H
      have c5b : decide (a1 < 1) = false := decide_eq_false c5
      by_cases c6 : a1 > 4
      · rw [if_pos c6] at H
        have c6b : decide (4 < a1) = true := decide_eq_true c6
        simp only [Option.some.injEq, Prod.mk.injEq] at H
        obtain ⟨rfl, rfl, rfl⟩ := H
        go_enter Try.func38, Try.ntmps38
        go_wp2_with (first | ((with_reducible refine gate_callee (f := 43) rfl ?_); refine goesL_ (some 16) rfl rfl Try.func43 (by kernel_rfl) rfl #[.slice A0 l0.length c0, .int .i64 14] rfl (by (try simp only [List.map_toArray, List.map_cons, List.map_nil]); first | done | rfl) ?_; (with_reducible refine (tug_check.calls k _ _ l0 14 t7 _ ?side1 ?side2 A3.out).mono ?_); (case side1 => exact (Kd.C_below HR0.out HB.out)); (case side2 => exact HC0.out); rintro e w5 ⟨rfl, hb⟩; refine ⟨_, rfl, ?_⟩; have n1_ := Aside0.mk (below_step HB.out hb); have m0_ := Aside0.mk (blk_below HX0.out hb); clear HB HX0 hx0 hb; have HB := n1_; have HX0 := m0_; clear n1_ m0_; have hx0 := (blk_cell HX0.out 0).trans (rfl : _ = some (Value.slice A0 l0.length c0))))
        go_ret3
        exact ⟨_, rfl, Kd.R_nil _ _ _ _ _, HB.out⟩
      · rw [if_neg c6] at H
        have c6b : decide (4 < a1) = false := decide_eq_false c6
        by_cases c7 : 0 < l0.length ∧ l0.length < 20
        · rw [if_pos c7] at H
          have HL0 := Aside0.mk c7
          have HK4 := Aside0.mk (And.intro c5 c6)
          clear c5 c6 c7
          have H' := Aside0.mk H
          clear H
          obtain ⟨i0, hi0, hz0, hz1, hz2⟩ := info_parts info3
          have I0 := Aside0.mk (And.intro hi0 (And.intro hz0 (And.intro hz1 hz2)))
          clear hi0 hz0 hz1 hz2
          go_enter Try.func38, Try.ntmps38
          go_wp2_with (first | ((with_reducible refine gate_callee (f := 43) rfl ?_); refine goesL_ (some 16) rfl rfl Try.func43 (by kernel_rfl) rfl #[.slice A0 l0.length c0, .int .i64 14] rfl (by (try simp only [List.map_toArray, List.map_cons, List.map_nil]); first | done | rfl) ?_; (with_reducible refine (tug_check.calls k _ _ l0 14 t7 _ ?side1 ?side2 A3.out).mono ?_); (case side1 => exact (Kd.C_below HR0.out HB.out)); (case side2 => exact HC0.out); rintro e w5 ⟨rfl, hb⟩; refine ⟨_, rfl, ?_⟩; have n1_ := Aside0.mk (below_step HB.out hb); have m0_ := Aside0.mk (blk_below HX0.out hb); clear HB HX0 hx0 hb; have HB := n1_; have HX0 := m0_; clear n1_ m0_; have hx0 := (blk_cell HX0.out 0).trans (rfl : _ = some (Value.slice A0 l0.length c0))) | ((with_reducible refine gate_dst (N := 28) rfl ?_); refine Kd.R_make (Kd.int .i64) w.heap.size 3 rfl (N := 28) rfl 22 _ _ rfl (l0.length : Int) rfl rfl Try.underlying22 (.int .i64 0) 8 info3 rfl (by decide) (by decide) 0 (ok := fun _ => True) (okp := fun _ => True) rfl (fun _ hk => hk) trivial (by omega) (by have := HL0.out.2; omega) HB.out HB.out.size ?_; intro v28 w6 ho hb hg hat; obtain ⟨go1, cap1, e28, hgb, hgl, _⟩ := Kd.R_form ho (by rw [List.length_replicate]; have := HL0.out.1; omega); subst e28; rw [List.length_replicate, Int.toNat_natCast, ← gfill_zero] at ho; (rw [List.length_replicate, Int.toNat_natCast]); have HO1 := Aside0.mk (Kd.R_reok (ok := fun k_ => k_ = go1) rfl ho (fun k_ hk_ => (Option.some.inj hk_).symm)); have HG1 := Aside0.mk (show w.heap.size ≠ go1 ∧ w.heap.size ≤ go1 from by obtain ⟨b_, hb_, hle_⟩ := hat; have e1_ := Option.some.inj hb_; have e2_ := blk_lt HX0.out; have e3_ : go1 = b_ := e1_; omega); have m0_ := Aside0.mk (blk_grown HX0.out hg (by simp)); have m1_ := Aside0.mk hb; clear HB HX0 hx0 ho hb hg hat hgb hgl; have HX0 := m0_; have HB := m1_; clear m0_ m1_; have hx0 := (blk_cell HX0.out 0).trans (rfl : _ = some (Value.slice A0 l0.length c0))))
          go_loopw [31] (fun v31 w' => ∃ j : Nat, j ≤ l0.length ∧ v31 = .int .i64 (j : Int) ∧ Aside0 (w'.heap[w.heap.size]? = some (.cells #[.slice A0 l0.length c0] 22 (0, 0))) ∧ Aside0 (Below w.heap.size w w') ∧ Aside0 (Kd.R (Kd.int .i64) 3 w' w.heap.size (fun k_ => k_ = go1) (.slice (some ⟨go1, 0, none⟩) l0.length cap1) (gfill l0.length j))) (fun v31 _ => l0.length - (intOf v31).toNat)
          case atStart => exact ⟨0, Nat.zero_le _, rfl, HX0, HB, HO1⟩
          case round =>
            clear HX0 HB HO1 hx0
            obtain ⟨j, hj, rfl, HX0, HB, HO1⟩ := hrel
            have hx0 := (blk_cell HX0.out 0).trans (rfl : _ = some (Value.slice A0 l0.length c0))
            by_cases hlt : j < l0.length
            · have hltb : decide ((j : Int) < (l0.length : Int)) = true := decide_eq_true (by omega)
              obtain ⟨hc1, hf1⟩ := Kd.R_celln 0 HO1.out (j : Int) (by omega) (by omega)
              rw [Int.toNat_natCast] at hc1 hf1
              have HST := Aside0.mk (Kd.R_putg HO1.out (j : Int) (j : Int)).1
              have hj20 := HL0.out.2
              go_wp2
              go_roundw
              case rel => exact ⟨j + 1, by omega, by go_num, ⟨blk_far HX0.out HG1.out.1 _⟩, ⟨below_set HB.out HG1.out.2⟩, ⟨by have h_ := HST.out; rw [Int.toNat_natCast, gfill_set _ _ hlt] at h_; exact h_⟩⟩
              case measure => simp [intOf]; omega
            · have hltb : decide ((j : Int) < (l0.length : Int)) = false := decide_eq_false (by omega)
              obtain rfl : j = l0.length := by omega
              letI : Inhabited (Fin l0.length) := ⟨⟨0, HL0.out.1⟩⟩
              have HFACT := Aside0.mk (greedy_row (w := w) HL0.out.1 HO1.out)
              have HLT := Aside0.mk HFACT.out.1
              have HHO := Aside0.mk HFACT.out.2.1
              have HSG := Aside0.mk (fun q => HFACT.out.2.2.1 q)
              have HSO := Aside0.mk (fun q => HFACT.out.2.2.2 q)
              clear HFACT hj
              go_upto_region 13 with (first | ((with_reducible refine gate_callee (f := 61) rfl ?_); refine goesL_ (some 41) rfl rfl Try.func61 (by kernel_rfl) rfl #[.slice (some ⟨go1, 0, none⟩) l0.length cap1, .func (.func 62) #[] #[.pointer (some ⟨w.heap.size, 0, none⟩)]] rfl (by (try simp only [List.map_toArray, List.map_cons, List.map_nil]); first | done | rfl) ?_; refine (greedy_sort A0 c0 l0 w.heap.size go1 cap1 w wr HL0.out.1 HL0.out.2 HR0.out HB.out hx0 HG1.out.1 HG1.out.2 HLT.out HHO.out).mono ?_; rintro e w8 ⟨rfl, q, hq⟩; refine ⟨_, rfl, ?_⟩; have hg_ : wr.grownBy w8 (some go1) := (by rw [hq]; exact HSG.out q); have n0_ := Aside0.mk (blk_grown HX0.out hg_ (by simpa using HG1.out.1)); have n1_ := Aside0.mk (HB.out.grown hg_ HB.out.size (fun k_ hk_ => by cases hk_; exact HG1.out.2)); have n2_ : Aside0 (Kd.R (Kd.int .i64) 3 w8 w.heap.size (fun k_ => k_ = go1) (.slice (some ⟨go1, 0, none⟩) l0.length cap1) (gorder l0)) := ⟨by rw [hq]; exact HSO.out q⟩; clear HX0 HB HO1 hx0 hq hg_; have HX0 := n0_; have HB := n1_; have HO1 := n2_; clear n0_ n1_ n2_; have hx0 := (blk_cell HX0.out 0).trans (rfl : _ = some (Value.slice A0 l0.length c0))))
              simp only [Act.put, List.setIfInBounds_toArray, List.set_cons_succ, List.set_cons_zero]
              go_cut [10, 11, 42, 43, 44, 45, 46] (fun v10 v11 v42 v43 v44 v45 v46 wc => ∃ (g10 c10 g11 c11 : Nat), v10 = .slice (some ⟨g10, 0, none⟩) l0.length c10 ∧ v11 = .slice (some ⟨g11, 0, none⟩) a1.toNat c11 ∧ Aside0 (w.heap.size ≠ g10 ∧ w.heap.size ≠ g11 ∧ go1 ≠ g10 ∧ go1 ≠ g11 ∧ g10 ≠ g11 ∧ w.heap.size ≤ g10 ∧ w.heap.size ≤ g11) ∧ Aside0 (wc.heap[w.heap.size]? = some (.cells #[.slice A0 l0.length c0] 22 (0, 0))) ∧ Aside0 (Below w.heap.size w wc) ∧ Aside0 (Kd.R (Kd.int .i64) 3 wc w.heap.size (fun k_ => k_ = go1) (.slice (some ⟨go1, 0, none⟩) l0.length cap1) (gorder l0)) ∧ Aside0 (Kd.R (Kd.int .i64) 3 wc w.heap.size (fun k_ => k_ = g10) (.slice (some ⟨g10, 0, none⟩) l0.length c10) (List.replicate l0.length 0)) ∧ Aside0 (Kd.R (Kd.int .i64) 3 wc w.heap.size (fun k_ => k_ = g11) (.slice (some ⟨g11, 0, none⟩) a1.toNat c11) (List.replicate a1.toNat 0)))
              case first =>
                have HA1 := Aside0.mk (show 0 ≤ a1 by have := HK4.out; omega)
                have HKn := Aside0.mk (show a1.toNat < 1000 by have := HK4.out; omega)
                obtain ⟨wA, hrA, hA1, hA2, hA3, hA4, hA5⟩ := make_row (W := w8.drew) I0.out (l0.length : Int) l0.length rfl (by have := HL0.out.2; omega) HX0.out (below_drew1 HB.out)
                obtain ⟨wA2, hrA2, kA1, kA2, kA3, kA4, kA5⟩ := make_row (W := wA) I0.out a1 a1.toNat (by have := HA1.out; omega) HKn.out hA3 hA4
                obtain ⟨wB, hrB, hB1, hB2, hB3, hB4, hB5⟩ := make_row (W := w8.drew) I0.out a1 a1.toNat (by have := HA1.out; omega) HKn.out HX0.out (below_drew1 HB.out)
                obtain ⟨wB2, hrB2, kB1, kB2, kB3, kB4, kB5⟩ := make_row (W := wB) I0.out (l0.length : Int) l0.length rfl (by have := HL0.out.2; omega) hB3 hB4
                have HO1d := Kd.R_drew HO1.out
                have FA := Aside0.mk (And.intro (row_grown (row_grown HO1d hA2) kA2) (And.intro (row_grown hA1 kA2) kA1))
                have FB := Aside0.mk (And.intro (row_grown (row_grown HO1d hB2) kB2) (And.intro kB1 (row_grown hB1 kB2)))
                have NA := Aside0.mk (show w.heap.size ≠ w8.drew.heap.size ∧ w.heap.size ≠ wA.heap.size ∧ go1 ≠ w8.drew.heap.size ∧ go1 ≠ wA.heap.size ∧ w8.drew.heap.size ≠ wA.heap.size ∧ w.heap.size ≤ w8.drew.heap.size ∧ w.heap.size ≤ wA.heap.size from by
                  have e1 := blk_lt HX0.out
                  have e2 := own_lt (Kd.own_of_R HO1.out) go1 rfl
                  have e3 : w8.drew.heap.size = w8.heap.size := rfl
                  omega)
                have NB := Aside0.mk (show w.heap.size ≠ wB.heap.size ∧ w.heap.size ≠ w8.drew.heap.size ∧ go1 ≠ wB.heap.size ∧ go1 ≠ w8.drew.heap.size ∧ wB.heap.size ≠ w8.drew.heap.size ∧ w.heap.size ≤ wB.heap.size ∧ w.heap.size ≤ w8.drew.heap.size from by
                  have e1 := blk_lt HX0.out
                  have e2 := own_lt (Kd.own_of_R HO1.out) go1 rfl
                  have e3 : w8.drew.heap.size = w8.heap.size := rfl
                  omega)
                have XA := Aside0.mk (And.intro kA3 kA4)
                have XB := Aside0.mk (And.intro kB3 kB4)
                have hxA := (blk_cell hA3 0).trans (rfl : _ = some (Value.slice A0 l0.length c0))
                have hxA2 := (blk_cell kA3 0).trans (rfl : _ = some (Value.slice A0 l0.length c0))
                have hxB := (blk_cell hB3 0).trans (rfl : _ = some (Value.slice A0 l0.length c0))
                have hxB2 := (blk_cell kB3 0).trans (rfl : _ = some (Value.slice A0 l0.length c0))
                clear hA1 hA2 hA3 hA4 hA5 kA1 kA2 kA3 kA4 kA5 hB1 hB2 hB3 hB4 hB5 kB1 kB2 kB3 kB4 kB5 HO1d
                go_region_held3 (fun w' => w'.cell? ⟨w.heap.size, 0, none⟩ = some (.slice A0 l0.length c0)) (first | exact hx0 | exact hxA | exact hxA2 | exact hxB | exact hxB2) (first | fail)
                all_goals
                  clear hrA hrA2 hrB hrB2 hmf hxA hxA2 hxB hxB2 hx0
                  go_wp2
                  go_meet
                  case rel => first | exact ⟨_, _, _, _, rfl, rfl, NA, ⟨XA.out.1⟩, ⟨XA.out.2⟩, ⟨FA.out.1⟩, ⟨FA.out.2.1⟩, ⟨FA.out.2.2⟩⟩ | exact ⟨_, _, _, _, rfl, rfl, NB, ⟨XB.out.1⟩, ⟨XB.out.2⟩, ⟨FB.out.1⟩, ⟨FB.out.2.1⟩, ⟨FB.out.2.2⟩⟩
              case rest =>
                obtain ⟨g10, c10, g11, c11, rfl, rfl, HNE, HX0, HB, HO1, HO10, HO11⟩ := hcut
                have HG := Aside0.mk (GSt.mk (go1 := go1) (cap1 := cap1) HX0.out HB.out HO1.out HO10.out HO11.out)
                have HC11 := Aside0.mk (Kd.R_reads' HO11.out).2.1
                clear HX0 HB HO1 HO10 HO11
                go_wp2
                go_loopg [49] k (fun kq v49 w' => ∃ (x49 : Int) (x10 x11 : List Int), v49 = .int .i64 x49 ∧ Aside0 (greedy.l0 l0 (gorder l0) kq x10 x11 x49 = some (r1, r2, r3)) ∧ Aside0 (kq ≤ k) ∧ Aside0 (GSt w A0 c0 l0 go1 cap1 g10 c10 g11 c11 a1.toNat w' x10 x11))
                case atStart => exact ⟨0, _, _, (by first | rfl | (simp; done)), H', ⟨Nat.le_refl _⟩, HG⟩
                case round =>
                  clear H' HG
                  obtain ⟨x49, x10, x11, rfl, HA, HK1, HG⟩ := hrel
                  cases gk with
                  | zero => exact absurd HA.out (by simp [greedy.l0])
                  | succ k1 =>
                    have H := HA.out
                    clear HA
                    simp only [greedy.l0] at H
                    rw [gorder_length] at H
                    have hl10 := (Kd.R_reads' HG.out.h10).1
                    have hl11 := (Kd.R_reads' HG.out.h11).1
                    by_cases c11b : x49 < (l0.length : Int)
                    · rw [if_pos c11b] at H
                      have c11c : decide (x49 < (l0.length : Int)) = true := decide_eq_true c11b
                      by_cases c12 : 0 ≤ x49
                      · rw [if_pos c12] at H
                        obtain ⟨m, A5, H⟩ := Option.bind_eq_some_iff.mp H
                        obtain ⟨t, A6, H⟩ := Option.bind_eq_some_iff.mp H
                        by_cases c13 : 0 ≤ t ∧ t < (x11.length : Int) ∧ 0 ≤ rd (gorder l0) x49 ∧ rd (gorder l0) x49 < (x10.length : Int) ∧ rd (gorder l0) x49 < (l0.length : Int)
                        · rw [if_pos c13] at H
                          have A5 := Aside0.mk A5
                          have A6 := Aside0.mk A6
                          have H' := Aside0.mk H
                          clear H
                          obtain ⟨q1, q2, q3, q4, q5⟩ := c13
                          have P1 := Aside0.mk q1
                          have P2 := Aside0.mk (show t < (a1.toNat : Int) by omega)
                          have P3 := Aside0.mk q3
                          have P4 := Aside0.mk (show rd (gorder l0) x49 < (l0.length : Int) from q5)
                          have HMin := Aside0.mk (fun (W : World) (h1 : Kd.C (Kd.int .i64) W (some ⟨g11, 0, none⟩) a1.toNat x11) (h2 : a1.toNat ≤ c11) (h3 : slices_Min_int_int.f k1 x11 = some m) => show Calls Try.prog 56 #[.slice (some ⟨g11, 0, none⟩) a1.toNat c11] W fun e w' => e = .returned (.int .i64 m) ∧ Below W.heap.size W w' from by rw [hl11] at h1 h2 ⊢; exact slices_Min_int_int.calls k1 _ _ x11 m W h1 h2 h3)
                          have HIdx := Aside0.mk (fun (W : World) (h1 : Kd.C (Kd.int .i64) W (some ⟨g11, 0, none⟩) a1.toNat x11) (h2 : a1.toNat ≤ c11) (h3 : slices_Index_int_int.f k1 x11 m = some t) => show Calls Try.prog 63 #[.slice (some ⟨g11, 0, none⟩) a1.toNat c11, .int .i64 m] W fun e w' => e = .returned (.int .i64 t) ∧ Drawn0 W w' from by rw [hl11] at h1 h2 ⊢; exact slices_Index_int_int.calls k1 _ _ x11 m t W h1 h2 h3)
                          clear hl10 hl11 q1 q2 q3 q4 q5
                          obtain ⟨hxo, _⟩ := Kd.R_celln 0 HG.out.h1 x49 c12 c11b
                          rw [grdOf] at hxo
                          have hx0 := HG.out.c0_
                          have hq3 := P3.out
                          have hq4 := P4.out
                          go_wp2_with (first | ((with_reducible refine gate_callee (f := 56) rfl ?_); refine goesL_ (some 55) rfl rfl Try.func56 (by kernel_rfl) rfl #[.slice (some ⟨g11, 0, none⟩) a1.toNat c11] rfl (by (try simp only [List.map_toArray, List.map_cons, List.map_nil]); first | done | rfl) ?_; (refine (HMin.out _ (GSt.c11_ HG.out) HC11.out A5.out).mono ?_); rintro e w9 ⟨rfl, hb⟩; refine ⟨_, rfl, ?_⟩; have n0_ := Aside0.mk (HG.out.below hb); clear HG hx0 hxo hb; have HG := n0_; clear n0_) | ((with_reducible refine gate_callee (f := 63) rfl ?_); refine goesL_ (some 56) rfl rfl Try.func63 (by kernel_rfl) rfl #[.slice (some ⟨g11, 0, none⟩) a1.toNat c11, .int .i64 m] rfl (by (try simp only [List.map_toArray, List.map_cons, List.map_nil]); first | done | rfl) ?_; (refine (HIdx.out _ (GSt.c11_ HG.out) HC11.out A6.out).mono ?_); rintro e w10 ⟨rfl, hd⟩; refine ⟨_, rfl, ?_⟩; have n0_ := Aside0.mk (HG.out.below hd.below); clear HG hd; have HG := n0_; clear n0_; obtain ⟨hs10, hf10⟩ := Kd.R_celln 0 HG.out.h10 (rd (gorder l0) x49) P3.out P4.out))
                          have n0_ := Aside0.mk (HG.out.set10 HNE.out (rd (gorder l0) x49) t)
                          clear HG hs10 hf10 hq3 hq4
                          have HG := n0_
                          clear n0_
                          generalize (w10.setCell ⟨g10, (rd (gorder l0) x49).toNat, none⟩ (.int .i64 t)) = w11 at HG ⊢
                          have hq3 := P3.out
                          have hq4 := P4.out
                          have hq1 := P1.out
                          have hq2 := P2.out
                          obtain ⟨i, hi⟩ : ∃ j_ : Int, rd (gorder l0) x49 = j_ := ⟨_, rfl⟩
                          rw [hi] at HG hq3 hq4 H'
                          have hrw := hi
                          obtain ⟨ad, ead, hxp⟩ := Kd.at_int HR0.out i hq3 hq4
                          cases ead
                          replace hxp := (HG.out.hb.cell (World.block_lt_of_cell? w _ hxp)).trans hxp
                          obtain ⟨hxs, hfs⟩ := Kd.R_celln 0 HG.out.h11 t hq1 hq2
                          rw [grdOf] at hxs
                          have hx0 := HG.out.c0_
                          obtain ⟨y, hy⟩ : ∃ j_ : Int, wrap64 (rd x11 t + rd l0 i) = j_ := ⟨_, rfl⟩
                          rw [hy] at H'
                          have hyw : IntKind.i64.wrap (rd x11 t + rd l0 i) = y := (i64_w _).trans hy
                          go_region
                          have n0_ := Aside0.mk (HG.out.set11 HNE.out t y).drew
                          clear HG hxs hfs hx0 hxp
                          have HG := n0_
                          clear n0_
                          generalize (w11.setCell ⟨g11, t.toNat, none⟩ (.int .i64 y)).drew = w12 at HG ⊢
                          go_wp2
                          go_roundg k1
                          case measure => have := HK1.out; omega
                          case rel => exact ⟨wrap64 (x49 + 1), _, _, (by first | rfl | (simp; done) | (simp [*]; done)), H', ⟨by have := HK1.out; omega⟩, HG⟩
                        · rw [if_neg c13] at H
                          exact absurd H (by simp)
                      · rw [if_neg c12] at H
                        exact absurd H (by simp)
                    · rw [if_neg c11b] at H
                      have c11c : decide (x49 < (l0.length : Int)) = false := decide_eq_false c11b
                      obtain ⟨m, A5, H⟩ := Option.bind_eq_some_iff.mp H
                      have A5 := Aside0.mk A5
                      have HMax := Aside0.mk (fun (W : World) (h1 : Kd.C (Kd.int .i64) W (some ⟨g11, 0, none⟩) a1.toNat x11) (h2 : a1.toNat ≤ c11) (h3 : slices_Max_int_int.f k1 x11 = some m) => show Calls Try.prog 52 #[.slice (some ⟨g11, 0, none⟩) a1.toNat c11] W fun e w' => e = .returned (.int .i64 m) ∧ Below W.heap.size W w' from by rw [hl11] at h1 h2 ⊢; exact slices_Max_int_int.calls k1 _ _ x11 m W h1 h2 h3)
                      clear hl10 hl11
                      simp only [Option.some.injEq, Prod.mk.injEq] at H
                      obtain ⟨rfl, rfl, rfl⟩ := H
                      go_wp2_with (first | ((with_reducible refine gate_callee (f := 52) rfl ?_); refine goesL_ (some 73) rfl rfl Try.func52 (by kernel_rfl) rfl #[.slice (some ⟨g11, 0, none⟩) a1.toNat c11] rfl (by (try simp only [List.map_toArray, List.map_cons, List.map_nil]); first | done | rfl) ?_; (refine (HMax.out _ (GSt.c11_ HG.out) HC11.out A5.out).mono ?_); rintro e w9 ⟨rfl, hb⟩; refine ⟨_, rfl, ?_⟩; have n0_ := Aside0.mk (HG.out.below hb); clear HG hb; have HG := n0_; clear n0_))
                      go_ret3
                      exact ⟨_, rfl, Kd.R_mono HG.out.h10 (fun _ _ => trivial), HG.out.hb⟩
        · rw [if_neg c7] at H
          exact absurd H (by simp)
  · rw [if_neg c4] at H
    have c4b0 : (t7 == 0) = false := beq_eq_false_iff_ne.mpr c4
    have c4b1 : (t7 != 0) = true := bne_iff_ne.mpr c4
    clear c4
    simp only [Option.some.injEq, Prod.mk.injEq] at H
    obtain ⟨rfl, rfl, rfl⟩ := H
    go_enter Try.func38, Try.ntmps38
    go_wp2_with (first | ((with_reducible refine gate_callee (f := 43) rfl ?_); refine goesL_ (some 16) rfl rfl Try.func43 (by kernel_rfl) rfl #[.slice A0 l0.length c0, .int .i64 14] rfl (by (try simp only [List.map_toArray, List.map_cons, List.map_nil]); first | done | rfl) ?_; (with_reducible refine (tug_check.calls k _ _ l0 14 t7 _ ?side1 ?side2 A3.out).mono ?_); (case side1 => exact (Kd.C_below HR0.out HB.out)); (case side2 => exact HC0.out); rintro e w5 ⟨rfl, hb⟩; refine ⟨_, rfl, ?_⟩; have n1_ := Aside0.mk (below_step HB.out hb); have m0_ := Aside0.mk (blk_below HX0.out hb); clear HB HX0 hx0 hb; have HB := n1_; have HX0 := m0_; clear n1_ m0_; have hx0 := (blk_cell HX0.out 0).trans (rfl : _ = some (Value.slice A0 l0.length c0))))
    go_ret3
    exact ⟨_, rfl, Kd.R_nil _ _ _ _ _, HB.out⟩
end Go.Proofs.Ytpfbdpeohlohoaa.H
