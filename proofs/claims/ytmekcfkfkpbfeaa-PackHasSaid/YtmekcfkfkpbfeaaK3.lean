/- The walks of slices.Min, Max, Clone, pack.one, read, list, minimal, has, whole. -/
import Derived.Test.YtmekcfkfkpbfeaaGa0
import Derived.BigRegion
import Derived.BigQuiet
import Derived.Deep.RegionHeld3
import Derived.Outline
import Derived.LoopN
import Derived.Test.YtmekcfkfkpbfeaaK2
import Derived.WalkSpells
namespace Go.Proofs.Ytmekcfkfkpbfeaa.H
open Go.RowKit Go.Proofs.YtmekcfkfkpbfeaaW.PrintWords Go.Proofs.YtmekcfkfkpbfeaaW.PrintLast Go.Proofs.YtmekcfkfkpbfeaaW.PrintMore
attribute [local go_sem] max2_int min2_int max_two min_two max_three min_three max_four min_four
set_option linter.unusedVariables false
set_option linter.unusedSimpArgs false
theorem mn_l {x y : Int} (h : y < x) : mn x y = y := by unfold mn; rw [if_pos h]
theorem mn_r {x y : Int} (h : ¬ y < x) : mn x y = x := by unfold mn; rw [if_neg h]
def MinTo (l : List Int) (k : Nat) : Int := ((l.take k).drop 1).foldl mn (rd l 0)
theorem Min_step (l : List Int) (k : Nat) (h1 : 1 ≤ k) (h2 : k < l.length) : MinTo l (k + 1) = mn (MinTo l k) (rd l (k : Int)) := by
  unfold MinTo
  rw [List.take_succ_eq_append_getElem h2, List.drop_append_of_le_length (by rw [List.length_take]; omega), List.foldl_append]
  unfold rd
  simp [List.getD_eq_getElem?_getD, List.getElem?_eq_getElem h2]
theorem Min_one (l : List Int) : MinTo l 1 = rd l 0 := by
  unfold MinTo
  cases l <;> rfl
set_option maxRecDepth 100000 in
set_option maxHeartbeats 4000000 in
theorem Min_calls (A : Option Addr) (c : Nat) (l : List Int) (w : World) (hr : Kd.C (Kd.int .i64) w A l.length l) (h1 : 1 ≤ l.length) (hl : l.length < 1000000000) :
    Calls Try.prog 78 #[.slice A l.length c] w fun e w' => e = .returned (.int .i64 (MinTo l l.length)) ∧ w' = w := by
  have HR := Aside0.mk hr
  obtain ⟨ad, e, c0⟩ := Kd.at_int hr 0 (by omega) (by omega)
  subst e
  rw [show ((0 : Int)).toNat = 0 from rfl, Addr.add_zero'] at c0
  have hb0 : decide ((l.length : Int) < 1) = false := decide_eq_false (by omega)
  have hb1 : decide (l.length < 1) = false := decide_eq_false (by omega)
  have hb2 : decide (0 < (l.length : Int)) = true := decide_eq_true (by omega)
  have hb3 : decide (0 < l.length) = true := decide_eq_true (by omega)
  have hp : (0 < l.length) = True := eq_true (by omega)
  clear hr
  have H1 := Aside0.mk h1
  clear h1
  go_enter Try.func78, Try.ntmps78
  go_wp2
  go_loop [3, 4] (fun v3 v4 => ∃ k : Nat, 1 ≤ k ∧ k ≤ l.length ∧ v4 = .int .i64 (k : Int) ∧ v3 = .int .i64 (MinTo l k)) (fun _ v4 => l.length - (intOf v4).toNat)
  case atStart => exact ⟨1, by omega, H1.out, rfl, by rw [Min_one]⟩
  case round =>
    clear hb0 hb1 hb2 hb3 hp c0
    obtain ⟨k, hk1, hk2, rfl, rfl⟩ := hrel
    by_cases hlt : k < l.length
    · have hltb : decide ((k : Int) < (l.length : Int)) = true := decide_eq_true (by omega)
      have hk0 : (0 : Int) ≤ (k : Int) := by omega
      obtain ⟨ad', e, c1⟩ := Kd.at_int HR.out (k : Int) (by omega) (by omega)
      cases e
      rw [Int.toNat_natCast] at c1
      have HS := Aside0.mk (Min_step l k hk1 hlt)
      generalize MinTo l k = x at *
      generalize rd l (k : Int) = y at *
      go_wp2
      all_goals
        go_round
        case rel => exact ⟨k + 1, by omega, by omega, by go_num, by rw [HS.out]; first | rfl | rw [mn_l (by omega)] | rw [mn_r (by omega)]⟩
        case measure => simp [intOf]; omega
    · have hltb : decide ((k : Int) < (l.length : Int)) = false := decide_eq_false (by omega)
      obtain rfl : k = l.length := by omega
      go_wp2
      go_ret
      exact ⟨rfl, rfl⟩
theorem Min_iff (l : List Int) (b : Int) : ∀ (x : Int), (b ≤ l.foldl mn x) ↔ (b ≤ x ∧ ∀ y ∈ l, b ≤ y) := by
  induction l with
  | nil => intro x; simp
  | cons a l ih =>
    intro x
    rw [List.foldl_cons, ih]
    simp only [List.mem_cons, forall_eq_or_imp]
    have h : (b ≤ mn x a) ↔ (b ≤ x ∧ b ≤ a) := by unfold mn; split <;> omega
    rw [h, and_assoc]
theorem MinTo_iff (l : List Int) (b : Int) (h1 : 1 ≤ l.length) : (b ≤ MinTo l l.length) ↔ ∀ y ∈ l, b ≤ y := by
  unfold MinTo
  rw [Min_iff, List.take_length]
  cases l with
  | nil => simp at h1
  | cons a l => simp [rd]
def MaxTo (l : List Int) (k : Nat) : Int := ((l.take k).drop 1).foldl mx (rd l 0)
theorem Max_step (l : List Int) (k : Nat) (h1 : 1 ≤ k) (h2 : k < l.length) : MaxTo l (k + 1) = mx (MaxTo l k) (rd l (k : Int)) := by
  unfold MaxTo
  rw [List.take_succ_eq_append_getElem h2, List.drop_append_of_le_length (by rw [List.length_take]; omega), List.foldl_append]
  unfold rd
  simp [List.getD_eq_getElem?_getD, List.getElem?_eq_getElem h2]
theorem Max_one (l : List Int) : MaxTo l 1 = rd l 0 := by
  unfold MaxTo
  cases l <;> rfl
set_option maxRecDepth 100000 in
set_option maxHeartbeats 4000000 in
theorem Max_calls (A : Option Addr) (c : Nat) (l : List Int) (w : World) (hr : Kd.C (Kd.int .i64) w A l.length l) (h1 : 1 ≤ l.length) (hl : l.length < 1000000000) :
    Calls Try.prog 79 #[.slice A l.length c] w fun e w' => e = .returned (.int .i64 (MaxTo l l.length)) ∧ w' = w := by
  have HR := Aside0.mk hr
  obtain ⟨ad, e, c0⟩ := Kd.at_int hr 0 (by omega) (by omega)
  subst e
  rw [show ((0 : Int)).toNat = 0 from rfl, Addr.add_zero'] at c0
  have hb0 : decide ((l.length : Int) < 1) = false := decide_eq_false (by omega)
  have hb1 : decide (l.length < 1) = false := decide_eq_false (by omega)
  have hb2 : decide (0 < (l.length : Int)) = true := decide_eq_true (by omega)
  have hb3 : decide (0 < l.length) = true := decide_eq_true (by omega)
  have hp : (0 < l.length) = True := eq_true (by omega)
  clear hr
  have H1 := Aside0.mk h1
  clear h1
  go_enter Try.func79, Try.ntmps79
  go_wp2
  go_loop [3, 4] (fun v3 v4 => ∃ k : Nat, 1 ≤ k ∧ k ≤ l.length ∧ v4 = .int .i64 (k : Int) ∧ v3 = .int .i64 (MaxTo l k)) (fun _ v4 => l.length - (intOf v4).toNat)
  case atStart => exact ⟨1, by omega, H1.out, rfl, by rw [Max_one]⟩
  case round =>
    clear hb0 hb1 hb2 hb3 hp c0
    obtain ⟨k, hk1, hk2, rfl, rfl⟩ := hrel
    by_cases hlt : k < l.length
    · have hltb : decide ((k : Int) < (l.length : Int)) = true := decide_eq_true (by omega)
      have hk0 : (0 : Int) ≤ (k : Int) := by omega
      obtain ⟨ad', e, c1⟩ := Kd.at_int HR.out (k : Int) (by omega) (by omega)
      cases e
      rw [Int.toNat_natCast] at c1
      have HS := Aside0.mk (Max_step l k hk1 hlt)
      generalize MaxTo l k = x at *
      generalize rd l (k : Int) = y at *
      go_wp2
      all_goals
        go_round
        case rel => exact ⟨k + 1, by omega, by omega, by go_num, by rw [HS.out]; first | rfl | rw [mx_l (by omega)] | rw [mx_r (by omega)]⟩
        case measure => simp [intOf]; omega
    · have hltb : decide ((k : Int) < (l.length : Int)) = false := decide_eq_false (by omega)
      obtain rfl : k = l.length := by omega
      go_wp2
      go_ret
      exact ⟨rfl, rfl⟩
theorem Max_iff (l : List Int) (b : Int) : ∀ (x : Int), (l.foldl mx x ≤ b) ↔ (x ≤ b ∧ ∀ y ∈ l, y ≤ b) := by
  induction l with
  | nil => intro x; simp
  | cons a l ih =>
    intro x
    rw [List.foldl_cons, ih]
    simp only [List.mem_cons, forall_eq_or_imp]
    have h : (mx x a ≤ b) ↔ (x ≤ b ∧ a ≤ b) := by unfold mx; split <;> omega
    rw [h, and_assoc]
theorem MaxTo_iff (l : List Int) (b : Int) (h1 : 1 ≤ l.length) : (MaxTo l l.length ≤ b) ↔ ∀ y ∈ l, y ≤ b := by
  unfold MaxTo
  rw [Max_iff, List.take_length]
  cases l with
  | nil => simp at h1
  | cons a l => simp [rd]
end Go.Proofs.Ytmekcfkfkpbfeaa.H
namespace Go.Proofs.Ytmekcfkfkpbfeaa.H
open Go.RowKit Go.Proofs.YtmekcfkfkpbfeaaW.PrintWords Go.Proofs.YtmekcfkfkpbfeaaW.PrintLast Go.Proofs.YtmekcfkfkpbfeaaW.PrintMore
attribute [local go_sem] max2_int min2_int max_two min_two max_three min_three max_four min_four
set_option linter.unusedVariables false
set_option linter.unusedSimpArgs false
/-- Numbers as exponents: those that are not there are 0. -/
def ofL (l : List Int) : M4 := (rd l 0, rd l 1, rd l 2, rd l 3)
def okL (l : List Int) : Bool := decide (0 ≤ MinTo l l.length) && decide (MaxTo l l.length ≤ 6)
theorem okL_iff (l : List Int) (h : 1 ≤ l.length) : okL l = true ↔ ∀ y ∈ l, 0 ≤ y ∧ y ≤ 6 := by
  unfold okL
  rw [Bool.and_eq_true, decide_eq_true_iff, decide_eq_true_iff, MinTo_iff l 0 h, MaxTo_iff l 6 h]
  exact ⟨fun h y hy => ⟨h.1 y hy, h.2 y hy⟩, fun h => ⟨fun y hy => (h y hy).1, fun y hy => (h y hy).2⟩⟩
theorem copy_ (A : Option Addr) (c : Nat) (l : List Int) (w : World) (b : Nat) (w0 : World) (hb : w0.heap.size = b) (hw : w = w0.alloc (.cells #[.int .i64 0, .int .i64 0, .int .i64 0, .int .i64 0] 76)) (hr : Kd.C (Kd.int .i64) w A l.length l) (h1 : 1 ≤ l.length) (h4 : l.length ≤ 4) :
    (Builtin.copy_ #[27, 27] 3 #[.slice (some ⟨b, 0, none⟩) 4 4, .slice A l.length c]).run Try.prog w = .ok (.int .i64 (l.length : Int)) (w0.alloc (.cells #[.int .i64 (rd l 0), .int .i64 (rd l 1), .int .i64 (rd l 2), .int .i64 (rd l 3)] 76)) := by
  subst hb
  have hS : (Try.prog.info? 3).map (·.size) = some 1 := by kernel_rfl
  obtain ⟨ad, e, _⟩ := Kd.at_int hr 0 (by omega) (by omega)
  subst e
  have hblk : w.heap[w0.heap.size]? = some (.cells #[.int .i64 0, .int .i64 0, .int .i64 0, .int .i64 0] 76 (0, 0)) := by rw [hw]; exact heap_alloc_new _ _
  have h := run_copy_cells (P := Try.prog) w 27 27 3 3 w0.heap.size 0 4 4 ad l.length c (l.map (Value.int .i64)) Try.underlying27 hS (by rw [List.length_map]; exact (Nat.min_eq_left h4).symm) (fun j v hj => by
      rw [List.getElem?_map] at hj
      obtain ⟨x, hx, rfl⟩ := Option.map_eq_some_iff.1 hj
      have hjl := (List.getElem?_eq_some_iff.1 hx).1
      obtain ⟨ad', e, c1⟩ := Kd.at_int hr (j : Int) (by omega) (by omega)
      cases e
      rw [Int.toNat_natCast] at c1
      rw [c1]
      unfold rd
      rw [Int.toNat_natCast, List.getD_eq_getElem?_getD, hx]
      rfl) (fun j hj => by
      rw [List.length_map] at hj
      rw [blk_cell hblk, Nat.zero_add]
      have : j = 0 ∨ j = 1 ∨ j = 2 ∨ j = 3 := by omega
      rcases this with rfl | rfl | rfl | rfl <;> rfl) (fun j _ => blk_frozen hblk _) (fun v hv => by
      obtain ⟨x, _, rfl⟩ := List.mem_map.1 hv
      rfl)
  refine h.trans ?_
  rw [List.length_map]
  subst hw
  clear h hblk hr hS
  match l, h1, h4 with
  | [x0], _, _ => simp only [List.map_cons, List.map_nil, World.setCells, World.setCell_alloc_new]; rfl
  | [x0, x1], _, _ => simp only [List.map_cons, List.map_nil, World.setCells, World.setCell_alloc_new]; rfl
  | [x0, x1, x2], _, _ => simp only [List.map_cons, List.map_nil, World.setCells, World.setCell_alloc_new]; rfl
  | [x0, x1, x2, x3], _, _ => simp only [List.map_cons, List.map_nil, World.setCells, World.setCell_alloc_new]; rfl
set_option maxRecDepth 100000 in
set_option maxHeartbeats 8000000 in
theorem one_no (A : Option Addr) (c : Nat) (n : Int) (l : List Int) (w : World) (hn : (l.length : Int) ≠ n) :
    Calls Try.prog 48 #[.int .i64 n, .slice A l.length c] w fun e w' => e = .returned (.tuple #[mv (0, 0, 0, 0), .bool false]) ∧ Below w.heap.size w w' := by
  have hb : ((l.length : Int) != n) = true := bne_iff_ne.mpr hn
  clear hn
  go_enter Try.func48, Try.ntmps48
  go_wp2
  exact bodyPost_ret (v := .tuple #[.agg #[.int .i64 0, .int .i64 0, .int .i64 0, .int .i64 0], .bool false]) (by simp [results, Try.results48, go_sem]) rfl ⟨rfl, by repeat (first | exact Below.refl _ _ | apply below_alloc | apply below_drew1)⟩
set_option maxRecDepth 100000 in
set_option maxHeartbeats 8000000 in
theorem one_yes (A : Option Addr) (c : Nat) (l : List Int) (w : World) (hr : Kd.C (Kd.int .i64) w A l.length l) (h1 : 1 ≤ l.length) (h4 : l.length ≤ 4) :
    Calls Try.prog 48 #[.int .i64 (l.length : Int), .slice A l.length c] w fun e w' => e = .returned (.tuple #[mv (ofL l), .bool (okL l)]) ∧ Below w.heap.size w w' := by
  have hb : ((l.length : Int) != (l.length : Int)) = false := by simp
  have hcp := copy_ A c l _ (w.heap.size + 1) (w.alloc (.cells #[.int .i64 0, .int .i64 0, .int .i64 0, .int .i64 0] 76)) (by simp) rfl (Kd.C_alloc (Kd.C_alloc hr _) _) h1 h4
  have HR := Aside0.mk hr
  have HMin := Aside0.mk (fun w h => Min_calls A c l w h h1 (by omega))
  have HMax := Aside0.mk (fun w h => Max_calls A c l w h h1 (by omega))
  have HOK : Aside0 (okL l = (decide (0 ≤ MinTo l l.length) && decide (MaxTo l l.length ≤ 6))) := ⟨rfl⟩
  clear hr h1 h4
  unfold ofL mv
  dsimp only
  generalize rd l 0 = m0 at *
  generalize rd l 1 = m1 at *
  generalize rd l 2 = m2 at *
  generalize rd l 3 = m3 at *
  generalize okL l = ok at *
  generalize MinTo l l.length = x at *
  generalize MaxTo l l.length = y at *
  go_enter Try.func48, Try.ntmps48
  go_wp2
  clear hcp
  by_cases c1 : 0 ≤ x
  · have c1b : decide (0 ≤ x) = true := decide_eq_true c1
    rw [c1b, Bool.true_and] at HOK
    go_region_held3 (fun w' => w'.cell? ⟨w.heap.size + 1, 0, none⟩ = some (.int .i64 m0) ∧ w'.cell? ⟨w.heap.size + 1, 1, none⟩ = some (.int .i64 m1) ∧ w'.cell? ⟨w.heap.size + 1, 2, none⟩ = some (.int .i64 m2) ∧ w'.cell? ⟨w.heap.size + 1, 3, none⟩ = some (.int .i64 m3)) (go_keep) (first | (go_at_call 78; refine (HMin.out _ ?_).mono ?_; (repeat (first | exact HR.out | (with_reducible refine Kd.C_alloc ?_ _) | (with_reducible refine Kd.C_drewN ?_ _) | (with_reducible refine Kd.C_drew ?_))); rintro e w' ⟨rfl, rfl⟩) | (go_at_call 79; refine (HMax.out _ ?_).mono ?_; (repeat (first | exact HR.out | (with_reducible refine Kd.C_alloc ?_ _) | (with_reducible refine Kd.C_drewN ?_ _) | (with_reducible refine Kd.C_drew ?_))); rintro e w' ⟨rfl, rfl⟩))
    all_goals
      go_wp2
      rw [HOK.out]
      exact bodyPost_ret (v := .tuple #[.agg #[.int .i64 m0, .int .i64 m1, .int .i64 m2, .int .i64 m3], .bool (decide (y ≤ 6))]) (by simp [results, Try.results48, go_sem]) rfl ⟨rfl, by repeat (first | exact Below.refl _ _ | apply below_alloc | apply below_drew1)⟩
  · have c1b : decide (0 ≤ x) = false := decide_eq_false c1
    rw [c1b, Bool.false_and] at HOK
    have c2 : x < 0 := by omega
    clear c1
    refine wp_region_held_drew (S := (fun w' => w'.cell? ⟨w.heap.size + 1, 0, none⟩ = some (.int .i64 m0) ∧ w'.cell? ⟨w.heap.size + 1, 1, none⟩ = some (.int .i64 m1) ∧ w'.cell? ⟨w.heap.size + 1, 2, none⟩ = some (.int .i64 m2) ∧ w'.cell? ⟨w.heap.size + 1, 3, none⟩ = some (.int .i64 m3))) (by kernel_rfl) ?_ (fun hHeld => ?_)
    · first | assumption | (dsimp only; go_keep) | go_keep
    refine wpAnyH_take (i := 0) (oi := { dst := some 15, op := _, type := _, pos := _, after := _, guard := _ }) (v := ?_) rfl (by kernel_rfl) (by kernel_rfl) (by kernel_rfl) (fun _ _ _ h => h) (Or.inl ⟨by rfl, ?_⟩) (by assumption) ?_
    rotate_left
    · (intro w hSw; (try dsimp only at hSw); go_simp; try (with_reducible rfl))
    try simp only [Act.put, List.setIfInBounds_toArray, List.set_cons_zero, List.set_cons_succ]
    refine wpAnyH_take (i := 1) (oi := { dst := some 16, op := _, type := _, pos := _, after := _, guard := _ }) (v := ?_) rfl (by kernel_rfl) (by kernel_rfl) (by kernel_rfl) (fun _ _ _ h => h) (Or.inl ⟨by rfl, ?_⟩) (by assumption) ?_
    rotate_left
    · (intro w hSw; (try dsimp only at hSw); go_simp; try (with_reducible rfl))
    try simp only [Act.put, List.setIfInBounds_toArray, List.set_cons_zero, List.set_cons_succ]
    refine wpAnyH_ready (rs := [2]) (by kernel_rfl) (by simp) ?_
    refine AllReadyH.cons (o := { dst := some 17, op := _, type := _, pos := _, after := _, guard := _ }) rfl (fun K hK => ?_) AllReadyH.nil
    go_simp
    (go_at_call 78; refine (HMin.out _ ?_).mono ?_; (repeat (first | exact HR.out | (with_reducible refine Kd.C_alloc ?_ _) | (with_reducible refine Kd.C_drewN ?_ _) | (with_reducible refine Kd.C_drew ?_))); rintro e w' ⟨rfl, rfl⟩)
    refine hK.out _ _ ?_ (fun hHeld => ?_)
    · first | assumption | (dsimp only; go_keep) | go_keep
    clear hK K
    try simp only [Act.put, List.setIfInBounds_toArray, List.set_cons_zero, List.set_cons_succ]
    refine wpAnyH_take (i := 3) (oi := { dst := some 18, op := _, type := _, pos := _, after := _, guard := _ }) (v := ?_) rfl (by kernel_rfl) (by kernel_rfl) (by kernel_rfl) (fun _ _ _ h => h) (Or.inl ⟨by rfl, ?_⟩) (by assumption) ?_
    rotate_left
    · (intro w hSw; (try dsimp only at hSw); go_simp; try (with_reducible rfl))
    try simp only [Act.put, List.setIfInBounds_toArray, List.set_cons_zero, List.set_cons_succ]
    refine wpAnyH_take (i := 4) (oi := { dst := some 19, op := _, type := _, pos := _, after := _, guard := _ }) (v := ?_) rfl (by kernel_rfl) (by kernel_rfl) (by kernel_rfl) (fun _ _ _ h => h) (Or.inl ⟨by rfl, ?_⟩) (by assumption) ?_
    rotate_left
    · (intro w hSw; (try dsimp only at hSw); go_simp; try (with_reducible rfl))
    try simp only [Act.put, List.setIfInBounds_toArray, List.set_cons_zero, List.set_cons_succ]
    refine wpAnyH_ready (rs := [5]) (by kernel_rfl) (by simp) ?_
    refine AllReadyH.cons (o := { dst := some 20, op := _, type := _, pos := _, after := _, guard := _ }) rfl (fun K hK => ?_) AllReadyH.nil
    go_simp
    refine hK.out _ _ ?_ (fun hHeld => ?_)
    · first | assumption | (dsimp only; go_keep) | go_keep
    clear hK K
    try simp only [Act.put, List.setIfInBounds_toArray, List.set_cons_zero, List.set_cons_succ]
    refine wpAnyH_ready (rs := [6]) (by kernel_rfl) (by simp) ?_
    refine AllReadyH.cons (o := { dst := some 21, op := _, type := _, pos := _, after := _, guard := _ }) rfl (fun K hK => ?_) AllReadyH.nil
    go_simp
    refine hK.out _ _ ?_ (fun hHeld => ?_)
    · first | assumption | (dsimp only; go_keep) | go_keep
    clear hK K
    try simp only [Act.put, List.setIfInBounds_toArray, List.set_cons_zero, List.set_cons_succ]
    refine wpAnyH_ready (rs := [7, 9]) (by kernel_rfl) (by simp) ?_
    refine AllReadyH.cons (o := { dst := some 22, op := _, type := _, pos := _, after := _, guard := _ }) rfl (fun K hK => ?_) (AllReadyH.cons (o := { dst := none, op := _, type := _, pos := _, after := _, guard := _ }) rfl (fun K hK => ?_) AllReadyH.nil)
    · go_simp
      refine hK.out _ _ ?_ (fun hHeld => ?_)
      · first | assumption | (dsimp only; go_keep) | go_keep
      clear hK K
      try simp only [Act.put, List.setIfInBounds_toArray, List.set_cons_zero, List.set_cons_succ]
      refine wpAnyH_take (i := 8) (oi := { dst := some 23, op := _, type := _, pos := _, after := _, guard := _ }) (v := ?_) rfl (by kernel_rfl) (by kernel_rfl) (by kernel_rfl) (fun _ _ _ h => h) (Or.inl ⟨by rfl, ?_⟩) (by assumption) ?_
      rotate_left
      · (intro w hSw; (try dsimp only at hSw); go_simp; try (with_reducible rfl))
      try simp only [Act.put, List.setIfInBounds_toArray, List.set_cons_zero, List.set_cons_succ]
      refine wpAnyH_ready (rs := [9]) (by kernel_rfl) (by simp) ?_
      refine AllReadyH.cons (o := { dst := none, op := _, type := _, pos := _, after := _, guard := _ }) rfl (fun K hK => ?_) AllReadyH.nil
      go_simp
      refine hK.out _ _ ?_ (fun hHeld => ?_)
      · first | assumption | (dsimp only; go_keep) | go_keep
      clear hK K
      try simp only [Act.put, List.setIfInBounds_toArray, List.set_cons_zero, List.set_cons_succ]
      refine wpAnyH_take (i := 10) (oi := { dst := some 5, op := _, type := _, pos := _, after := _, guard := _ }) (v := ?_) rfl (by kernel_rfl) (by kernel_rfl) (by kernel_rfl) (fun _ _ _ h => h) (Or.inl ⟨by rfl, ?_⟩) (by assumption) ?_
      rotate_left
      · (intro w hSw; (try dsimp only at hSw); go_simp; try (with_reducible rfl))
      try simp only [Act.put, List.setIfInBounds_toArray, List.set_cons_zero, List.set_cons_succ]
      refine wpAnyH_done (by kernel_rfl) ?_ _
      go_wp2
      rw [HOK.out]
      exact bodyPost_ret (v := .tuple #[.agg #[.int .i64 m0, .int .i64 m1, .int .i64 m2, .int .i64 m3], .bool false]) (by simp [results, Try.results48, go_sem]) rfl ⟨rfl, by repeat (first | exact Below.refl _ _ | apply below_alloc | apply below_drew1)⟩
    · go_simp
      refine hK.out _ _ ?_ (fun hHeld => ?_)
      · first | assumption | (dsimp only; go_keep) | go_keep
      clear hK K
      try simp only [Act.put, List.setIfInBounds_toArray, List.set_cons_zero, List.set_cons_succ]
      refine wpAnyH_ready (rs := [7]) (by kernel_rfl) (by simp) ?_
      refine AllReadyH.cons (o := { dst := some 22, op := _, type := _, pos := _, after := _, guard := _ }) rfl (fun K hK => ?_) AllReadyH.nil
      go_simp
      refine hK.out _ _ ?_ (fun hHeld => ?_)
      · first | assumption | (dsimp only; go_keep) | go_keep
      clear hK K
      try simp only [Act.put, List.setIfInBounds_toArray, List.set_cons_zero, List.set_cons_succ]
      refine wpAnyH_take (i := 8) (oi := { dst := some 23, op := _, type := _, pos := _, after := _, guard := _ }) (v := ?_) rfl (by kernel_rfl) (by kernel_rfl) (by kernel_rfl) (fun _ _ _ h => h) (Or.inl ⟨by rfl, ?_⟩) (by assumption) ?_
      rotate_left
      · (intro w hSw; (try dsimp only at hSw); go_simp; try (with_reducible rfl))
      try simp only [Act.put, List.setIfInBounds_toArray, List.set_cons_zero, List.set_cons_succ]
      refine wpAnyH_take (i := 10) (oi := { dst := some 5, op := _, type := _, pos := _, after := _, guard := _ }) (v := ?_) rfl (by kernel_rfl) (by kernel_rfl) (by kernel_rfl) (fun _ _ _ h => h) (Or.inl ⟨by rfl, ?_⟩) (by assumption) ?_
      rotate_left
      · (intro w hSw; (try dsimp only at hSw); go_simp; try (with_reducible rfl))
      try simp only [Act.put, List.setIfInBounds_toArray, List.set_cons_zero, List.set_cons_succ]
      refine wpAnyH_done (by kernel_rfl) ?_ _
      go_wp2
      rw [HOK.out]
      exact bodyPost_ret (v := .tuple #[.agg #[.int .i64 m0, .int .i64 m1, .int .i64 m2, .int .i64 m3], .bool false]) (by simp [results, Try.results48, go_sem]) rfl ⟨rfl, by repeat (first | exact Below.refl _ _ | apply below_alloc | apply below_drew1)⟩
end Go.Proofs.Ytmekcfkfkpbfeaa.H
namespace Go.Proofs.Ytmekcfkfkpbfeaa.H
open Go.RowKit Go.Proofs.YtmekcfkfkpbfeaaW.PrintWords Go.Proofs.YtmekcfkfkpbfeaaW.PrintLast Go.Proofs.YtmekcfkfkpbfeaaW.PrintMore
attribute [local go_sem] max2_int min2_int max_two min_two max_three min_three max_four min_four
set_option linter.unusedVariables false
set_option linter.unusedSimpArgs false
/-- An ideal lies in block g: the number of variables, and generators. -/
def IdealAt (w : World) (base g : Nat) (n : Int) (xs : List M4) : Prop := ∃ v, base ≤ g ∧ w.heap[g]? = some (.cells #[.int .i64 n, v] 73 (0, 0)) ∧ K4.R 76 w base (fun _ => True) v xs
theorem IdealAt.below {w w1 : World} {base g : Nat} {n : Int} {xs : List M4} (h : IdealAt w base g n xs) (hb : Below w.heap.size w w1) : IdealAt w1 base g n xs := by
  obtain ⟨v, h1, h2, h3⟩ := h
  exact ⟨v, h1, heap_below h2 hb, Kd.R_below h3 hb⟩
theorem IdealAt.lower {w : World} {base base' g : Nat} {n : Int} {xs : List M4} (h : IdealAt w base g n xs) (hb : base' ≤ base) : IdealAt w base' g n xs := by
  obtain ⟨v, h1, h2, h3⟩ := h
  exact ⟨v, Nat.le_trans hb h1, h2, Kd.R_lower h3 hb⟩
/-- An ideal as it is read. -/
def Ideal (w : World) (g : Nat) (n : Int) (xs : List M4) : Prop := ∃ A c, w.cell? ⟨g, 0, none⟩ = some (.int .i64 n) ∧ w.cell? ⟨g, 1, none⟩ = some (.slice A xs.length c) ∧ Rows w A xs
theorem IdealAt.reads {w : World} {base g : Nat} {n : Int} {xs : List M4} (h : IdealAt w base g n xs) : Ideal w g n xs := by
  obtain ⟨v, h1, h2, h3⟩ := h
  obtain ⟨A, c, rfl, _, hr, _⟩ := rows_of_R h3
  exact ⟨A, c, (blk_cell h2 0).trans rfl, (blk_cell h2 1).trans rfl, hr⟩
theorem Ideal.below {w w1 : World} {g : Nat} {n : Int} {xs : List M4} (h : Ideal w g n xs) (hb : Below w.heap.size w w1) : Ideal w1 g n xs := by
  obtain ⟨A, c, h1, h2, h3⟩ := h
  exact ⟨A, c, pw_cell_below hb h1, pw_cell_below hb h2, h3.below hb⟩
def good (n : Int) (l : List Int) : Bool := decide ((l.length : Int) = n) && okL l
def readE (n : Int) (gens : List (List Int)) : Int := if 12 < gens.length then 3 else if n < 1 ∨ 4 < n then 1 else if gens.all (good n) = true then 0 else 1
set_option maxRecDepth 100000 in
set_option maxHeartbeats 8000000 in
theorem read_calls (A : Option Addr) (c : Nat) (n : Int) (gens : List (List Int)) (w : World) (hr : Kd.C (Kd.slice 3 (Kd.int .i64)) w A gens.length gens) :
    Calls Try.prog 45 #[.int .i64 n, .slice A gens.length c] w fun e w' => ∃ p, e = .returned (.tuple #[p, .int .i64 (readE n gens)]) ∧ Below w.heap.size w w' ∧ (readE n gens = 0 → ∃ g, p = .pointer (some ⟨g, 0, none⟩) ∧ IdealAt w' w.heap.size g n (gens.map ofL)) := by
  by_cases h12 : 12 < gens.length
  · have h12b : decide (12 < (gens.length : Int)) = true := decide_eq_true (by omega)
    have h12c : decide (12 < gens.length) = true := decide_eq_true (by omega)
    have HE : Aside0 (readE n gens = 3) := ⟨by unfold readE; rw [if_pos h12]⟩
    clear hr
    go_enter Try.func45, Try.ntmps45
    go_wp2
    go_ret2
    exact ⟨_, by rw [HE.out]; rfl, Below.refl _ _, fun h => by rw [HE.out] at h; exact absurd h (by decide)⟩
  have h12b : decide (12 < (gens.length : Int)) = false := decide_eq_false (by omega)
  have h12c : decide (12 < gens.length) = false := decide_eq_false (by omega)
  by_cases hn : n < 1 ∨ 4 < n
  · have HE : Aside0 (readE n gens = 1) := ⟨by unfold readE; rw [if_neg h12, if_pos hn]⟩
    clear hr h12
    by_cases hn1 : n < 1
    · have hnb : decide (n < 1) = true := decide_eq_true hn1
      clear hn hn1
      go_enter Try.func45, Try.ntmps45
      go_wp2
      go_ret2
      exact ⟨_, by rw [HE.out]; rfl, Below.refl _ _, fun h => by rw [HE.out] at h; exact absurd h (by decide)⟩
    · have hnb : decide (n < 1) = false := decide_eq_false hn1
      have hnc : decide (4 < n) = true := decide_eq_true (by omega)
      clear hn
      go_enter Try.func45, Try.ntmps45
      go_wp2
      go_ret2
      exact ⟨_, by rw [HE.out]; rfl, Below.refl _ _, fun h => by rw [HE.out] at h; exact absurd h (by decide)⟩
  have hn1 : 1 ≤ n := by omega
  have hn4 : n ≤ 4 := by omega
  have hnb : decide (n < 1) = false := decide_eq_false (by omega)
  have hnc : decide (4 < n) = false := decide_eq_false (by omega)
  have HE : Aside0 (readE n gens = if gens.all (good n) = true then 0 else 1) := ⟨by unfold readE; rw [if_neg h12, if_neg hn]⟩
  have HR := Aside0.mk hr
  have HN := Aside0.mk (And.intro hn1 hn4)
  have HL : Aside0 (gens.length ≤ 12) := ⟨by omega⟩
  have hl12 : gens.length ≤ 12 := HL.out
  clear hr h12 hn
  go_enter Try.func45, Try.ntmps45
  go_wp2
  clear h12b h12c hnb hnc
  have HB := Aside0.mk (below_alloc (Below.refl w.heap.size w) (.cells #[.int .i64 n, .slice none 0 0] 73))
  have HP := Aside0.mk (heap_alloc_new w (.cells #[.int .i64 n, .slice none 0 0] 73))
  go_loopw [27] (fun v27 w' => ∃ (k : Nat) (v : Value), k ≤ gens.length ∧ v27 = .int .i64 (k : Int) ∧ Aside0 ((gens.take k).all (good n) = true) ∧ Aside0 (K4.R 76 w' w.heap.size (fun _ => True) v ((gens.take k).map ofL)) ∧ Aside0 (Below w.heap.size w w') ∧ Aside0 (w'.heap[w.heap.size]? = some (.cells #[.int .i64 n, v] 73 (0, 0)))) (fun v27 _ => gens.length - (intOf v27).toNat)
  case atStart => exact ⟨0, _, Nat.zero_le _, rfl, ⟨rfl⟩, ⟨Kd.R_nil _ _ _ _ _⟩, HB, HP⟩
  case round =>
    clear HB HP
    obtain ⟨k, v, hk, rfl, HG, HO, HB, HP⟩ := hrel
    by_cases hlt : k < gens.length
    · have hltb : decide ((k : Int) < (gens.length : Int)) = true := decide_eq_true (by omega)
      have hk0 : (0 : Int) ≤ (k : Int) := by omega
      obtain ⟨ad, A0, c0, e, hc, hl0, hr0⟩ := Ga.at_L1 (Kd.C_below HR.out HB.out) (k : Int) (by omega) (by omega)
      subst e
      rw [Int.toNat_natCast] at hc
      have HRD : Aside0 (gens[k]? = some (Ga.rd_L1 gens (k : Int))) := ⟨by
        unfold Ga.rd_L1
        rw [Int.toNat_natCast, List.getD_eq_getElem?_getD, List.getElem?_eq_getElem hlt]
        rfl⟩
      generalize Ga.rd_L1 gens (k : Int) = l at *
      have HC0 := Aside0.mk hr0
      clear hr0
      have HNO : Aside0 (good n l = false → readE n gens = 1) := ⟨fun h => by
        rw [HE.out, if_neg]
        intro h2
        have h3 := List.all_eq_true.1 h2 l (List.mem_of_getElem? HRD.out)
        rw [h] at h3
        exact absurd h3 (by decide)⟩
      by_cases hln : (l.length : Int) = n
      · have h1 : 1 ≤ l.length := by omega
        have h4 : l.length ≤ 4 := by omega
        have H48 : Aside0 (∀ W, Kd.C (Kd.int .i64) W A0 l.length l → Calls Try.prog 48 #[.int .i64 n, .slice A0 l.length c0] W fun e w' => e = .returned (.tuple #[mv (ofL l), .bool (okL l)]) ∧ Below W.heap.size W w') := ⟨fun W h => by
          have h5 := one_yes A0 c0 l W h h1 h4
          rwa [hln] at h5⟩
        have HGD : Aside0 (good n l = okL l) := ⟨by unfold good; rw [decide_eq_true hln, Bool.true_and]⟩
        clear h1 h4 hln
        generalize hm : ofL l = m at *
        have HM := Aside0.mk hm
        clear hm
        unfold mv at H48
        obtain ⟨m0, m1, m2, m3⟩ := m
        dsimp only at H48
        cases hok : okL l with
        | true =>
          rw [hok] at H48 HGD
          clear hok
          obtain ⟨A7, c7, hv, hc7, _⟩ := rows_of_R HO.out
          subst hv
          have HC7 := Aside0.mk hc7
          have HOL : Aside0 (((gens.take k).map ofL).length ≤ 12) := ⟨by rw [List.length_map, List.length_take]; omega⟩
          have HST : Aside0 ((gens.take (k + 1)).map ofL = (gens.take k).map ofL ++ [(m0, m1, m2, m3)]) := ⟨by
            obtain ⟨hk', e⟩ := List.getElem?_eq_some_iff.1 HRD.out
            rw [List.take_succ_eq_append_getElem hk', List.map_append, e]
            simp only [List.map_cons, List.map_nil]
            rw [HM.out]⟩
          have HSG : Aside0 ((gens.take (k + 1)).all (good n) = true) := ⟨by
            obtain ⟨hk', e⟩ := List.getElem?_eq_some_iff.1 HRD.out
            rw [List.take_succ_eq_append_getElem hk', List.all_append, HG.out, e]
            simp only [List.all_cons, List.all_nil, Bool.and_true, Bool.true_and]
            exact HGD.out⟩
          clear hc7
          generalize hout : (gens.take k).map ofL = out at *
          clear hout
          go_wp2_with (go_at_call 48; refine (H48.out _ HC0.out).mono ?_; rintro e w1 ⟨rfl, hb1⟩; have HB1 := Aside0.mk (below_step HB.out hb1); have HP1 := Aside0.mk (heap_below HP.out hb1); have HO1 := Aside0.mk (Kd.R_below HO.out hb1); clear hb1)
          have HBX := Aside0.mk (boxAt_new w1 (m0, m1, m2, m3) 76)
          have HB2 := Aside0.mk (below_alloc HB1.out (.cells #[.int .i64 m0, .int .i64 m1, .int .i64 m2, .int .i64 m3] 76))
          have HP2 := Aside0.mk (blk_alloc HP1.out (.cells #[.int .i64 m0, .int .i64 m1, .int .i64 m2, .int .i64 m3] 76))
          have HO2 := Aside0.mk (Kd.R_alloc HO1.out (.cells #[.int .i64 m0, .int .i64 m1, .int .i64 m2, .int .i64 m3] 76))
          have hs1 : Aside0 (w.heap.size ≤ (w1.alloc (.cells #[.int .i64 m0, .int .i64 m1, .int .i64 m2, .int .i64 m3] 76)).heap.size) := ⟨HB2.out.size⟩
          have HNE : Aside0 (some w1.heap.size ≠ (Value.slice A7 out.length c7).ownBlock) := ⟨fun e => by have := Kd.R_lt HO1.out _ e.symm; omega⟩
          have HNB : Aside0 (some w.heap.size ≠ (Value.slice A7 out.length c7).ownBlock) := ⟨Kd.R_ne HO2.out HP2.out (by decide)⟩
          clear HP1 HO1 HB1
          generalize (w1.alloc (.cells #[.int .i64 m0, .int .i64 m1, .int .i64 m2, .int .i64 m3] 76)) = W at *
          obtain ⟨x0, x1, x2, x3⟩ := HBX.out
          have y1 := (blk_cell HP2.out 1).trans rfl
          have yf := blk_frozen HP2.out 1
          dsimp only at x0 x1 x2 x3
          have HLX : Aside0 (w1.heap.size < W.heap.size) := ⟨HBX.out.lt⟩
          have HLB : Aside0 (w.heap.size < W.heap.size) := ⟨blk_lt HP2.out⟩
          have nn : ∀ o, (W.alloc o).frozen? ⟨w.heap.size, 1, none⟩ = false := fun o => ((below_alloc (Below.refl W.heap.size W) o).frozen (p := ⟨w.heap.size, 1, none⟩) HLB.out).trans yf
          have z1 : ∀ o, (W.alloc o).cell? ⟨w.heap.size, 1, none⟩ = some (.slice A7 out.length c7) := fun o => pw_cell_below (below_alloc (Below.refl W.heap.size W) o) y1
          go_region_law ((refine Kd.R_append_step K4 (w0 := w) w.heap.size (by rfl) (.tmp 43) (.tmp 45) 71 76 (.agg #[.int .i64 0, .int .i64 0, .int .i64 0, .int .i64 0]) 32 rfl Try.underlying71 info76 rfl (by decide) (by omega) (.slice A7 out.length c7) out (m0, m1, m2, m3) (enc (m0, m1, m2, m3)) (fun _ => True) (fun _ => False) rfl rfl rfl (fun _ h => h.elim) (fun _ _ => trivial) (Kd.R_drew HO2.out) (below_drew1 HB2.out) HB2.out.size (by have := HOL.out; omega) ?_; intro v1 w2 ho hb hg hat; have g0 := (hg.cell_far ⟨w.heap.size, 1, none⟩ HLB.out HNB.out).trans y1; have g1 := (hg.frozen_far ⟨w.heap.size, 1, none⟩ HLB.out HNB.out).trans yf; obtain ⟨A8, c8, e8⟩ := Kd.R_slice ho; subst e8))
          all_goals
            clear x0 x1 x2 x3 y1 yf nn z1 g0 g1 hat
            rw [List.length_append, List.length_singleton] at ho
            have HQ := Aside0.mk (blk_grown (blk_drew HP2.out) hg HNB.out)
            have HP3 := Aside0.mk (blk_put HQ.out 1 (.slice A8 (out.length + 1) c8) rfl)
            have HO3 := Aside0.mk (Kd.R_set ho HQ.out (by intro q hq; rw [List.mem_singleton.1 hq]; decide) 1 (.slice A8 (out.length + 1) c8))
            have HB3 := Aside0.mk (hb.setCell (p := ⟨w.heap.size, 1, none⟩) (Nat.le_refl _) (.slice A8 (out.length + 1) c8))
            clear ho hb hg
            go_wp2
            go_roundw
            case rel => exact ⟨k + 1, _, by omega, by go_num, HSG, ⟨by rw [HST.out]; exact HO3.out⟩, HB3, HP3⟩
            case measure => simp [intOf]; omega
        | false => 
          rw [hok] at H48 HGD
          have HR1 := Aside0.mk (HNO.out HGD.out)
          clear hok
          go_wp2_with (go_at_call 48; refine (H48.out _ HC0.out).mono ?_; rintro e w1 ⟨rfl, hb1⟩; have HB1 := Aside0.mk (below_step HB.out hb1); clear hb1)
          go_ret2
          exact ⟨_, by rw [HR1.out]; rfl, below_alloc HB1.out _, fun h => by rw [HR1.out] at h; exact absurd h (by decide)⟩
      · have H48 : Aside0 (∀ W, Calls Try.prog 48 #[.int .i64 n, .slice A0 l.length c0] W fun e w' => e = .returned (.tuple #[.agg #[.int .i64 0, .int .i64 0, .int .i64 0, .int .i64 0], .bool false]) ∧ Below W.heap.size W w') := ⟨fun W => one_no A0 c0 n l W hln⟩
        have HR1 : Aside0 (readE n gens = 1) := ⟨HNO.out (by unfold good; rw [decide_eq_false hln, Bool.false_and])⟩
        clear hln
        go_wp2_with (go_at_call 48; refine (H48.out _).mono ?_; rintro e w1 ⟨rfl, hb1⟩; have HB1 := Aside0.mk (below_step HB.out hb1); clear hb1)
        go_ret2
        exact ⟨_, by rw [HR1.out]; rfl, below_alloc HB1.out _, fun h => by rw [HR1.out] at h; exact absurd h (by decide)⟩
    · have hltb : decide ((k : Int) < (gens.length : Int)) = false := decide_eq_false (by omega)
      obtain rfl : k = gens.length := by omega
      rw [List.take_length] at HG HO
      go_wp2
      go_ret2
      exact ⟨_, by rw [HE.out, if_pos HG.out]; rfl, HB.out, fun _ => ⟨_, rfl, v, Nat.le_refl _, HP.out, HO.out⟩⟩
end Go.Proofs.Ytmekcfkfkpbfeaa.H
namespace Go.Proofs.Ytmekcfkfkpbfeaa.H
open Go.RowKit Go.Proofs.YtmekcfkfkpbfeaaW.PrintWords Go.Proofs.YtmekcfkfkpbfeaaW.PrintLast Go.Proofs.YtmekcfkfkpbfeaaW.PrintMore
attribute [local go_sem] max2_int min2_int max_two min_two max_three min_three max_four min_four
set_option linter.unusedVariables false
set_option linter.unusedSimpArgs false
theorem info3 : (Try.prog.info? 3).map (fun i => (i.zero, i.size, i.bytes)) = some (some (.int .i64 0), 1, 8) := by kernel_rfl
def slices_Clone.f (l0 : List Int) : Option (List Int) := ((some (([] : List Int) : List Int)).bind fun y123 => (if y123.length + l0.length < 17592186044416 then (some (y123 ++ l0)) else (none)))
set_option maxHeartbeats 8000000 in
set_option maxRecDepth 100000 in
theorem slices_Clone.calls (A0 : Option Addr) (c0 : Nat) (l0 : List Int) (r : List Int) (w : World) (hr0 : Kd.C (Kd.int .i64) w A0 l0.length l0) (hc0 : l0.length ≤ c0) (h : slices_Clone.f l0 = some r) :
    Calls Try.prog 75 #[.slice A0 l0.length c0] w fun e w' => ∃ v0_ : Value, e = .returned (v0_) ∧ Kd.R (Kd.int .i64) 3 w' w.heap.size (fun _ => True) v0_ r ∧ Below w.heap.size w w' := by
  have HR0 := Aside0.mk hr0
  have HC0 := Aside0.mk hc0
  clear hr0 hc0
  have HB := Aside0.mk (Below.refl w.heap.size w)
  have hq := fun (W : World) (a : Option Addr) (n c : Nat) => Lib.run_eql_slice_nil (P := Try.prog) W 27 3 a n c 0 0 Try.underlying27
  unfold slices_Clone.f at h
  have H := h
  clear h
  cases A0 with
  | none =>
    have hl : l0 = [] := by
      rcases Nat.eq_zero_or_pos l0.length with h0 | h0
      · exact List.length_eq_zero_iff.mp h0
      · obtain ⟨ad, e, _⟩ := (Kd.reads_of_C (d := (0 : Int)) HR0.out).2.2 h0
        exact absurd e (by simp)
    subst hl
    have hr : r = [] := by simpa using H.symm
    subst hr
    clear H
    go_enter Try.func75, Try.ntmps75
    go_wp2
    go_ret
    exact ⟨_, rfl, Kd.R_nil _ _ _ _ _, HB.out⟩
  | some ad0 =>
    obtain ⟨y123, hy123⟩ : ∃ y_ : List Int, y_ = (([] : List Int)) := ⟨_, rfl⟩
    replace H : (if y123.length + l0.length < 17592186044416 then (some (y123 ++ l0)) else (none)) = some r := by first | (rw [hy123]; with_reducible exact H) | (have H2_ := (Option.bind_some _ _).symm.trans H; rw [hy123]; with_reducible exact H2_) | (have H2_ := (Option.bind_some _ _).symm.trans H; with_reducible exact H2_) | with_reducible exact H | (rw [hy123]; exact H) | exact H
    have Ny123 := Aside0.mk hy123
    clear hy123
    by_cases c3 : y123.length + l0.length < 17592186044416
    · rw [if_pos c3] at H
      have LMc3 := Aside0.mk c3
      clear c3
      obtain ⟨y126, hy126⟩ : ∃ y_ : List Int, y_ = (y123 ++ l0) := ⟨_, rfl⟩
      replace H : (some y126) = some r := by first | (rw [hy126]; with_reducible exact H) | (have H2_ := (Option.bind_some _ _).symm.trans H; rw [hy126]; with_reducible exact H2_) | (have H2_ := (Option.bind_some _ _).symm.trans H; with_reducible exact H2_) | with_reducible exact H | (rw [hy126]; exact H) | exact H
      have Ny126 := Aside0.mk hy126
      clear hy126
      obtain rfl := Option.some.inj H
      go_enter Try.func75, Try.ntmps75
      go_wp2_with (first | ((with_reducible refine gate_dst (N := 5) rfl ?_); refine Kd.R_lit (Kd.int .i64) _ 3 ?hg (N := 5) ?hd (xs := ([] : List Int)) (inner := []) (ok := fun _ => True) (okp := fun _ => True) ?hr ?hp (fun _ hk => hk) trivial (Below.refl _ _) (Nat.le_refl _) (by simp) ?_; (case hd => rfl); (case hg => rfl); (case hr => first | (go_simp; done) | (go_simp; rfl)); (case hp => exact (Reps.none _ _)); intro v124 w4 ho5 hb hg_ hnew_; clear hg_ hnew_; (first | rw [← Ny123.out] at ho5 | (simp only [Int.reduceToNat] at ho5; rw [← Ny123.out] at ho5)); have n0_ := Aside0.mk (Kd.R_lower ho5 (below_size (by repeat (first | (with_reducible first | exact HB.out | apply below_alloc | apply pw_below_drewN | apply below_drew1) | exact HB.out)))); have n1_ := Aside0.mk (below_step (by repeat (first | (with_reducible first | exact HB.out | apply below_alloc | apply pw_below_drewN | apply below_drew1) | exact HB.out)) hb); clear HB; have HO125 := n0_; have HB := n1_; clear n0_ n1_; clear hb ho5) | ((with_reducible refine gate_builtin (b := .append) (xs := #[.tmp 5, .tmp 6]) rfl ?_); at_builtin; refine Kd.R_append_rows (Kd.int .i64) (w0 := w) w.heap.size rfl (.tmp 5) (.tmp 6) 27 3 (.int .i64 0) 8 rfl Try.underlying27 info3 rfl (by decide) (by omega) v124 y123 l0 _ _ _ (fun _ => True) (fun _ => False) rfl rfl ?aO ?aR (fun _ _ h => h) (fun _ h => h.elim) ?aF ?aB ?aS ?aL ?_; (case aR => repeat (first | exact (Kd.C_below HR0.out HB.out) | (with_reducible refine Kd.C_alloc ?_ _) | (with_reducible refine Kd.C_drewN ?_ _) | (with_reducible refine Kd.C_drew ?_))); (case aB => exact (by repeat (first | (with_reducible first | exact HB.out | apply below_alloc | apply pw_below_drewN | apply below_drew1) | exact HB.out))); (case aF => exact (fun _ _ => trivial)); (case aO => exact (by (with_reducible repeat (first | apply Kd.R_alloc | apply Kd.R_drewN | apply Kd.R_drew)); exact HO125.out)); (case aS => exact (below_size (by repeat (first | (with_reducible first | exact HB.out | apply below_alloc | apply pw_below_drewN | apply below_drew1) | exact HB.out)))); (case aL => have := LMc3.out; omega); intro v127 w6 ho hb hg hat; rw [← Ny126.out] at ho; have n0_ := Aside0.mk (hb); have n1_ := Aside0.mk (ho); clear HB; clear HO125; have HB := n0_; have HO128 := n1_; clear n0_ n1_; clear ho hb hg hat))
      go_ret
      exact ⟨_, by first | rfl | (simp [errW_none, errW_some] <;> rfl) | (simp [*, errW_none, errW_some] <;> rfl), by (with_reducible repeat (first | apply Kd.R_alloc | apply Kd.R_drewN | apply Kd.R_drew)); exact HO128.out, by repeat (first | (with_reducible first | exact HB.out | apply below_alloc | apply pw_below_drewN | apply below_drew1) | exact HB.out)⟩
    · rw [if_neg c3] at H
      exact absurd H (by simp)
  
  
end Go.Proofs.Ytmekcfkfkpbfeaa.H
namespace Go.Proofs.Ytmekcfkfkpbfeaa.H
open Go.RowKit Go.Proofs.YtmekcfkfkpbfeaaW.PrintWords Go.Proofs.YtmekcfkfkpbfeaaW.PrintLast Go.Proofs.YtmekcfkfkpbfeaaW.PrintMore
attribute [local go_sem] max2_int min2_int max_two min_two max_three min_three max_four min_four
set_option linter.unusedVariables false
set_option linter.unusedSimpArgs false
theorem clone_is (l : List Int) (h : l.length < 1000) : slices_Clone.f l = some l := by
  unfold slices_Clone.f
  rw [Option.bind_some, if_pos (by simp; omega)]
  rfl
/-- The first numbers of a monomial. -/
def toN (n : Nat) (m : M4) : List Int := [m.1, m.2.1, m.2.2.1, m.2.2.2].take n
def toL (n : Int) (m : M4) : List Int := toN n.toNat m
theorem toN_length (n : Nat) (m : M4) (h : n ≤ 4) : (toN n m).length = n := by unfold toN; simp; omega
theorem toN_get (n : Nat) (m : M4) (h : n ≤ 4) (i : Nat) (hi : i < n) : (toN n m).getD i 0 = nth m i := by
  unfold toN
  rw [List.getD_eq_getElem?_getD, List.getElem?_take_of_lt hi]
  have : i = 0 ∨ i = 1 ∨ i = 2 ∨ i = 3 := by omega
  rcases this with rfl | rfl | rfl | rfl <;> rfl
theorem box_C {W : World} {b : Nat} {m : M4} (h : BoxAt W b m) (n : Nat) (hn : n ≤ 4) : Kd.C (Kd.int .i64) W (some ⟨b, 0, none⟩) (toN n m).length (toN n m) := by
  refine Kd.C_of_reads (d := (0 : Int)) ?_
  refine ⟨rfl, by rw [toN_length _ _ hn]; omega, fun _ => ⟨_, rfl, fun i hi => ?_⟩⟩
  rw [toN_length _ _ hn] at hi
  rw [add_plain]
  rw [toN_get _ _ hn _ hi]
  exact h.nth i (by omega)
theorem info27' : (Try.prog.info? 27).map (fun i => (i.zero, i.size, i.bytes)) = some (some (.slice none 0 0), 1, 24) := by kernel_rfl
abbrev KL : Kd (List Int) := Kd.slice 3 (Kd.int .i64)
set_option maxRecDepth 100000 in
set_option maxHeartbeats 8000000 in
theorem list_calls_ (n : Nat) (hn1 : 1 ≤ n) (hn4 : n ≤ 4) (g : Nat) (A : Option Addr) (c : Nat) (xs : List M4) (w : World) (hi : w.cell? ⟨g, 0, none⟩ = some (.int .i64 (n : Int))) (hr : Rows w A xs) (hl : xs.length < 1000000000) :
    Calls Try.prog 46 #[.pointer (some ⟨g, 0, none⟩), .slice A xs.length c] w fun e w' => ∃ v, e = .returned v ∧ Kd.R KL 27 w' w.heap.size (fun _ => True) v (xs.map (toN n)) ∧ Below w.heap.size w w' := by
  have HI := Aside0.mk hi
  have HR := Aside0.mk hr
  have HL := Aside0.mk hl
  have HN := Aside0.mk (And.intro hn1 hn4)
  have hxl : xs.length < 1000000000 := hl
  clear hi hr hl hn1
  have HB := Aside0.mk (Below.refl w.heap.size w)
  go_enter Try.func46, Try.ntmps46
  go_wp2
  go_loopw [5, 10] (fun v5 v10 w' => ∃ (k : Nat), k ≤ xs.length ∧ v10 = .int .i64 (k : Int) ∧ Aside0 (Kd.R KL 27 w' w.heap.size (fun _ => True) v5 ((xs.take k).map (toN n))) ∧ Aside0 (Below w.heap.size w w')) (fun _ v10 _ => xs.length - (intOf v10).toNat)
  case atStart => exact ⟨0, Nat.zero_le _, rfl, ⟨Kd.R_nil _ _ _ _ _⟩, HB⟩
  case round =>
    clear HB
    obtain ⟨k, hk, rfl, HO, HB⟩ := hrel
    by_cases hlt : k < xs.length
    · have hltb : decide ((k : Int) < (xs.length : Int)) = true := decide_eq_true (by omega)
      have hk0 : (0 : Int) ≤ (k : Int) := by omega
      obtain ⟨x, hxk⟩ : ∃ x, xs[k]? = some x := ⟨_, List.getElem?_eq_getElem hlt⟩
      obtain ⟨gg, hg, hgl, x0, x1, x2, x3⟩ := (HR.out.below HB.out).elem k x hxk
      subst hg
      have HST : Aside0 ((xs.take (k + 1)).map (toN n) = (xs.take k).map (toN n) ++ [toN n x]) := ⟨by
        obtain ⟨hk', e⟩ := List.getElem?_eq_some_iff.1 hxk
        rw [List.take_succ_eq_append_getElem hk', List.map_append, e]
        rfl⟩
      have HOL : Aside0 (((xs.take k).map (toN n)).length < 1000000000) := ⟨by rw [List.length_map, List.length_take]; omega⟩
      clear hxk
      obtain ⟨A5, c5, hu5⟩ := Kd.R_slice HO.out
      subst hu5
      generalize hout : (xs.take k).map (toN n) = out at *
      clear hout
      have HX1 := Aside0.mk (boxAt_new wr x 76)
      have HC1 := Aside0.mk (box_C HX1.out n HN.out.2)
      have hn0 : (0 : Int) ≤ (n : Int) := by omega
      have hn4' : (n : Int) ≤ 4 := by omega
      have hlen : (toN n x).length = n := toN_length n x HN.out.2
      have HLEN := Aside0.mk hlen
      have i0 : wr.cell? ⟨g, 0, none⟩ = some (.int .i64 (n : Int)) := pw_cell_below HB.out HI.out
      have i1 : ∀ o, (wr.alloc o).cell? ⟨g, 0, none⟩ = some (.int .i64 (n : Int)) := fun o => pw_cell_below (below_alloc (Below.refl wr.heap.size wr) o) i0
      obtain ⟨m0, m1, m2, m3⟩ := x
      dsimp only at x0 x1 x2 x3 HX1 HC1
      generalize hll : toN n (m0, m1, m2, m3) = l at *
      clear hll hlen
      have HCL : Aside0 (∀ (W : World) (b : Nat), Kd.C (Kd.int .i64) W (some ⟨b, 0, none⟩) l.length l → Calls Try.prog 75 #[.slice (some ⟨b, 0, none⟩) n 4] W fun e w' => ∃ v0_ : Value, e = .returned v0_ ∧ Kd.R (Kd.int .i64) 3 w' W.heap.size (fun _ => True) v0_ l ∧ Below W.heap.size W w') := ⟨fun W b h => by
        have h5 := slices_Clone.calls (some ⟨b, 0, none⟩) 4 l l W h (by rw [HLEN.out]; omega) (clone_is l (by rw [HLEN.out]; omega))
        rw [HLEN.out] at h5
        exact h5⟩
      have HB1 := Aside0.mk (below_alloc HB.out (.cells #[.int .i64 m0, .int .i64 m1, .int .i64 m2, .int .i64 m3] 76))
      have HO1 := Aside0.mk (Kd.R_alloc HO.out (.cells #[.int .i64 m0, .int .i64 m1, .int .i64 m2, .int .i64 m3] 76))
      go_wp2_with (first | (go_at_call 75; refine (HCL.out _ _ HC1.out).mono ?_; rintro e w1 ⟨v0, rfl, ho1, hb1⟩; have HB2 := Aside0.mk (below_step HB1.out hb1); have HO2 := Aside0.mk (Kd.R_below HO1.out hb1); obtain ⟨A9, c9, e9⟩ := Kd.R_slice ho1; subst e9; have HV := Aside0.mk ho1; clear hb1 ho1) | (at_builtin; refine Kd.R_append KL (w0 := w) w.heap.size rfl (.tmp 14) (.tmp 21) 24 27 (.slice none 0 0) 24 rfl Try.underlying24 info27' rfl (by decide) (by omega) (.slice A5 out.length c5) out l [.slice A9 l.length c9] (fun _ => True) (fun k_ => (wr.alloc (.cells #[.int .i64 m0, .int .i64 m1, .int .i64 m2, .int .i64 m3] 76)).heap.size ≤ k_) rfl rfl ?aP ?aK (fun _ _ => trivial) ?aO ?aB ?aS ?aL ?_; (case aP => exact Kd.M_row (Kd.R_lower (Kd.R_mono (Kd.R_bound HV.out) (fun k_ h_ => h_.2.1)) HB1.out.size)); (case aK => exact (fun k_ h_ => ⟨trivial, fun e_ => by have := Kd.R_lt HO1.out _ e_.symm; omega⟩)); (case aO => exact HO2.out); (case aB => exact HB2.out); (case aS => exact HB2.out.size); (case aL => have := HOL.out; omega); intro v1 w4 ho hb hg hat; have HO3 := Aside0.mk ho; have HB3 := Aside0.mk hb; clear ho hb hg hat))
      go_roundw
      case rel => exact ⟨k + 1, by omega, by go_num, ⟨by rw [HST.out]; exact HO3.out⟩, HB3⟩
      case measure => simp [intOf]; omega
    · have hltb : decide ((k : Int) < (xs.length : Int)) = false := decide_eq_false (by omega)
      obtain rfl : k = xs.length := by omega
      rw [List.take_length] at HO
      go_wp2
      go_ret
      exact ⟨_, rfl, HO.out, HB.out⟩
theorem list_calls (n : Int) (hn1 : 1 ≤ n) (hn4 : n ≤ 4) (g : Nat) (A : Option Addr) (c : Nat) (xs : List M4) (w : World) (hi : w.cell? ⟨g, 0, none⟩ = some (.int .i64 n)) (hr : Rows w A xs) (hl : xs.length < 1000000000) :
    Calls Try.prog 46 #[.pointer (some ⟨g, 0, none⟩), .slice A xs.length c] w fun e w' => ∃ v, e = .returned v ∧ Kd.R KL 27 w' w.heap.size (fun _ => True) v (xs.map (toL n)) ∧ Below w.heap.size w w' := by
  obtain ⟨k, rfl⟩ := Int.eq_ofNat_of_zero_le (show 0 ≤ n by omega)
  have h := list_calls_ k (by omega) (by omega) g A c xs w hi hr hl
  have e : toL (k : Int) = toN k := by unfold toL; rw [Int.toNat_natCast]
  rw [e]
  exact h
end Go.Proofs.Ytmekcfkfkpbfeaa.H
namespace Go.Proofs.Ytmekcfkfkpbfeaa.H
open Go.RowKit Go.Proofs.YtmekcfkfkpbfeaaW.PrintWords Go.Proofs.YtmekcfkfkpbfeaaW.PrintLast Go.Proofs.YtmekcfkfkpbfeaaW.PrintMore
attribute [local go_sem] max2_int min2_int max_two min_two max_three min_three max_four min_four
set_option linter.unusedVariables false
set_option linter.unusedSimpArgs false
theorem leastD_calls (A : Option Addr) (c : Nat) (xs : List M4) (w : World) (hr : Rows w A xs) (hl : xs.length < 1000000000) :
    Calls Try.prog 76 #[.slice A xs.length c, .func (.func 72) #[] #[], .func (.func 77) #[] #[]] w fun e w' => ∃ v, e = .returned v ∧ K4.R 76 w' w.heap.size (fun _ => True) v (least divs xs) ∧ Below w.heap.size w w' :=
  least_calls 72 _ Try.func72 rfl (by kernel_rfl) divs (fun a b W => divides_calls a b W) A c xs w hr hl
theorem leastW_calls (A : Option Addr) (c : Nat) (xs : List M4) (w : World) (hr : Rows w A xs) (hl : xs.length < 1000000000) :
    Calls Try.prog 76 #[.slice A xs.length c, .func (.func 81) #[] #[], .func (.func 77) #[] #[]] w fun e w' => ∃ v, e = .returned v ∧ K4.R 76 w' w.heap.size (fun _ => True) v (least within xs) ∧ Below w.heap.size w w' :=
  least_calls 81 _ Try.func81 rfl (by kernel_rfl) within (fun a b W => within_calls a b W) A c xs w hr hl
theorem least_length (below : M4 → M4 → Bool) (xs : List M4) : (least below xs).length ≤ xs.length := by
  unfold least picked
  rw [sort4_length]
  have := fold_len below xs xs []
  simpa using this
theorem below_undrew {w w1 : World} (h : Below w.drew.heap.size w.drew w1) : Below w.heap.size w w1 := ⟨h.os, h.tape, h.output, h.size, h.block⟩
set_option maxRecDepth 100000 in
set_option maxHeartbeats 8000000 in
theorem minimal_calls (g : Nat) (n : Int) (xs : List M4) (w : World) (hi : Ideal w g n xs) (hl : xs.length < 1000000000) :
    Calls Try.prog 47 #[.pointer (some ⟨g, 0, none⟩)] w fun e w' => ∃ g', e = .returned (.pointer (some ⟨g', 0, none⟩)) ∧ IdealAt w' w.heap.size g' n (least divs xs) ∧ Below w.heap.size w w' := by
  obtain ⟨A, c, i0, i1, hr⟩ := hi
  have HR := Aside0.mk hr
  have HL := Aside0.mk hl
  have I0 := Aside0.mk i0
  have I1 := Aside0.mk i1
  clear hr hl
  go_enter Try.func47, Try.ntmps47
  go_wp2
  go_region_held3 (fun w' => w'.cell? ⟨g, 0, none⟩ = some (.int .i64 n) ∧ w'.cell? ⟨g, 1, none⟩ = some (.slice A xs.length c)) (first | go_keep | (exact ⟨pw_cell_below hb I0.out, pw_cell_below hb I1.out⟩)) (first | (go_at_call 76; refine (leastD_calls A c xs _ (HR.out.below (below_drew1 (Below.refl _ _))) HL.out).mono ?_; rintro e w1 ⟨v, rfl, ho, hb⟩; obtain ⟨A9, c9, e9⟩ := Kd.R_slice ho; subst e9))
  all_goals
    have HO := Aside0.mk ho
    have HB := Aside0.mk (below_undrew hb)
    clear ho hb
    go_wp2
    go_ret
    exact ⟨_, rfl, ⟨_, HB.out.size, heap_alloc_new _ _, Kd.R_alloc HO.out _⟩, below_alloc HB.out _⟩
set_option maxRecDepth 100000 in
set_option maxHeartbeats 4000000 in
theorem hasd_calls_ (y0 y1 y2 y3 m0 m1 m2 m3 : Int) (pm : Nat) (w : World) (hm : BoxAt w pm (m0, m1, m2, m3)) :
    Calls Try.prog 80 #[.agg #[.int .i64 y0, .int .i64 y1, .int .i64 y2, .int .i64 y3], .pointer (some ⟨pm, 0, none⟩)] w fun e w' => e = .returned (.bool (divs (y0, y1, y2, y3) (m0, m1, m2, m3))) ∧ Below w.heap.size w w' := by
  have hX := Aside0.mk (boxAt_alloc hm (.cells #[.int .i64 y0, .int .i64 y1, .int .i64 y2, .int .i64 y3] 76))
  obtain ⟨x0, x1, x2, x3⟩ := hX.out
  dsimp only at x0 x1 x2 x3
  clear hm
  go_enter Try.func80, Try.ntmps80
  go_wp2_with (go_at_call 72; refine (divides_calls_ _ _ _ _ _ _ _ _ _).mono ?_; rintro e w1 ⟨rfl, hb⟩; have HB := Aside0.mk hb.below; clear hb)
  go_ret
  exact ⟨rfl, below_step (below_alloc (Below.refl _ _) _) HB.out⟩
theorem hasd_calls (y m : M4) (pm : Nat) (w : World) (hm : BoxAt w pm m) : Calls Try.prog 80 #[mv y, .pointer (some ⟨pm, 0, none⟩)] w fun e w' => e = .returned (.bool (divs y m)) ∧ Below w.heap.size w w' := by
  obtain ⟨y0, y1, y2, y3⟩ := y
  obtain ⟨m0, m1, m2, m3⟩ := m
  exact hasd_calls_ y0 y1 y2 y3 m0 m1 m2 m3 pm w hm
/-- m is in the ideal of xs. -/
def hasM (xs : List M4) (m : M4) : Bool := xs.any fun y => divs y m
theorem hasC_calls (A : Option Addr) (c : Nat) (xs : List M4) (m : M4) (pm : Nat) (W : World) (hr : Rows W A xs) (hl : xs.length < 1000000000) (hm : BoxAt W pm m) :
    Calls Try.prog 70 #[.slice A xs.length c, .func (.func 80) #[] #[.pointer (some ⟨pm, 0, none⟩)]] W fun e w' => e = .returned (.bool (hasM xs m)) ∧ Below W.heap.size W w' :=
  ContainsFunc_calls (fun y => divs y m) 80 _ Try.func80 rfl (by kernel_rfl) _ A c xs W hr hl (fun W1 y hB => (hasd_calls y m pm W1 (hm.below hB)).mono fun e w2 ⟨he, hL⟩ => ⟨he, below_step hB hL⟩)
set_option maxRecDepth 100000 in
set_option maxHeartbeats 4000000 in
theorem has_calls_ (g : Nat) (n : Int) (xs : List M4) (m0 m1 m2 m3 : Int) (w : World) (hi : Ideal w g n xs) (hl : xs.length < 1000000000) :
    Calls Try.prog 49 #[.pointer (some ⟨g, 0, none⟩), .agg #[.int .i64 m0, .int .i64 m1, .int .i64 m2, .int .i64 m3]] w fun e w' => e = .returned (.bool (hasM xs (m0, m1, m2, m3))) ∧ Below w.heap.size w w' := by
  obtain ⟨A, c, i0, i1, hr⟩ := hi
  have HM := Aside0.mk (boxAt_new w (m0, m1, m2, m3) 76)
  have HR := Aside0.mk (hr.below (below_alloc (Below.refl _ _) (.cells #[.int .i64 m0, .int .i64 m1, .int .i64 m2, .int .i64 m3] 76)))
  have HC := Aside0.mk (hasC_calls A c xs (m0, m1, m2, m3) w.heap.size _ HR.out hl HM.out)
  have j1 : (w.alloc (.cells #[.int .i64 m0, .int .i64 m1, .int .i64 m2, .int .i64 m3] 76)).cell? ⟨g, 1, none⟩ = some (.slice A xs.length c) := pw_cell_below (below_alloc (Below.refl _ _) _) i1
  clear hr i0 i1
  go_enter Try.func49, Try.ntmps49
  go_wp2_with (go_at_call 70; refine HC.out.mono ?_; rintro e w1 ⟨rfl, hb⟩; have HB := Aside0.mk hb; clear hb)
  go_ret
  exact ⟨rfl, below_step (below_alloc (Below.refl _ _) _) HB.out⟩
theorem has_calls (g : Nat) (n : Int) (xs : List M4) (m : M4) (w : World) (hi : Ideal w g n xs) (hl : xs.length < 1000000000) :
    Calls Try.prog 49 #[.pointer (some ⟨g, 0, none⟩), mv m] w fun e w' => e = .returned (.bool (hasM xs m)) ∧ Below w.heap.size w w' := by
  obtain ⟨m0, m1, m2, m3⟩ := m
  exact has_calls_ g n xs m0 m1 m2 m3 w hi hl
set_option maxRecDepth 100000 in
set_option maxHeartbeats 4000000 in
theorem whole_calls (g : Nat) (n : Int) (xs : List M4) (w : World) (hi : Ideal w g n xs) (hl : xs.length < 1000000000) :
    Calls Try.prog 57 #[.pointer (some ⟨g, 0, none⟩)] w fun e w' => e = .returned (.bool (hasM xs (0, 0, 0, 0))) ∧ Below w.heap.size w w' := by
  have HC := Aside0.mk (has_calls_ g n xs 0 0 0 0 w hi hl)
  clear hi
  go_enter Try.func57, Try.ntmps57
  go_wp2_with (go_at_call 49; refine HC.out.mono ?_; rintro e w1 ⟨rfl, hb⟩; have HB := Aside0.mk hb; clear hb)
  go_ret
  exact ⟨rfl, HB.out⟩
end Go.Proofs.Ytmekcfkfkpbfeaa.H
