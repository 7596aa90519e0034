/- The walks of pack.Minimal, Radical, Has, Over, Parts, Numerator, Dual, Hilbert, and of wogglelaw04.lives. -/
import Derived.Test.YtmekcfkfkpbfeaaGa0
import Derived.BigRegion
import Derived.BigQuiet
import Derived.Deep.RegionHeld3
import Derived.Outline
import Derived.LoopN
import Derived.Test.YtmekcfkfkpbfeaaK5
import Derived.Test.YtmekcfkfkpbfeaaGa1
namespace Go.Proofs.Ytmekcfkfkpbfeaa.H
open Go.RowKit Go.Proofs.YtmekcfkfkpbfeaaW.PrintWords Go.Proofs.YtmekcfkfkpbfeaaW.PrintLast Go.Proofs.YtmekcfkfkpbfeaaW.PrintMore
attribute [local go_sem] max2_int min2_int max_two min_two max_three min_three max_four min_four
set_option linter.unusedVariables false
set_option linter.unusedSimpArgs false
theorem readE_ok {n : Int} {gens : List (List Int)} (h : readE n gens = 0) : gens.length ≤ 12 ∧ 1 ≤ n ∧ n ≤ 4 ∧ ∀ l ∈ gens, (l.length : Int) = n ∧ ∀ y ∈ l, 0 ≤ y ∧ y ≤ 6 := by
  unfold readE at h
  by_cases h1 : 12 < gens.length
  · rw [if_pos h1] at h; exact absurd h (by decide)
  rw [if_neg h1] at h
  by_cases h2 : n < 1 ∨ 4 < n
  · rw [if_pos h2] at h; exact absurd h (by decide)
  rw [if_neg h2] at h
  by_cases h3 : gens.all (good n) = true
  · refine ⟨by omega, by omega, by omega, fun l hl => ?_⟩
    have h4 := List.all_eq_true.1 h3 l hl
    unfold good at h4
    rw [Bool.and_eq_true, decide_eq_true_iff] at h4
    exact ⟨h4.1, (okL_iff l (by omega)).1 h4.2⟩
  · rw [if_neg h3] at h; exact absurd h (by decide)
theorem rd_V {l : List Int} (h : ∀ y ∈ l, 0 ≤ y ∧ y ≤ 6) (i : Int) : 0 ≤ rd l i ∧ rd l i ≤ 6 := by
  unfold rd
  rw [List.getD_eq_getElem?_getD]
  by_cases hi : i.toNat < l.length
  · rw [List.getElem?_eq_getElem hi]
    exact h _ (List.getElem_mem hi)
  · rw [List.getElem?_eq_none (by omega)]
    simp
theorem V6_ofL {l : List Int} (h : ∀ y ∈ l, 0 ≤ y ∧ y ≤ 6) : V6 (ofL l) := ⟨rd_V h 0, rd_V h 1, rd_V h 2, rd_V h 3⟩
theorem V6s_ofL {gens : List (List Int)} (h : ∀ l ∈ gens, ∀ y ∈ l, 0 ≤ y ∧ y ≤ 6) : V6s (gens.map ofL) := by
  intro m hm
  obtain ⟨l, hl, rfl⟩ := List.mem_map.1 hm
  exact V6_ofL (h l hl)
theorem read_ok (A : Option Addr) (c : Nat) (n : Int) (gens : List (List Int)) (w : World) (hr : Kd.C (Kd.slice 3 (Kd.int .i64)) w A gens.length gens) (hE : readE n gens = 0) :
    Calls Try.prog 45 #[.int .i64 n, .slice A gens.length c] w fun e w' => ∃ g, e = .returned (.tuple #[.pointer (some ⟨g, 0, none⟩), .int .i64 0]) ∧ Below w.heap.size w w' ∧ IdealAt w' w.heap.size g n (gens.map ofL) := by
  refine (read_calls A c n gens w hr).mono ?_
  rintro e w' ⟨p, he, hb, hi⟩
  obtain ⟨g, rfl, h⟩ := hi hE
  rw [hE] at he
  exact ⟨g, he, hb, h⟩
theorem read_bad (A : Option Addr) (c : Nat) (n : Int) (gens : List (List Int)) (w : World) (hr : Kd.C (Kd.slice 3 (Kd.int .i64)) w A gens.length gens) (E : Int) (hE : readE n gens = E) :
    Calls Try.prog 45 #[.int .i64 n, .slice A gens.length c] w fun e w' => ∃ p, e = .returned (.tuple #[p, .int .i64 E]) ∧ Below w.heap.size w w' := by
  refine (read_calls A c n gens w hr).mono ?_
  rintro e w' ⟨p, he, hb, _⟩
  rw [hE] at he
  exact ⟨p, he, hb⟩
/-- pack.one at an argument: the monomial, and whether it is valid. -/
def oneE (n : Int) (l : List Int) : Bool := decide ((l.length : Int) = n) && okL l
def oneM (n : Int) (l : List Int) : M4 := if (l.length : Int) = n then ofL l else (0, 0, 0, 0)
theorem one_calls (A : Option Addr) (c : Nat) (n : Int) (l : List Int) (w : World) (hr : Kd.C (Kd.int .i64) w A l.length l) (h1 : 1 ≤ n) (h4 : n ≤ 4) :
    Calls Try.prog 48 #[.int .i64 n, .slice A l.length c] w fun e w' => e = .returned (.tuple #[mv (oneM n l), .bool (oneE n l)]) ∧ Below w.heap.size w w' := by
  unfold oneM oneE
  by_cases h : (l.length : Int) = n
  · have h5 := one_yes A c l w hr (by omega) (by omega)
    rw [h] at h5
    rw [if_pos h, decide_eq_true h, Bool.true_and]
    exact h5
  · rw [if_neg h, decide_eq_false h, Bool.false_and]
    exact one_no A c n l w h
def pack_Minimal.f (a0 : Int) (l1 : List (List Int)) : Option (List (List Int) × Int) := if readE a0 l1 = 0 then some ((least divs (l1.map ofL)).map (toL a0), 0) else some ([], readE a0 l1)
set_option maxRecDepth 100000 in
set_option maxHeartbeats 8000000 in
theorem pack_Minimal.calls (a0 : Int) (A1 : Option Addr) (c1 : Nat) (l1 : List (List Int)) (r1 : List (List Int)) (r2 : Int) (w : World) (hr1 : Kd.C (Kd.slice 3 (Kd.int .i64)) w A1 l1.length l1) (hc1 : l1.length ≤ c1) (h : pack_Minimal.f a0 l1 = some (r1, r2)) :
    Calls Try.prog 15 #[.int .i64 a0, .slice A1 l1.length c1] w fun e w' => ∃ v1_ : Value, e = .returned (.tuple #[v1_, .int .i64 r2]) ∧ Kd.R (Kd.slice 3 (Kd.int .i64)) 27 w' w.heap.size (fun _ => True) v1_ r1 ∧ Below w.heap.size w w' := by
  unfold pack_Minimal.f at h
  by_cases h0 : readE a0 l1 = 0
  · rw [if_pos h0] at h
    simp only [Option.some.injEq, Prod.mk.injEq] at h
    obtain ⟨rfl, rfl⟩ := h
    obtain ⟨hl12, hn1, hn4, hall⟩ := readE_ok h0
    have HRD := Aside0.mk (read_ok A1 c1 a0 l1 w hr1 h0)
    have HX : Aside0 ((l1.map ofL).length ≤ 12) := ⟨by rw [List.length_map]; exact hl12⟩
    have HV := Aside0.mk (V6s_ofL (fun l hl => (hall l hl).2))
    have HN := Aside0.mk (And.intro hn1 hn4)
    clear hr1 h0 hall hl12 hn1 hn4
    generalize l1.map ofL = xs at *
    go_enter Try.func15, Try.ntmps15
    go_wp2_with (first | (go_at_call 45; refine HRD.out.mono ?_; rintro e w1 ⟨g, rfl, hb1, hi1⟩; have HB1 := Aside0.mk hb1; have HI1 := Aside0.mk hi1.reads; obtain ⟨Ax, cx, i0, i1, hrx⟩ := HI1.out; have HRX := Aside0.mk hrx; clear hb1 hi1 hrx) | (go_at_call 47; refine (minimal_calls g a0 xs _ HI1.out (by have := HX.out; omega)).mono ?_; rintro e w2 ⟨g2, rfl, hi2, hb2⟩; have HBL := Aside0.mk (below_step HB1.out hb2); have HI2 := Aside0.mk hi2.reads; clear i0 i1; obtain ⟨Ay, cy, i0, i1, hry⟩ := HI2.out; have HRY := Aside0.mk hry; have k0 := pw_cell_below hb2 (show w1.cell? ⟨g, 0, none⟩ = some (.int .i64 a0) from (let ⟨_, _, h_, _⟩ := HI1.out; h_)); have K0 := Aside0.mk k0; clear hb2 hi2 hry k0) | (go_at_call 46; refine (list_calls a0 HN.out.1 HN.out.2 g Ay cy (least divs xs) _ K0.out HRY.out (by have h1_ := least_length divs (xs); have h2_ := HX.out; omega)).mono ?_; rintro e w3 ⟨v1, rfl, ho3, hb3⟩; have HL := Aside0.mk ho3; have HBM := Aside0.mk hb3; clear ho3 hb3))
    go_ret2
    exact ⟨_, rfl, Kd.R_lower HL.out HBL.out.size, below_step HBL.out HBM.out⟩
  · rw [if_neg h0] at h
    simp only [Option.some.injEq, Prod.mk.injEq] at h
    obtain ⟨rfl, rfl⟩ := h
    generalize hE : readE a0 l1 = E at *
    have HRD := Aside0.mk (read_bad A1 c1 a0 l1 w hr1 E hE)
    have cb : (E != 0) = true := bne_iff_ne.mpr h0
    clear hr1 hE h0
    go_enter Try.func15, Try.ntmps15
    go_wp2_with (go_at_call 45; refine HRD.out.mono ?_; rintro e w1 ⟨p, rfl, hb1⟩; have HB1 := Aside0.mk hb1; clear hb1)
    go_ret2
    exact ⟨_, rfl, Kd.R_nil _ _ _ _ _, HB1.out⟩
def pack_Radical.f (a0 : Int) (l1 : List (List Int)) : Option (List (List Int) × Int) := if readE a0 l1 = 0 then some ((least divs ((l1.map ofL).map radM)).map (toL a0), 0) else some ([], readE a0 l1)
set_option maxRecDepth 100000 in
set_option maxHeartbeats 8000000 in
theorem pack_Radical.calls (a0 : Int) (A1 : Option Addr) (c1 : Nat) (l1 : List (List Int)) (r1 : List (List Int)) (r2 : Int) (w : World) (hr1 : Kd.C (Kd.slice 3 (Kd.int .i64)) w A1 l1.length l1) (hc1 : l1.length ≤ c1) (h : pack_Radical.f a0 l1 = some (r1, r2)) :
    Calls Try.prog 22 #[.int .i64 a0, .slice A1 l1.length c1] w fun e w' => ∃ v1_ : Value, e = .returned (.tuple #[v1_, .int .i64 r2]) ∧ Kd.R (Kd.slice 3 (Kd.int .i64)) 27 w' w.heap.size (fun _ => True) v1_ r1 ∧ Below w.heap.size w w' := by
  unfold pack_Radical.f at h
  by_cases h0 : readE a0 l1 = 0
  · rw [if_pos h0] at h
    simp only [Option.some.injEq, Prod.mk.injEq] at h
    obtain ⟨rfl, rfl⟩ := h
    obtain ⟨hl12, hn1, hn4, hall⟩ := readE_ok h0
    have HRD := Aside0.mk (read_ok A1 c1 a0 l1 w hr1 h0)
    have HX : Aside0 ((l1.map ofL).length ≤ 12) := ⟨by rw [List.length_map]; exact hl12⟩
    have HV := Aside0.mk (V6s_ofL (fun l hl => (hall l hl).2))
    have HN := Aside0.mk (And.intro hn1 hn4)
    clear hr1 h0 hall hl12 hn1 hn4
    generalize l1.map ofL = xs at *
    go_enter Try.func22, Try.ntmps22
    go_wp2_with (first | (go_at_call 45; refine HRD.out.mono ?_; rintro e w1 ⟨g, rfl, hb1, hi1⟩; have HB1 := Aside0.mk hb1; have HI1 := Aside0.mk hi1.reads; obtain ⟨Ax, cx, i0, i1, hrx⟩ := HI1.out; have HRX := Aside0.mk hrx; clear hb1 hi1 hrx) | (go_at_call 54; refine (changed_calls (radM) 55 _ Try.func55 rfl (by kernel_rfl) #[] g a0 xs _ (fun W m hm hb => rad_calls m W) HI1.out (by have := HX.out; omega)).mono ?_; rintro e w2 ⟨g2, rfl, hi2, hb2⟩; have HBL := Aside0.mk (below_step HB1.out hb2); have HI2 := Aside0.mk hi2.reads; clear i0 i1; obtain ⟨Ay, cy, i0, i1, hry⟩ := HI2.out; have HRY := Aside0.mk hry; have k0 := pw_cell_below hb2 (show w1.cell? ⟨g, 0, none⟩ = some (.int .i64 a0) from (let ⟨_, _, h_, _⟩ := HI1.out; h_)); have K0 := Aside0.mk k0; clear hb2 hi2 hry k0) | (go_at_call 46; refine (list_calls a0 HN.out.1 HN.out.2 g Ay cy (least divs (xs.map radM)) _ K0.out HRY.out (by have h1_ := least_length divs (xs.map radM); have h2_ := HX.out; rw [List.length_map] at h1_; omega)).mono ?_; rintro e w3 ⟨v1, rfl, ho3, hb3⟩; have HL := Aside0.mk ho3; have HBM := Aside0.mk hb3; clear ho3 hb3))
    go_ret2
    exact ⟨_, rfl, Kd.R_lower HL.out HBL.out.size, below_step HBL.out HBM.out⟩
  · rw [if_neg h0] at h
    simp only [Option.some.injEq, Prod.mk.injEq] at h
    obtain ⟨rfl, rfl⟩ := h
    generalize hE : readE a0 l1 = E at *
    have HRD := Aside0.mk (read_bad A1 c1 a0 l1 w hr1 E hE)
    have cb : (E != 0) = true := bne_iff_ne.mpr h0
    clear hr1 hE h0
    go_enter Try.func22, Try.ntmps22
    go_wp2_with (go_at_call 45; refine HRD.out.mono ?_; rintro e w1 ⟨p, rfl, hb1⟩; have HB1 := Aside0.mk hb1; clear hb1)
    go_ret2
    exact ⟨_, rfl, Kd.R_nil _ _ _ _ _, HB1.out⟩
end Go.Proofs.Ytmekcfkfkpbfeaa.H
namespace Go.Proofs.Ytmekcfkfkpbfeaa.H
open Go.RowKit Go.Proofs.YtmekcfkfkpbfeaaW.PrintWords Go.Proofs.YtmekcfkfkpbfeaaW.PrintLast Go.Proofs.YtmekcfkfkpbfeaaW.PrintMore
attribute [local go_sem] max2_int min2_int max_two min_two max_three min_three max_four min_four
set_option linter.unusedVariables false
set_option linter.unusedSimpArgs false
def pack_Has.f (a0 : Int) (l1 : List (List Int)) (l2 : List Int) : Option (Bool × Int) := if readE a0 l1 = 0 then (if oneE a0 l2 = true then some (hasM (l1.map ofL) (ofL l2), 0) else some (false, 1)) else some (false, readE a0 l1)
set_option maxRecDepth 100000 in
set_option maxHeartbeats 8000000 in
theorem pack_Has.calls (a0 : Int) (A1 : Option Addr) (c1 : Nat) (l1 : List (List Int)) (A2 : Option Addr) (c2 : Nat) (l2 : List Int) (r1 : Bool) (r2 : Int) (w : World) (hr1 : Kd.C (Kd.slice 3 (Kd.int .i64)) w A1 l1.length l1) (hc1 : l1.length ≤ c1) (hr2 : Kd.C (Kd.int .i64) w A2 l2.length l2) (hc2 : l2.length ≤ c2) (h : pack_Has.f a0 l1 l2 = some (r1, r2)) :
    Calls Try.prog 16 #[.int .i64 a0, .slice A1 l1.length c1, .slice A2 l2.length c2] w fun e w' => e = .returned (.tuple #[.bool r1, .int .i64 r2]) ∧ Below w.heap.size w w' := by
  unfold pack_Has.f at h
  by_cases h0 : readE a0 l1 = 0
  · rw [if_pos h0] at h
    obtain ⟨hl12, hn1, hn4, hall⟩ := readE_ok h0
    have HRD := Aside0.mk (read_ok A1 c1 a0 l1 w hr1 h0)
    have HX : Aside0 ((l1.map ofL).length ≤ 12) := ⟨by rw [List.length_map]; exact hl12⟩
    have HV := Aside0.mk (V6s_ofL (fun l hl => (hall l hl).2))
    have HN := Aside0.mk (And.intro hn1 hn4)
    have HOM : Aside0 (oneE a0 l2 = true → oneM a0 l2 = ofL l2 ∧ V6 (ofL l2)) := ⟨fun h_ => by
      unfold oneE at h_
      rw [Bool.and_eq_true, decide_eq_true_iff] at h_
      exact ⟨by unfold oneM; rw [if_pos h_.1], V6_ofL ((okL_iff l2 (by omega)).1 h_.2)⟩⟩
    have H48 := Aside0.mk (fun W hb => one_calls A2 c2 a0 l2 W (Kd.C_below hr2 hb) hn1 hn4)
    clear hr1 h0 hall hl12 hn1 hn4 hr2
    generalize l1.map ofL = xs at *
    by_cases h1 : oneE a0 l2 = true
    · rw [if_pos h1] at h
      simp only [Option.some.injEq, Prod.mk.injEq] at h
      obtain ⟨rfl, rfl⟩ := h
      obtain ⟨em, hvm⟩ := HOM.out h1
      have HVM := Aside0.mk hvm
      rw [h1, em] at H48
      clear h1 em hvm HOM
      generalize ofL l2 = mm at *
      obtain ⟨m0, m1, m2, m3⟩ := mm
      unfold mv at H48
      dsimp only at H48
      go_enter Try.func16, Try.ntmps16
      go_wp2_with (first | (go_at_call 45; refine HRD.out.mono ?_; rintro e w1 ⟨g, rfl, hb1, hi1⟩; have HB1 := Aside0.mk hb1; have HI1 := Aside0.mk hi1.reads; obtain ⟨Ax, cx, i0, i1, hrx⟩ := HI1.out; have HRX := Aside0.mk hrx; clear hb1 hi1 hrx) | (go_at_call 48; refine (H48.out w1 HB1.out).mono ?_; rintro e w2 ⟨rfl, hb2⟩; have HB2 := Aside0.mk (below_step HB1.out hb2); have HI2 := Aside0.mk ((HI1.out.below hb2).below (below_alloc (Below.refl _ _) (.cells #[.int .i64 m0, .int .i64 m1, .int .i64 m2, .int .i64 m3] 76))); have HXB := Aside0.mk (boxAt_new w2 (m0, m1, m2, m3) 76); have HB3 := Aside0.mk (below_alloc HB2.out (.cells #[.int .i64 m0, .int .i64 m1, .int .i64 m2, .int .i64 m3] 76)); clear hb2) | (go_at_call 49; refine (has_calls_ g a0 xs m0 m1 m2 m3 _ HI2.out (by have := HX.out; omega)).mono ?_; rintro e w3 ⟨rfl, hb3⟩; have HB4 := Aside0.mk (below_step HB3.out hb3); clear hb3))
      go_ret2
      exact ⟨rfl, HB4.out⟩
    · rw [if_neg h1] at h
      simp only [Option.some.injEq, Prod.mk.injEq] at h
      obtain ⟨rfl, rfl⟩ := h
      rw [Bool.not_eq_true] at h1
      rw [h1] at H48
      clear h1 HOM
      generalize oneM a0 l2 = mm at *
      obtain ⟨m0, m1, m2, m3⟩ := mm
      unfold mv at H48
      dsimp only at H48
      go_enter Try.func16, Try.ntmps16
      go_wp2_with (first | (go_at_call 45; refine HRD.out.mono ?_; rintro e w1 ⟨g, rfl, hb1, hi1⟩; have HB1 := Aside0.mk hb1; have HI1 := Aside0.mk hi1.reads; obtain ⟨Ax, cx, i0, i1, hrx⟩ := HI1.out; have HRX := Aside0.mk hrx; clear hb1 hi1 hrx) | (go_at_call 48; refine (H48.out w1 HB1.out).mono ?_; rintro e w2 ⟨rfl, hb2⟩; have HB2 := Aside0.mk (below_step HB1.out hb2); clear hb2))
      go_ret2
      exact ⟨rfl, below_alloc HB2.out _⟩
  · rw [if_neg h0] at h
    simp only [Option.some.injEq, Prod.mk.injEq] at h
    obtain ⟨rfl, rfl⟩ := h
    generalize hE : readE a0 l1 = E at *
    have HRD := Aside0.mk (read_bad A1 c1 a0 l1 w hr1 E hE)
    have cb : (E != 0) = true := bne_iff_ne.mpr h0
    clear hr1 hE h0
    go_enter Try.func16, Try.ntmps16
    go_wp2_with (go_at_call 45; refine HRD.out.mono ?_; rintro e w1 ⟨p, rfl, hb1⟩; have HB1 := Aside0.mk hb1; clear hb1)
    go_ret2
    exact ⟨rfl, HB1.out⟩
def pack_Over.f (a0 : Int) (l1 : List (List Int)) (l2 : List Int) : Option (List (List Int) × Int) := if readE a0 l1 = 0 then (if oneE a0 l2 = true then some ((least divs ((l1.map ofL).map (overM (ofL l2)))).map (toL a0), 0) else some (([] : List (List Int)), 1)) else some (([] : List (List Int)), readE a0 l1)
set_option maxRecDepth 100000 in
set_option maxHeartbeats 8000000 in
theorem pack_Over.calls (a0 : Int) (A1 : Option Addr) (c1 : Nat) (l1 : List (List Int)) (A2 : Option Addr) (c2 : Nat) (l2 : List Int) (r1 : List (List Int)) (r2 : Int) (w : World) (hr1 : Kd.C (Kd.slice 3 (Kd.int .i64)) w A1 l1.length l1) (hc1 : l1.length ≤ c1) (hr2 : Kd.C (Kd.int .i64) w A2 l2.length l2) (hc2 : l2.length ≤ c2) (h : pack_Over.f a0 l1 l2 = some (r1, r2)) :
    Calls Try.prog 31 #[.int .i64 a0, .slice A1 l1.length c1, .slice A2 l2.length c2] w fun e w' => ∃ v1_ : Value, e = .returned (.tuple #[v1_, .int .i64 r2]) ∧ Kd.R (Kd.slice 3 (Kd.int .i64)) 27 w' w.heap.size (fun _ => True) v1_ r1 ∧ Below w.heap.size w w' := by
  unfold pack_Over.f at h
  by_cases h0 : readE a0 l1 = 0
  · rw [if_pos h0] at h
    obtain ⟨hl12, hn1, hn4, hall⟩ := readE_ok h0
    have HRD := Aside0.mk (read_ok A1 c1 a0 l1 w hr1 h0)
    have HX : Aside0 ((l1.map ofL).length ≤ 12) := ⟨by rw [List.length_map]; exact hl12⟩
    have HV := Aside0.mk (V6s_ofL (fun l hl => (hall l hl).2))
    have HN := Aside0.mk (And.intro hn1 hn4)
    have HOM : Aside0 (oneE a0 l2 = true → oneM a0 l2 = ofL l2 ∧ V6 (ofL l2)) := ⟨fun h_ => by
      unfold oneE at h_
      rw [Bool.and_eq_true, decide_eq_true_iff] at h_
      exact ⟨by unfold oneM; rw [if_pos h_.1], V6_ofL ((okL_iff l2 (by omega)).1 h_.2)⟩⟩
    have H48 := Aside0.mk (fun W hb => one_calls A2 c2 a0 l2 W (Kd.C_below hr2 hb) hn1 hn4)
    clear hr1 h0 hall hl12 hn1 hn4 hr2
    generalize l1.map ofL = xs at *
    by_cases h1 : oneE a0 l2 = true
    · rw [if_pos h1] at h
      simp only [Option.some.injEq, Prod.mk.injEq] at h
      obtain ⟨rfl, rfl⟩ := h
      obtain ⟨em, hvm⟩ := HOM.out h1
      have HVM := Aside0.mk hvm
      rw [h1, em] at H48
      clear h1 em hvm HOM
      generalize ofL l2 = mm at *
      obtain ⟨m0, m1, m2, m3⟩ := mm
      unfold mv at H48
      dsimp only at H48
      go_enter Try.func31, Try.ntmps31
      go_wp2_with (first | (go_at_call 45; refine HRD.out.mono ?_; rintro e w1 ⟨g, rfl, hb1, hi1⟩; have HB1 := Aside0.mk hb1; have HI1 := Aside0.mk hi1.reads; obtain ⟨Ax, cx, i0, i1, hrx⟩ := HI1.out; have HRX := Aside0.mk hrx; clear hb1 hi1 hrx) | (go_at_call 48; refine (H48.out w1 HB1.out).mono ?_; rintro e w2 ⟨rfl, hb2⟩; have HB2 := Aside0.mk (below_step HB1.out hb2); have HI2 := Aside0.mk ((HI1.out.below hb2).below (below_alloc (Below.refl _ _) (.cells #[.int .i64 m0, .int .i64 m1, .int .i64 m2, .int .i64 m3] 76))); have HXB := Aside0.mk (boxAt_new w2 (m0, m1, m2, m3) 76); have HB3 := Aside0.mk (below_alloc HB2.out (.cells #[.int .i64 m0, .int .i64 m1, .int .i64 m2, .int .i64 m3] 76)); clear hb2) | (go_at_call 54; refine (changed_calls (overM (m0, m1, m2, m3)) 61 _ Try.func61 rfl (by kernel_rfl) #[.pointer (some ⟨w2.heap.size, 0, none⟩)] g a0 xs _ (fun W m hm hb => over_calls m (m0, m1, m2, m3) w2.heap.size W (HXB.out.below hb) (HV.out m hm) HVM.out) HI2.out (by have := HX.out; omega)).mono ?_; rintro e w3 ⟨g2, rfl, hi3, hb3⟩; have HBL := Aside0.mk (below_step HB3.out hb3); have HI3 := Aside0.mk hi3.reads; have k0 := pw_cell_below hb3 (show _ = some (Value.int .i64 a0) from (let ⟨_, _, h_, _⟩ := HI2.out; h_)); have K0 := Aside0.mk k0; obtain ⟨Ay, cy, j0, j1, hry⟩ := HI3.out; have HRY := Aside0.mk hry; clear hb3 hi3 hry k0) | (go_at_call 46; refine (list_calls a0 HN.out.1 HN.out.2 g Ay cy (least divs (xs.map (overM (m0, m1, m2, m3)))) _ K0.out HRY.out (by have h1_ := least_length divs (xs.map (overM (m0, m1, m2, m3))); have h2_ := HX.out; rw [List.length_map] at h1_; omega)).mono ?_; rintro e w3 ⟨v1, rfl, ho3, hb3⟩; have HL := Aside0.mk ho3; have HBM := Aside0.mk hb3; clear ho3 hb3))
      go_ret2
      exact ⟨_, rfl, Kd.R_lower HL.out HBL.out.size, below_step HBL.out HBM.out⟩
    · rw [if_neg h1] at h
      simp only [Option.some.injEq, Prod.mk.injEq] at h
      obtain ⟨rfl, rfl⟩ := h
      rw [Bool.not_eq_true] at h1
      rw [h1] at H48
      clear h1 HOM
      generalize oneM a0 l2 = mm at *
      obtain ⟨m0, m1, m2, m3⟩ := mm
      unfold mv at H48
      dsimp only at H48
      go_enter Try.func31, Try.ntmps31
      go_wp2_with (first | (go_at_call 45; refine HRD.out.mono ?_; rintro e w1 ⟨g, rfl, hb1, hi1⟩; have HB1 := Aside0.mk hb1; have HI1 := Aside0.mk hi1.reads; obtain ⟨Ax, cx, i0, i1, hrx⟩ := HI1.out; have HRX := Aside0.mk hrx; clear hb1 hi1 hrx) | (go_at_call 48; refine (H48.out w1 HB1.out).mono ?_; rintro e w2 ⟨rfl, hb2⟩; have HB2 := Aside0.mk (below_step HB1.out hb2); clear hb2))
      go_ret2
      exact ⟨_, rfl, Kd.R_nil _ _ _ _ _, below_alloc HB2.out _⟩
  · rw [if_neg h0] at h
    simp only [Option.some.injEq, Prod.mk.injEq] at h
    obtain ⟨rfl, rfl⟩ := h
    generalize hE : readE a0 l1 = E at *
    have HRD := Aside0.mk (read_bad A1 c1 a0 l1 w hr1 E hE)
    have cb : (E != 0) = true := bne_iff_ne.mpr h0
    clear hr1 hE h0
    go_enter Try.func31, Try.ntmps31
    go_wp2_with (go_at_call 45; refine HRD.out.mono ?_; rintro e w1 ⟨p, rfl, hb1⟩; have HB1 := Aside0.mk hb1; clear hb1)
    go_ret2
    exact ⟨_, rfl, Kd.R_nil _ _ _ _ _, HB1.out⟩
theorem parts_length (xs : List M4) (h : xs.length ≤ 12) : (parts xs).length ≤ 16777216 := by
  have h1 := partsOf_len (least divs xs) (least divs xs).length
  rw [List.take_length] at h1
  exact Nat.le_trans h1 (pow12 _ (Nat.le_trans (least_length divs xs) h))
def pack_Parts.f (a0 : Int) (l1 : List (List Int)) : Option (List (List Int) × Int) := if readE a0 l1 = 0 then (if hasM (l1.map ofL) (0, 0, 0, 0) = true then some ([], 5) else some ((parts (l1.map ofL)).map (toL a0), 0)) else some ([], readE a0 l1)
set_option maxRecDepth 100000 in
set_option maxHeartbeats 8000000 in
theorem pack_Parts.calls (a0 : Int) (A1 : Option Addr) (c1 : Nat) (l1 : List (List Int)) (r1 : List (List Int)) (r2 : Int) (w : World) (hr1 : Kd.C (Kd.slice 3 (Kd.int .i64)) w A1 l1.length l1) (hc1 : l1.length ≤ c1) (h : pack_Parts.f a0 l1 = some (r1, r2)) :
    Calls Try.prog 25 #[.int .i64 a0, .slice A1 l1.length c1] w fun e w' => ∃ v1_ : Value, e = .returned (.tuple #[v1_, .int .i64 r2]) ∧ Kd.R (Kd.slice 3 (Kd.int .i64)) 27 w' w.heap.size (fun _ => True) v1_ r1 ∧ Below w.heap.size w w' := by
  unfold pack_Parts.f at h
  by_cases h0 : readE a0 l1 = 0
  · rw [if_pos h0] at h
    obtain ⟨hl12, hn1, hn4, hall⟩ := readE_ok h0
    have HRD := Aside0.mk (read_ok A1 c1 a0 l1 w hr1 h0)
    have HX : Aside0 ((l1.map ofL).length ≤ 12) := ⟨by rw [List.length_map]; exact hl12⟩
    have HN := Aside0.mk (And.intro hn1 hn4)
    clear hr1 h0 hall hl12 hn1 hn4
    generalize l1.map ofL = xs at *
    cases hw : hasM xs (0, 0, 0, 0) with
    | true =>
      rw [if_pos hw] at h
      simp only [Option.some.injEq, Prod.mk.injEq] at h
      obtain ⟨rfl, rfl⟩ := h
      have HW : Aside0 (∀ g W, Ideal W g a0 xs → Calls Try.prog 57 #[.pointer (some ⟨g, 0, none⟩)] W fun e w' => e = .returned (.bool true) ∧ Below W.heap.size W w') := ⟨fun g W h_ => by have h5 := whole_calls g a0 xs W h_ (by have := HX.out; omega); rwa [hw] at h5⟩
      clear hw
      go_enter Try.func25, Try.ntmps25
      go_wp2_with (first | (go_at_call 45; refine HRD.out.mono ?_; rintro e w1 ⟨g, rfl, hb1, hi1⟩; have HB1 := Aside0.mk hb1; have HI1 := Aside0.mk hi1.reads; obtain ⟨Ax, cx, i0, i1, hrx⟩ := HI1.out; have HRX := Aside0.mk hrx; clear hb1 hi1 hrx) | (go_at_call 57; refine (HW.out g w1 HI1.out).mono ?_; rintro e w2 ⟨rfl, hb2⟩; have HB2 := Aside0.mk (below_step HB1.out hb2); clear hb2))
      go_ret2
      exact ⟨_, rfl, Kd.R_nil _ _ _ _ _, HB2.out⟩
    | false =>
      rw [if_neg (by rw [hw]; decide)] at h
      simp only [Option.some.injEq, Prod.mk.injEq] at h
      obtain ⟨rfl, rfl⟩ := h
      have HW : Aside0 (∀ g W, Ideal W g a0 xs → Calls Try.prog 57 #[.pointer (some ⟨g, 0, none⟩)] W fun e w' => e = .returned (.bool false) ∧ Below W.heap.size W w') := ⟨fun g W h_ => by have h5 := whole_calls g a0 xs W h_ (by have := HX.out; omega); rwa [hw] at h5⟩
      clear hw
      go_enter Try.func25, Try.ntmps25
      go_wp2_with (first | (go_at_call 45; refine HRD.out.mono ?_; rintro e w1 ⟨g, rfl, hb1, hi1⟩; have HB1 := Aside0.mk hb1; have HI1 := Aside0.mk hi1.reads; obtain ⟨Ax, cx, i0, i1, hrx⟩ := HI1.out; have HRX := Aside0.mk hrx; clear hb1 hi1 hrx) | (go_at_call 57; refine (HW.out g w1 HI1.out).mono ?_; rintro e w2 ⟨rfl, hb2⟩; have HB2 := Aside0.mk (below_step HB1.out hb2); have HI2 := Aside0.mk (HI1.out.below hb2); clear hb2) | (go_at_call 58; refine (parts_calls g a0 xs w2 HI2.out HX.out).mono ?_; rintro e w3 ⟨vp, rfl, ho3, hb3⟩; have HBL := Aside0.mk (below_step HB2.out hb3); have HOP := Aside0.mk ho3; have k0 := pw_cell_below hb3 (show w2.cell? ⟨g, 0, none⟩ = some (.int .i64 a0) from (let ⟨_, _, h_, _⟩ := HI2.out; h_)); have K0 := Aside0.mk k0; obtain ⟨Ay, cy, ey, _, hry, _⟩ := rows_of_R ho3; subst ey; have HRY := Aside0.mk hry; clear hb3 ho3 hry k0) | (go_at_call 46; refine (list_calls a0 HN.out.1 HN.out.2 g Ay cy (parts xs) _ K0.out HRY.out (by have h1_ := parts_length xs HX.out; omega)).mono ?_; rintro e w4 ⟨v1, rfl, ho4, hb4⟩; have HL := Aside0.mk ho4; have HBM := Aside0.mk hb4; clear ho4 hb4))
      go_ret2
      exact ⟨_, rfl, Kd.R_lower HL.out HBL.out.size, below_step HBL.out HBM.out⟩
  · rw [if_neg h0] at h
    simp only [Option.some.injEq, Prod.mk.injEq] at h
    obtain ⟨rfl, rfl⟩ := h
    generalize hE : readE a0 l1 = E at *
    have HRD := Aside0.mk (read_bad A1 c1 a0 l1 w hr1 E hE)
    have cb : (E != 0) = true := bne_iff_ne.mpr h0
    clear hr1 hE h0
    go_enter Try.func25, Try.ntmps25
    go_wp2_with (go_at_call 45; refine HRD.out.mono ?_; rintro e w1 ⟨p, rfl, hb1⟩; have HB1 := Aside0.mk hb1; clear hb1)
    go_ret2
    exact ⟨_, rfl, Kd.R_nil _ _ _ _ _, HB1.out⟩
def pack_Numerator.f (a0 : Int) (l1 : List (List Int)) : Option (List Int × Int) := if readE a0 l1 = 0 then some (numF 13 (l1.map ofL), 0) else some ([], readE a0 l1)
set_option maxRecDepth 100000 in
set_option maxHeartbeats 8000000 in
theorem pack_Numerator.calls (a0 : Int) (A1 : Option Addr) (c1 : Nat) (l1 : List (List Int)) (r1 : List Int) (r2 : Int) (w : World) (hr1 : Kd.C (Kd.slice 3 (Kd.int .i64)) w A1 l1.length l1) (hc1 : l1.length ≤ c1) (h : pack_Numerator.f a0 l1 = some (r1, r2)) :
    Calls Try.prog 52 #[.int .i64 a0, .slice A1 l1.length c1] w fun e w' => ∃ v1_ : Value, e = .returned (.tuple #[v1_, .int .i64 r2]) ∧ Kd.R (Kd.int .i64) 3 w' w.heap.size (fun _ => True) v1_ r1 ∧ Below w.heap.size w w' := by
  unfold pack_Numerator.f at h
  by_cases h0 : readE a0 l1 = 0
  · rw [if_pos h0] at h
    simp only [Option.some.injEq, Prod.mk.injEq] at h
    obtain ⟨rfl, rfl⟩ := h
    obtain ⟨hl12, hn1, hn4, hall⟩ := readE_ok h0
    have HRD := Aside0.mk (read_ok A1 c1 a0 l1 w hr1 h0)
    have HX : Aside0 ((l1.map ofL).length ≤ 12) := ⟨by rw [List.length_map]; exact hl12⟩
    have HV := Aside0.mk (V6s_ofL (fun l hl => (hall l hl).2))
    clear hr1 h0 hall hl12 hn1 hn4
    generalize l1.map ofL = xs at *
    go_enter Try.func52, Try.ntmps52
    go_wp2_with (first | (go_at_call 45; refine HRD.out.mono ?_; rintro e w1 ⟨g, rfl, hb1, hi1⟩; have HB1 := Aside0.mk hb1; have HI1 := Aside0.mk hi1.reads; obtain ⟨Ax, cx, i0, i1, hrx⟩ := HI1.out; have HRX := Aside0.mk hrx; clear hb1 hi1 hrx) | (go_at_call 65; refine (numer_calls 13 (Nat.le_refl _) g a0 xs w1 HI1.out HV.out (by have := HX.out; omega)).mono ?_; rintro e w2 ⟨v2, rfl, ho2, hb2⟩; have HO2 := Aside0.mk (Kd.R_lower ho2 HB1.out.size); have HB2 := Aside0.mk (below_step HB1.out hb2); clear ho2 hb2))
    go_ret2
    exact ⟨_, rfl, HO2.out, HB2.out⟩
  · rw [if_neg h0] at h
    simp only [Option.some.injEq, Prod.mk.injEq] at h
    obtain ⟨rfl, rfl⟩ := h
    generalize hE : readE a0 l1 = E at *
    have HRD := Aside0.mk (read_bad A1 c1 a0 l1 w hr1 E hE)
    have cb : (E != 0) = true := bne_iff_ne.mpr h0
    clear hr1 hE h0
    go_enter Try.func52, Try.ntmps52
    go_wp2_with (go_at_call 45; refine HRD.out.mono ?_; rintro e w1 ⟨p, rfl, hb1⟩; have HB1 := Aside0.mk hb1; clear hb1)
    go_ret2
    exact ⟨_, rfl, Kd.R_nil _ _ _ _ _, HB1.out⟩
end Go.Proofs.Ytmekcfkfkpbfeaa.H
namespace Go.Proofs.Ytmekcfkfkpbfeaa.H
open Go.RowKit Go.Proofs.YtmekcfkfkpbfeaaW.PrintWords Go.Proofs.YtmekcfkfkpbfeaaW.PrintLast Go.Proofs.YtmekcfkfkpbfeaaW.PrintMore
attribute [local go_sem] max2_int min2_int max_two min_two max_three min_three max_four min_four
set_option linter.unusedVariables false
set_option linter.unusedSimpArgs false
theorem put_V6 (G : M4) (hG : V6 G) (p : M4) (hp : V6 p) (i : Nat) : V6s (stepP G p i) := by
  intro m hm
  have hq : V6 (put p i (nth G i)) := by
    obtain ⟨g0, g1, g2, g3⟩ := G
    obtain ⟨p0, p1, p2, p3⟩ := p
    unfold put nth
    unfold V6 at *
    split
    · exact ⟨hG.1, hp.2⟩
    · split
      · exact ⟨hp.1, hG.2.1, hp.2.2⟩
      · split
        · exact ⟨hp.1, hp.2.1, hG.2.2.1, hp.2.2.2⟩
        · exact ⟨hp.1, hp.2.1, hp.2.2.1, hG.2.2.2⟩
  unfold stepP at hm
  split at hm
  · cases hm
  · split at hm
    · rw [List.mem_singleton.1 hm]; exact hq
    · rw [List.mem_singleton.1 hm]; exact hp
theorem nexts_V6 {G : M4} (hG : V6 G) {l : List M4} (hl : V6s l) : V6s (nexts G l) := by
  intro m hm
  unfold nexts split1 stepTo at hm
  obtain ⟨p, hp, hm⟩ := List.mem_flatMap.1 hm
  obtain ⟨i, _, hm⟩ := List.mem_flatMap.1 hm
  exact put_V6 G hG p (hl p hp) i m hm
theorem V6s_partsF : ∀ (gens l : List M4), V6s gens → V6s l → V6s (gens.foldl (fun l g => least within (nexts g l)) l)
  | [], l, _, hl => hl
  | g :: gens, l, hg, hl => V6s_partsF gens _ (fun m hm => hg m (List.mem_cons_of_mem _ hm)) (V6s_least (nexts_V6 (hg g List.mem_cons_self) hl))
theorem V6s_parts {xs : List M4} (h : V6s xs) : V6s (parts xs) := V6s_partsF _ _ (V6s_least h) (by
  intro m hm
  rw [List.mem_singleton.1 hm]
  unfold V6
  simp)
/-- Some element does not divide the top. -/
def over (xs : List M4) (top : M4) : Bool := xs.any fun y => !divs y top
def pack_Dual.f (a0 : Int) (l1 : List (List Int)) (l2 : List Int) : Option (List (List Int) × Int) := if readE a0 l1 = 0 then (if oneE a0 l2 = true then (if over (least divs (l1.map ofL)) (ofL l2) = true then some ([], 1) else (if hasM (l1.map ofL) (0, 0, 0, 0) = true then some ([], 0) else some ((least divs ((parts (l1.map ofL)).map (dualM (ofL l2)))).map (toL a0), 0))) else some ([], 1)) else some ([], readE a0 l1)
theorem overC_calls (A : Option Addr) (c : Nat) (xs : List M4) (m : M4) (pm : Nat) (W : World) (hr : Rows W A xs) (hl : xs.length < 1000000000) (hm : BoxAt W pm m) :
    Calls Try.prog 70 #[.slice A xs.length c, .func (.func 71) #[] #[.pointer (some ⟨pm, 0, none⟩)]] W fun e w' => e = .returned (.bool (over xs m)) ∧ Below W.heap.size W w' :=
  ContainsFunc_calls (fun y => !divs y m) 71 _ Try.func71 rfl (by kernel_rfl) _ A c xs W hr hl (fun W1 y hB => (no_calls y m pm W1 (hm.below hB)).mono fun e w2 ⟨he, hL⟩ => ⟨he, below_step hB hL⟩)
set_option maxRecDepth 100000 in
set_option maxHeartbeats 16000000 in
theorem pack_Dual.calls (a0 : Int) (A1 : Option Addr) (c1 : Nat) (l1 : List (List Int)) (A2 : Option Addr) (c2 : Nat) (l2 : List Int) (r1 : List (List Int)) (r2 : Int) (w : World) (hr1 : Kd.C (Kd.slice 3 (Kd.int .i64)) w A1 l1.length l1) (hc1 : l1.length ≤ c1) (hr2 : Kd.C (Kd.int .i64) w A2 l2.length l2) (hc2 : l2.length ≤ c2) (h : pack_Dual.f a0 l1 l2 = some (r1, r2)) :
    Calls Try.prog 43 #[.int .i64 a0, .slice A1 l1.length c1, .slice A2 l2.length c2] w fun e w' => ∃ v1_ : Value, e = .returned (.tuple #[v1_, .int .i64 r2]) ∧ Kd.R (Kd.slice 3 (Kd.int .i64)) 27 w' w.heap.size (fun _ => True) v1_ r1 ∧ Below w.heap.size w w' := by
  unfold pack_Dual.f at h
  by_cases h0 : readE a0 l1 = 0
  · rw [if_pos h0] at h
    obtain ⟨hl12, hn1, hn4, hall⟩ := readE_ok h0
    have HRD := Aside0.mk (read_ok A1 c1 a0 l1 w hr1 h0)
    have HX : Aside0 ((l1.map ofL).length ≤ 12) := ⟨by rw [List.length_map]; exact hl12⟩
    have HV := Aside0.mk (V6s_ofL (fun l hl => (hall l hl).2))
    have HN := Aside0.mk (And.intro hn1 hn4)
    have HOM : Aside0 (oneE a0 l2 = true → oneM a0 l2 = ofL l2 ∧ V6 (ofL l2)) := ⟨fun h_ => by
      unfold oneE at h_
      rw [Bool.and_eq_true, decide_eq_true_iff] at h_
      exact ⟨by unfold oneM; rw [if_pos h_.1], V6_ofL ((okL_iff l2 (by omega)).1 h_.2)⟩⟩
    have H48 := Aside0.mk (fun W hb => one_calls A2 c2 a0 l2 W (Kd.C_below hr2 hb) hn1 hn4)
    clear hr1 h0 hall hl12 hn1 hn4 hr2
    generalize l1.map ofL = xs at *
    by_cases h1 : oneE a0 l2 = true
    · rw [if_pos h1] at h
      obtain ⟨em, hvm⟩ := HOM.out h1
      have HVM := Aside0.mk hvm
      rw [h1, em] at H48
      clear h1 em hvm HOM
      generalize ofL l2 = mm at *
      have HCF : Aside0 (∀ A c pm W, Rows W A (least divs xs) → BoxAt W pm mm → Calls Try.prog 70 #[.slice A (least divs xs).length c, .func (.func 71) #[] #[.pointer (some ⟨pm, 0, none⟩)]] W fun e w' => e = .returned (.bool (over (least divs xs) mm)) ∧ Below W.heap.size W w') := ⟨fun A c pm W hr hm => overC_calls A c _ mm pm W hr (by have h1_ := least_length divs xs; have h2_ := HX.out; omega) hm⟩
      have HW : Aside0 (∀ g W, Ideal W g a0 xs → Calls Try.prog 57 #[.pointer (some ⟨g, 0, none⟩)] W fun e w' => e = .returned (.bool (hasM xs (0, 0, 0, 0))) ∧ Below W.heap.size W w') := ⟨fun g W h_ => whole_calls g a0 xs W h_ (by have := HX.out; omega)⟩
      obtain ⟨m0, m1, m2, m3⟩ := mm
      unfold mv at H48
      dsimp only at H48
      cases ho : over (least divs xs) (m0, m1, m2, m3) with
      | true =>
        rw [ho] at HCF
        rw [if_pos ho] at h
        simp only [Option.some.injEq, Prod.mk.injEq] at h
        obtain ⟨rfl, rfl⟩ := h
        clear ho
        go_enter Try.func43, Try.ntmps43
        go_wp2_with (first | (go_at_call 45; refine HRD.out.mono ?_; rintro e w1 ⟨g, rfl, hb1, hi1⟩; have HB1 := Aside0.mk hb1; have HI1 := Aside0.mk hi1.reads; obtain ⟨Ax, cx, i0, i1, hrx⟩ := HI1.out; have HRX := Aside0.mk hrx; clear hb1 hi1 hrx) | (go_at_call 48; refine (H48.out w1 HB1.out).mono ?_; rintro e w2 ⟨rfl, hb2⟩; have HB2 := Aside0.mk (below_step HB1.out hb2); have HI2 := Aside0.mk ((HI1.out.below hb2).below (below_alloc (Below.refl _ _) (.cells #[.int .i64 m0, .int .i64 m1, .int .i64 m2, .int .i64 m3] 76))); have HXB := Aside0.mk (boxAt_new w2 (m0, m1, m2, m3) 76); have HB3 := Aside0.mk (below_alloc HB2.out (.cells #[.int .i64 m0, .int .i64 m1, .int .i64 m2, .int .i64 m3] 76)); clear hb2) | (go_at_call 47; refine (minimal_calls g a0 xs _ HI2.out (by have := HX.out; omega)).mono ?_; rintro e w3 ⟨g2, rfl, hi3, hb3⟩; have HB4 := Aside0.mk (below_step HB3.out hb3); have HI3 := Aside0.mk (HI2.out.below hb3); have HXB3 := Aside0.mk (HXB.out.below hb3); have hrd3 := hi3.reads; obtain ⟨Ay, cy, j0, j1, hry⟩ := hrd3; have HRY := Aside0.mk hry; clear hb3 hi3 hry) | (go_at_call 70; refine (HCF.out Ay cy w2.heap.size w3 HRY.out HXB3.out).mono ?_; rintro e w4 ⟨rfl, hb4⟩; have HB5 := Aside0.mk (below_step HB4.out hb4); have HI4 := Aside0.mk (HI3.out.below hb4); have HXB4 := Aside0.mk (HXB3.out.below hb4); clear hb4 j0 j1))
        go_ret2
        exact ⟨_, rfl, Kd.R_nil _ _ _ _ _, HB5.out⟩
      | false =>
        rw [ho] at HCF
        rw [if_neg (by rw [ho]; decide)] at h
        clear ho
        cases hw : hasM xs (0, 0, 0, 0) with
        | true =>
          rw [hw] at HW
          rw [if_pos hw] at h
          simp only [Option.some.injEq, Prod.mk.injEq] at h
          obtain ⟨rfl, rfl⟩ := h
          clear hw
          go_enter Try.func43, Try.ntmps43
          go_wp2_with (first | (go_at_call 45; refine HRD.out.mono ?_; rintro e w1 ⟨g, rfl, hb1, hi1⟩; have HB1 := Aside0.mk hb1; have HI1 := Aside0.mk hi1.reads; obtain ⟨Ax, cx, i0, i1, hrx⟩ := HI1.out; have HRX := Aside0.mk hrx; clear hb1 hi1 hrx) | (go_at_call 48; refine (H48.out w1 HB1.out).mono ?_; rintro e w2 ⟨rfl, hb2⟩; have HB2 := Aside0.mk (below_step HB1.out hb2); have HI2 := Aside0.mk ((HI1.out.below hb2).below (below_alloc (Below.refl _ _) (.cells #[.int .i64 m0, .int .i64 m1, .int .i64 m2, .int .i64 m3] 76))); have HXB := Aside0.mk (boxAt_new w2 (m0, m1, m2, m3) 76); have HB3 := Aside0.mk (below_alloc HB2.out (.cells #[.int .i64 m0, .int .i64 m1, .int .i64 m2, .int .i64 m3] 76)); clear hb2) | (go_at_call 47; refine (minimal_calls g a0 xs _ HI2.out (by have := HX.out; omega)).mono ?_; rintro e w3 ⟨g2, rfl, hi3, hb3⟩; have HB4 := Aside0.mk (below_step HB3.out hb3); have HI3 := Aside0.mk (HI2.out.below hb3); have HXB3 := Aside0.mk (HXB.out.below hb3); have hrd3 := hi3.reads; obtain ⟨Ay, cy, j0, j1, hry⟩ := hrd3; have HRY := Aside0.mk hry; clear hb3 hi3 hry) | (go_at_call 70; refine (HCF.out Ay cy w2.heap.size w3 HRY.out HXB3.out).mono ?_; rintro e w4 ⟨rfl, hb4⟩; have HB5 := Aside0.mk (below_step HB4.out hb4); have HI4 := Aside0.mk (HI3.out.below hb4); have HXB4 := Aside0.mk (HXB3.out.below hb4); clear hb4 j0 j1) | (go_at_call 57; refine (HW.out g w4 HI4.out).mono ?_; rintro e w5 ⟨rfl, hb5⟩; have HB6 := Aside0.mk (below_step HB5.out hb5); have HI5 := Aside0.mk (HI4.out.below hb5); have HXB5 := Aside0.mk (HXB4.out.below hb5); clear hb5))
          go_ret2
          exact ⟨_, rfl, Kd.R_nil _ _ _ _ _, HB6.out⟩
        | false =>
          rw [hw] at HW
          rw [if_neg (by rw [hw]; decide)] at h
          simp only [Option.some.injEq, Prod.mk.injEq] at h
          obtain ⟨rfl, rfl⟩ := h
          clear hw
          go_enter Try.func43, Try.ntmps43
          go_wp2_with (first | (go_at_call 45; refine HRD.out.mono ?_; rintro e w1 ⟨g, rfl, hb1, hi1⟩; have HB1 := Aside0.mk hb1; have HI1 := Aside0.mk hi1.reads; obtain ⟨Ax, cx, i0, i1, hrx⟩ := HI1.out; have HRX := Aside0.mk hrx; clear hb1 hi1 hrx) | (go_at_call 48; refine (H48.out w1 HB1.out).mono ?_; rintro e w2 ⟨rfl, hb2⟩; have HB2 := Aside0.mk (below_step HB1.out hb2); have HI2 := Aside0.mk ((HI1.out.below hb2).below (below_alloc (Below.refl _ _) (.cells #[.int .i64 m0, .int .i64 m1, .int .i64 m2, .int .i64 m3] 76))); have HXB := Aside0.mk (boxAt_new w2 (m0, m1, m2, m3) 76); have HB3 := Aside0.mk (below_alloc HB2.out (.cells #[.int .i64 m0, .int .i64 m1, .int .i64 m2, .int .i64 m3] 76)); clear hb2) | (go_at_call 47; refine (minimal_calls g a0 xs _ HI2.out (by have := HX.out; omega)).mono ?_; rintro e w3 ⟨g2, rfl, hi3, hb3⟩; have HB4 := Aside0.mk (below_step HB3.out hb3); have HI3 := Aside0.mk (HI2.out.below hb3); have HXB3 := Aside0.mk (HXB.out.below hb3); have hrd3 := hi3.reads; obtain ⟨Ay, cy, j0, j1, hry⟩ := hrd3; have HRY := Aside0.mk hry; clear hb3 hi3 hry) | (go_at_call 70; refine (HCF.out Ay cy w2.heap.size w3 HRY.out HXB3.out).mono ?_; rintro e w4 ⟨rfl, hb4⟩; have HB5 := Aside0.mk (below_step HB4.out hb4); have HI4 := Aside0.mk (HI3.out.below hb4); have HXB4 := Aside0.mk (HXB3.out.below hb4); clear hb4 j0 j1) | (go_at_call 57; refine (HW.out g w4 HI4.out).mono ?_; rintro e w5 ⟨rfl, hb5⟩; have HB6 := Aside0.mk (below_step HB5.out hb5); have HI5 := Aside0.mk (HI4.out.below hb5); have HXB5 := Aside0.mk (HXB4.out.below hb5); clear hb5) | (go_at_call 58; refine (parts_calls g a0 xs w5 HI5.out HX.out).mono ?_; rintro e w6 ⟨vp, rfl, ho6, hb6⟩; have HB7 := Aside0.mk (below_step HB6.out hb6); obtain ⟨Ap, cp, ep⟩ := Kd.R_slice ho6; subst ep; have HOP := Aside0.mk (Kd.R_alloc (Kd.R_lower ho6 HB6.out.size) (.cells #[.int .i64 a0, .slice Ap (parts xs).length cp] 73)); have HIP : Aside0 (IdealAt (w6.alloc (.cells #[.int .i64 a0, .slice Ap (parts xs).length cp] 73)) w.heap.size w6.heap.size a0 (parts xs)) := ⟨⟨_, HB7.out.size, heap_alloc_new _ _, HOP.out⟩⟩; have HXB6 := Aside0.mk ((HXB5.out.below hb6).below (below_alloc (Below.refl _ _) (.cells #[.int .i64 a0, .slice Ap (parts xs).length cp] 73))); have HI6 := Aside0.mk ((HI5.out.below hb6).below (below_alloc (Below.refl _ _) (.cells #[.int .i64 a0, .slice Ap (parts xs).length cp] 73))); have HB8 := Aside0.mk (below_alloc HB7.out (.cells #[.int .i64 a0, .slice Ap (parts xs).length cp] 73)); clear hb6 ho6) | (go_at_call 54; refine (changed_calls (dualM (m0, m1, m2, m3)) 73 _ Try.func73 rfl (by kernel_rfl) #[.pointer (some ⟨w2.heap.size, 0, none⟩)] w6.heap.size a0 (parts xs) _ (fun W m hm hb => dual_calls m (m0, m1, m2, m3) w2.heap.size W (HXB6.out.below hb) (V6s_parts HV.out m hm) HVM.out) HIP.out.reads (Nat.lt_of_le_of_lt (parts_length xs HX.out) (by omega))).mono ?_; rintro e w7 ⟨g3, rfl, hi7, hb7⟩; have HBL := Aside0.mk (below_step HB8.out hb7); have hrd7 := hi7.reads; have k0 := pw_cell_below hb7 (show _ = some (Value.int .i64 a0) from (let ⟨_, _, h_, _⟩ := HI6.out; h_)); have K0 := Aside0.mk k0; obtain ⟨Az, cz, q0, q1, hrz⟩ := hrd7; have HRZ := Aside0.mk hrz; clear hb7 hi7 hrz k0) | (go_at_call 46; refine (list_calls a0 HN.out.1 HN.out.2 g Az cz (least divs ((parts xs).map (dualM (m0, m1, m2, m3)))) _ K0.out HRZ.out (by have h1_ := least_length divs ((parts xs).map (dualM (m0, m1, m2, m3))); have h2_ := parts_length xs HX.out; rw [List.length_map] at h1_; omega)).mono ?_; rintro e w8 ⟨v1, rfl, ho8, hb8⟩; have HL := Aside0.mk ho8; have HBM := Aside0.mk hb8; clear ho8 hb8))
          go_ret2
          exact ⟨_, rfl, Kd.R_lower HL.out HBL.out.size, below_step HBL.out HBM.out⟩
    · rw [if_neg h1] at h
      simp only [Option.some.injEq, Prod.mk.injEq] at h
      obtain ⟨rfl, rfl⟩ := h
      rw [Bool.not_eq_true] at h1
      rw [h1] at H48
      clear h1 HOM
      generalize oneM a0 l2 = mm at *
      obtain ⟨m0, m1, m2, m3⟩ := mm
      unfold mv at H48
      dsimp only at H48
      go_enter Try.func43, Try.ntmps43
      go_wp2_with (first | (go_at_call 45; refine HRD.out.mono ?_; rintro e w1 ⟨g, rfl, hb1, hi1⟩; have HB1 := Aside0.mk hb1; have HI1 := Aside0.mk hi1.reads; obtain ⟨Ax, cx, i0, i1, hrx⟩ := HI1.out; have HRX := Aside0.mk hrx; clear hb1 hi1 hrx) | (go_at_call 48; refine (H48.out w1 HB1.out).mono ?_; rintro e w2 ⟨rfl, hb2⟩; have HB2 := Aside0.mk (below_step HB1.out hb2); clear hb2))
      go_ret2
      exact ⟨_, rfl, Kd.R_nil _ _ _ _ _, below_alloc HB2.out _⟩
  · rw [if_neg h0] at h
    simp only [Option.some.injEq, Prod.mk.injEq] at h
    obtain ⟨rfl, rfl⟩ := h
    generalize hE : readE a0 l1 = E at *
    have HRD := Aside0.mk (read_bad A1 c1 a0 l1 w hr1 E hE)
    have cb : (E != 0) = true := bne_iff_ne.mpr h0
    clear hr1 hE h0
    go_enter Try.func43, Try.ntmps43
    go_wp2_with (go_at_call 45; refine HRD.out.mono ?_; rintro e w1 ⟨p, rfl, hb1⟩; have HB1 := Aside0.mk hb1; clear hb1)
    go_ret2
    exact ⟨_, rfl, Kd.R_nil _ _ _ _ _, HB1.out⟩
end Go.Proofs.Ytmekcfkfkpbfeaa.H
namespace Go.Proofs.Ytmekcfkfkpbfeaa.H
open Go.RowKit Go.Proofs.YtmekcfkfkpbfeaaW.PrintWords Go.Proofs.YtmekcfkfkpbfeaaW.PrintLast Go.Proofs.YtmekcfkfkpbfeaaW.PrintMore
attribute [local go_sem] max2_int min2_int max_two min_two max_three min_three max_four min_four
set_option linter.unusedVariables false
set_option linter.unusedSimpArgs false
/-- The number of monomials of degree d in n variables. -/
def monos (n d : Int) : Int := if n = 1 then 1 else if n = 2 then d + 1 else if n = 3 then (d + 1) * (d + 2) / 2 else ((d + 1) * (d + 2) / 2) * (d + 3) / 3
theorem mono_mul (x y a b : Int) (hx : 0 ≤ x) (hx' : x ≤ a) (hy : 0 ≤ y) (hy' : y ≤ b) : 0 ≤ x * y ∧ x * y ≤ a * b := ⟨Int.mul_nonneg hx hy, Int.mul_le_mul hx' hy' hy (by omega)⟩
theorem monos_bd (n d : Int) (h0 : 0 ≤ d) (h1 : d ≤ 60) : 0 ≤ monos n d ∧ monos n d ≤ 50000 := by
  have h2 := mono_mul (d + 1) (d + 2) 61 62 (by omega) (by omega) (by omega) (by omega)
  have h3 := mono_mul ((d + 1) * (d + 2) / 2) (d + 3) 1891 63 (by omega) (by omega) (by omega) (by omega)
  unfold monos
  split
  · omega
  · split
    · omega
    · split
      · omega
      · omega
theorem monos_ev (n d : Int) (hn1 : 1 ≤ n) (hn4 : n ≤ 4) (h0 : 0 ≤ d) (h1 : d ≤ 60) : ∃ k, Ga.pack_monomials.f k n d = some (monos n d) := by
  have h2 := mono_mul (d + 1) (d + 2) 61 62 (by omega) (by omega) (by omega) (by omega)
  have h3 := mono_mul ((d + 1) * (d + 2) / 2) (d + 3) 1891 63 (by omega) (by omega) (by omega) (by omega)
  have e1 : wrap64 (Int.tdiv (wrap64 (1 * (wrap64 (d + 1)))) 1) = d + 1 := by
    rw [w64 (x := d + 1) (by omega), Int.one_mul, w64 (x := d + 1) (by omega), Int.tdiv_one, w64 (by omega)]
  have e2 : wrap64 (Int.tdiv (wrap64 ((d + 1) * (wrap64 (d + 2)))) 2) = (d + 1) * (d + 2) / 2 := by
    rw [w64 (x := d + 2) (by omega), w64 (x := (d + 1) * (d + 2)) (by omega), Int.tdiv_eq_ediv_of_nonneg h2.1, w64 (by omega)]
  have e3 : wrap64 (Int.tdiv (wrap64 (((d + 1) * (d + 2) / 2) * (wrap64 (d + 3)))) 3) = ((d + 1) * (d + 2) / 2) * (d + 3) / 3 := by
    rw [w64 (x := d + 3) (by omega), w64 (x := ((d + 1) * (d + 2) / 2) * (d + 3)) (by omega), Int.tdiv_eq_ediv_of_nonneg h3.1, w64 (by omega)]
  have s1 : wrap64 (1 + 1) = 2 := w64 (by omega)
  have s2 : wrap64 (2 + 1) = 3 := w64 (by omega)
  have s3 : wrap64 (3 + 1) = 4 := w64 (by omega)
  have hc : n = 1 ∨ n = 2 ∨ n = 3 ∨ n = 4 := by omega
  refine ⟨5, ?_⟩
  unfold Ga.pack_monomials.f
  rcases hc with rfl | rfl | rfl | rfl
  · simp only [Ga.pack_monomials.l0]
    rw [if_neg (by omega)]
    rfl
  · simp only [Ga.pack_monomials.l0]
    rw [if_pos (by omega), if_neg (by omega), e1, s1, if_neg (by omega)]
    rfl
  · simp only [Ga.pack_monomials.l0]
    rw [if_pos (by omega), if_neg (by omega), e1, s1, if_pos (by omega), if_neg (by omega), e2, s2, if_neg (by omega)]
    rfl
  · simp only [Ga.pack_monomials.l0]
    rw [if_pos (by omega), if_neg (by omega), e1, s1, if_pos (by omega), if_neg (by omega), e2, s2, if_pos (by omega), if_neg (by omega), e3, s3, if_neg (by omega)]
    rfl
theorem monos_calls (n d : Int) (w : World) (hn1 : 1 ≤ n) (hn4 : n ≤ 4) (h0 : 0 ≤ d) (h1 : d ≤ 60) : Calls Try.prog 66 #[.int .i64 n, .int .i64 d] w fun e w' => e = .returned (.int .i64 (monos n d)) ∧ Drawn0 w w' := by
  obtain ⟨k, hk⟩ := monos_ev n d hn1 hn4 h0 h1
  exact Ga.pack_monomials.calls k n d _ w hk
/-- The first j numbers of a numerator, each with the monomials of what is left of the degree. -/
def sumTo (n d : Int) (l : List Int) : Nat → Int
  | 0 => 0
  | j + 1 => if (j : Int) ≤ d then sumTo n d l j + l.getD j 0 * monos n (d - j) else sumTo n d l j
def hilb (n : Int) (xs : List M4) (d : Int) : Int := sumTo n d (numF 13 xs) (numF 13 xs).length
theorem sumTo_bd (n d : Int) (l : List Int) (hl : Small l 4096) (h0 : 0 ≤ d) (h1 : d ≤ 60) : ∀ j : Nat, -(204800000 * (j : Int)) ≤ sumTo n d l j ∧ sumTo n d l j ≤ 204800000 * (j : Int)
  | 0 => by simp [sumTo]
  | j + 1 => by
    have ih := sumTo_bd n d l hl h0 h1 j
    have hx := hl.rd (by omega) j
    unfold sumTo
    split
    · have hm := monos_bd n (d - j) (by omega) (by omega)
      have h2 : l.getD j 0 * monos n (d - j) ≤ 204800000 := by
        have := mono_mul (4096 + l.getD j 0) (monos n (d - j)) 8192 50000 (by omega) (by omega) hm.1 hm.2
        rcases Int.le_total 0 (l.getD j 0) with h | h
        · exact (mono_mul _ _ 4096 50000 h hx.2 hm.1 hm.2).2
        · exact Int.le_trans (Int.mul_nonpos_of_nonpos_of_nonneg h hm.1) (by omega)
      have h3 : -204800000 ≤ l.getD j 0 * monos n (d - j) := by
        rcases Int.le_total 0 (l.getD j 0) with h | h
        · exact Int.le_trans (by omega) (Int.mul_nonneg h hm.1)
        · have h4 := (mono_mul (-(l.getD j 0)) (monos n (d - j)) 4096 50000 (by omega) (by omega) hm.1 hm.2).2
          rw [Int.neg_mul] at h4
          omega
      omega
    · omega
def pack_Hilbert.f (a0 : Int) (l1 : List (List Int)) (a2 : Int) : Option (Int × Int) := if readE a0 l1 = 0 then (if a2 < 0 then some (0, 1) else if 60 < a2 then some (0, 1) else some (hilb a0 (l1.map ofL) a2, 0)) else some (0, readE a0 l1)
theorem Drawn0.blw {w w' : World} (h : Drawn0 w w') : Below w.heap.size w w' := h.below
set_option maxRecDepth 100000 in
set_option maxHeartbeats 16000000 in
theorem pack_Hilbert.calls (a0 : Int) (A1 : Option Addr) (c1 : Nat) (l1 : List (List Int)) (a2 : Int) (r1 : Int) (r2 : Int) (w : World) (hr1 : Kd.C (Kd.slice 3 (Kd.int .i64)) w A1 l1.length l1) (hc1 : l1.length ≤ c1) (h : pack_Hilbert.f a0 l1 a2 = some (r1, r2)) :
    Calls Try.prog 38 #[.int .i64 a0, .slice A1 l1.length c1, .int .i64 a2] w fun e w' => e = .returned (.tuple #[.int .i64 r1, .int .i64 r2]) ∧ Below w.heap.size w w' := by
  unfold pack_Hilbert.f at h
  by_cases h0 : readE a0 l1 = 0
  · rw [if_pos h0] at h
    obtain ⟨hl12, hn1, hn4, hall⟩ := readE_ok h0
    have HRD := Aside0.mk (read_ok A1 c1 a0 l1 w hr1 h0)
    have HX : Aside0 ((l1.map ofL).length ≤ 12) := ⟨by rw [List.length_map]; exact hl12⟩
    have HV := Aside0.mk (V6s_ofL (fun l hl => (hall l hl).2))
    have HN := Aside0.mk (And.intro hn1 hn4)
    clear hr1 h0 hall hl12 hn1 hn4
    generalize l1.map ofL = xs at *
    by_cases h1 : a2 < 0
    · rw [if_pos h1] at h
      simp only [Option.some.injEq, Prod.mk.injEq] at h
      obtain ⟨rfl, rfl⟩ := h
      have hb1 : decide (a2 < 0) = true := decide_eq_true h1
      clear h1
      go_enter Try.func38, Try.ntmps38
      go_wp2_with ((go_at_call 45; refine HRD.out.mono ?_; rintro e w1 ⟨g, rfl, hb1, hi1⟩; have HB1 := Aside0.mk hb1; have HI1 := Aside0.mk hi1.reads; obtain ⟨Ax, cx, i0, i1, hrx⟩ := HI1.out; have HRX := Aside0.mk hrx; clear hb1 hi1 hrx))
      go_ret2
      exact ⟨rfl, HB1.out⟩
    rw [if_neg h1] at h
    have hb1 : decide (a2 < 0) = false := decide_eq_false h1
    by_cases h2 : 60 < a2
    · rw [if_pos h2] at h
      simp only [Option.some.injEq, Prod.mk.injEq] at h
      obtain ⟨rfl, rfl⟩ := h
      have hb2 : decide (60 < a2) = true := decide_eq_true h2
      clear h1 h2
      go_enter Try.func38, Try.ntmps38
      go_wp2_with ((go_at_call 45; refine HRD.out.mono ?_; rintro e w1 ⟨g, rfl, hb1, hi1⟩; have HB1 := Aside0.mk hb1; have HI1 := Aside0.mk hi1.reads; obtain ⟨Ax, cx, i0, i1, hrx⟩ := HI1.out; have HRX := Aside0.mk hrx; clear hb1 hi1 hrx))
      go_ret2
      exact ⟨rfl, HB1.out⟩
    rw [if_neg h2] at h
    simp only [Option.some.injEq, Prod.mk.injEq] at h
    obtain ⟨rfl, rfl⟩ := h
    have hb2 : decide (60 < a2) = false := decide_eq_false h2
    have ha0 : 0 ≤ a2 := by omega
    have ha1 : a2 ≤ 60 := by omega
    have HA := Aside0.mk (And.intro ha0 ha1)
    have HNB : Aside0 ((numF 13 xs).length ≤ 300 ∧ Small (numF 13 xs) 4096) := ⟨by
      obtain ⟨b1, b2⟩ := num_bounds 13 xs HV.out (by have := HX.out; omega)
      have hx_ := HX.out
      exact ⟨by omega, b2.mono (pow_small _ hx_)⟩⟩
    have HH : Aside0 (hilb a0 xs a2 = sumTo a0 a2 (numF 13 xs) (numF 13 xs).length) := ⟨rfl⟩
    have HNU := Aside0.mk (fun g W h_ => numer_calls 13 (Nat.le_refl _) g a0 xs W h_ HV.out (by have := HX.out; omega))
    generalize hilb a0 xs a2 = res at *
    generalize numF 13 xs = nl at *
    clear h1 h2
    go_enter Try.func38, Try.ntmps38
    go_wp2_with (first | (go_at_call 45; refine HRD.out.mono ?_; rintro e w1 ⟨g, rfl, hb1, hi1⟩; have HB1 := Aside0.mk hb1; have HI1 := Aside0.mk hi1.reads; obtain ⟨Ax, cx, i0, i1, hrx⟩ := HI1.out; have HRX := Aside0.mk hrx; clear hb1 hi1 hrx) | (go_at_call 65; refine (HNU.out g w1 HI1.out).mono ?_; rintro e w2 ⟨v2, rfl, ho2, hb2_⟩; obtain ⟨As, cs, es⟩ := Kd.R_slice ho2; subst es; have HO2 := Aside0.mk (Kd.R_reads' ho2).2.2; have HB2 := Aside0.mk (below_step HB1.out hb2_); clear ho2 hb2_))
    clear i0 i1 hb1 hb2
    have hnl : nl.length ≤ 300 := HNB.out.1
    go_loopw [10, 33] (fun v10 v33 w' => ∃ (j : Nat), j ≤ nl.length ∧ v33 = .int .i64 (j : Int) ∧ v10 = .int .i64 (sumTo a0 a2 nl j) ∧ Aside0 (Kd.C KI w' As nl.length nl) ∧ Aside0 (Below w.heap.size w w')) (fun _ v33 _ => nl.length - (intOf v33).toNat)
    case atStart => exact ⟨0, Nat.zero_le _, rfl, rfl, HO2, HB2⟩
    case round =>
      clear HO2 HB2
      obtain ⟨j, hj, rfl, rfl, HC, HB⟩ := hrel
      by_cases hlt : j < nl.length
      · have hltb : decide ((j : Int) < (nl.length : Int)) = true := decide_eq_true (by omega)
        have hj0 : (0 : Int) ≤ (j : Int) := by omega
        obtain ⟨ad, ead, hc⟩ := Kd.at_int HC.out (j : Int) (by omega) (by omega)
        cases ead
        rw [Int.toNat_natCast] at hc
        have hx := HNB.out.2.rd (by omega) j
        have hrd : rd nl (j : Int) = nl.getD j 0 := by unfold rd; rw [Int.toNat_natCast]
        rw [hrd] at hc
        have hsb := sumTo_bd a0 a2 nl HNB.out.2 HA.out.1 HA.out.2 j
        have hsb1 := sumTo_bd a0 a2 nl HNB.out.2 HA.out.1 HA.out.2 (j + 1)
        by_cases hle : (j : Int) ≤ a2
        · have hleb : decide ((j : Int) ≤ a2) = true := decide_eq_true hle
          have HSU : Aside0 (sumTo a0 a2 nl (j + 1) = sumTo a0 a2 nl j + nl.getD j 0 * monos a0 (a2 - j)) := ⟨by rw [sumTo, if_pos hle]⟩
          have hmb := monos_bd a0 (a2 - j) (by omega) (by omega)
          have HMO := Aside0.mk (fun W => monos_calls a0 (a2 - j) W HN.out.1 HN.out.2 (by have := HA.out; omega) (by have := HA.out; omega))
          have hp1 : nl.getD j 0 * monos a0 (a2 - j) ≤ 204800000 := by
            rcases Int.le_total 0 (nl.getD j 0) with h | h
            · exact (mono_mul _ _ 4096 50000 h hx.2 hmb.1 hmb.2).2
            · exact Int.le_trans (Int.mul_nonpos_of_nonpos_of_nonneg h hmb.1) (by omega)
          have hp2 : -204800000 ≤ nl.getD j 0 * monos a0 (a2 - j) := by
            rcases Int.le_total 0 (nl.getD j 0) with h | h
            · exact Int.le_trans (by omega) (Int.mul_nonneg h hmb.1)
            · have h4 := (mono_mul (-(nl.getD j 0)) (monos a0 (a2 - j)) 4096 50000 (by omega) (by omega) hmb.1 hmb.2).2
              rw [Int.neg_mul] at h4
              omega
          generalize nl.getD j 0 = x at *
          generalize monos a0 (a2 - j) = y at *
          generalize hxy : x * y = z at *
          have HXY := Aside0.mk hxy
          have hwz : IntKind.i64.wrap (x * y) = z := by rw [hxy]; exact IntWalk.i64_in _ (by omega)
          have hwz2 : wrap64 (x * y) = z := by rw [hxy]; exact w64 (by omega)
          clear hxy hsb1 hrd
          generalize sumTo a0 a2 nl j = s at *
          have hs1 : -61440000000 ≤ s := by omega
          have hs2 : s ≤ 61440000000 := by omega
          clear hsb
          go_wp2_with (go_at_call 66; refine (HMO.out _).mono ?_; rintro e w3 ⟨rfl, hd3⟩; have HB3 := Aside0.mk (below_step HB.out hd3.below); have HC3 := Aside0.mk (Kd.C_below HC.out hd3.below); clear hd3)
          go_roundw
          case rel => exact ⟨j + 1, by omega, by go_num, by rw [HSU.out], HC3, HB3⟩
          case measure => simp [intOf]; omega
        · have hleb : decide ((j : Int) ≤ a2) = false := decide_eq_false hle
          have HSU : Aside0 (sumTo a0 a2 nl (j + 1) = sumTo a0 a2 nl j) := ⟨by rw [sumTo, if_neg hle]⟩
          clear hle hsb1 hrd
          go_wp2
          go_roundw
          case rel => exact ⟨j + 1, by omega, by go_num, by rw [HSU.out], HC, HB⟩
          case measure => simp [intOf]; omega
      · have hltb : decide ((j : Int) < (nl.length : Int)) = false := decide_eq_false (by omega)
        obtain rfl : j = nl.length := by omega
        rw [← HH.out]
        go_wp2
        go_ret2
        exact ⟨rfl, HB.out⟩
  · rw [if_neg h0] at h
    simp only [Option.some.injEq, Prod.mk.injEq] at h
    obtain ⟨rfl, rfl⟩ := h
    generalize hE : readE a0 l1 = E at *
    have HRD := Aside0.mk (read_bad A1 c1 a0 l1 w hr1 E hE)
    have cb : (E != 0) = true := bne_iff_ne.mpr h0
    clear hr1 hE h0
    go_enter Try.func38, Try.ntmps38
    go_wp2_with (go_at_call 45; refine HRD.out.mono ?_; rintro e w1 ⟨p, rfl, hb1⟩; have HB1 := Aside0.mk hb1; clear hb1)
    go_ret2
    exact ⟨rfl, HB1.out⟩
end Go.Proofs.Ytmekcfkfkpbfeaa.H
namespace Go.Proofs.Ytmekcfkfkpbfeaa.H
open Go.RowKit Go.Proofs.YtmekcfkfkpbfeaaW.PrintWords Go.Proofs.YtmekcfkfkpbfeaaW.PrintLast Go.Proofs.YtmekcfkfkpbfeaaW.PrintMore
open Go.Proofs.Ytmekcfkfkpbfeaa.Ga
attribute [local go_sem] max2_int min2_int max_two min_two max_three min_three max_four min_four
set_option linter.unusedVariables false
set_option linter.unusedSimpArgs false
theorem C_lit {W : World} {b : Nat} {xs : List Int} (h : W.heap[b]? = some (.cells (nums .i64 xs).toArray 3 (0, 0))) (hl : xs.length ≤ 1000) : Kd.C KI W (some ⟨b, 0, none⟩) xs.length xs := by
  refine Kd.C_of_reads (d := (0 : Int)) ⟨rfl, by omega, fun _ => ⟨_, rfl, fun i hi => ?_⟩⟩
  rw [add_plain, blk_cell h]
  simp [nums, List.getD_eq_getElem?_getD, List.getElem?_eq_getElem hi]
theorem CL_lit {W : World} {b : Nat} {xss : List (List Int)} (hl : xss.length ≤ 1000) (h : ∀ j xs, xss[j]? = some xs → ∃ bj, W.cell? ⟨b, j, none⟩ = some (.slice (some ⟨bj, 0, none⟩) xs.length xs.length) ∧ W.heap[bj]? = some (.cells (nums .i64 xs).toArray 3 (0, 0)) ∧ xs.length ≤ 1000) : Kd.C KL W (some ⟨b, 0, none⟩) xss.length xss := by
  refine ⟨rfl, by omega, fun _ => ⟨_, rfl, fun j xs hj => ?_⟩⟩
  obtain ⟨bj, h1, h2, h3⟩ := h j xs hj
  refine ⟨[.slice (some ⟨bj, 0, none⟩) xs.length xs.length], rfl, ⟨_, _, rfl, Nat.le_refl _, C_lit h2 h3⟩, fun i u hu => ?_⟩
  cases i with
  | zero =>
    rw [add_plain]
    injection hu with hu
    subst hu
    have e : j * KL.sz + 0 = j := by show j * 1 + 0 = j; omega
    rw [e]
    exact h1
  | succ i => simp at hu
theorem C_rows2 (W : World) (x y : List Int) (hx : x.length ≤ 1000) (hy : y.length ≤ 1000) : Kd.C KL (((W.alloc (.cells (nums .i64 x).toArray 3)).alloc (.cells (nums .i64 y).toArray 3)).alloc (.cells #[.slice (some ⟨W.heap.size, 0, none⟩) x.length x.length, .slice (some ⟨W.heap.size + 1, 0, none⟩) y.length y.length] 27)) (some ⟨W.heap.size + 2, 0, none⟩) [x, y].length [x, y] := by
  have h0 := heap_alloc_new W (.cells (nums .i64 x).toArray 3)
  have h1 := heap_alloc_new (W.alloc (.cells (nums .i64 x).toArray 3)) (.cells (nums .i64 y).toArray 3)
  rw [show (W.alloc (.cells (nums .i64 x).toArray 3)).heap.size = W.heap.size + 1 from by simp] at h1
  have h2 := heap_alloc_new ((W.alloc (.cells (nums .i64 x).toArray 3)).alloc (.cells (nums .i64 y).toArray 3)) (.cells #[.slice (some ⟨W.heap.size, 0, none⟩) x.length x.length, .slice (some ⟨W.heap.size + 1, 0, none⟩) y.length y.length] 27)
  rw [show ((W.alloc (.cells (nums .i64 x).toArray 3)).alloc (.cells (nums .i64 y).toArray 3)).heap.size = W.heap.size + 2 from by simp] at h2
  refine CL_lit (by simp) (fun j xs hj => ?_)
  match j, hj with
  | 0, hj =>
    injection hj with hj
    subst hj
    exact ⟨_, (blk_cell h2 0).trans rfl, blk_alloc (blk_alloc h0 _) _, hx⟩
  | 1, hj =>
    injection hj with hj
    subst hj
    exact ⟨_, (blk_cell h2 1).trans rfl, blk_alloc h1 _, hy⟩
  | j + 2, hj => simp at hj
theorem C_rows3 (W : World) (x y z : List Int) (hx : x.length ≤ 1000) (hy : y.length ≤ 1000) (hz : z.length ≤ 1000) : Kd.C KL ((((W.alloc (.cells (nums .i64 x).toArray 3)).alloc (.cells (nums .i64 y).toArray 3)).alloc (.cells (nums .i64 z).toArray 3)).alloc (.cells #[.slice (some ⟨W.heap.size, 0, none⟩) x.length x.length, .slice (some ⟨W.heap.size + 1, 0, none⟩) y.length y.length, .slice (some ⟨W.heap.size + 2, 0, none⟩) z.length z.length] 27)) (some ⟨W.heap.size + 3, 0, none⟩) [x, y, z].length [x, y, z] := by
  have h0 := heap_alloc_new W (.cells (nums .i64 x).toArray 3)
  have h1 := heap_alloc_new (W.alloc (.cells (nums .i64 x).toArray 3)) (.cells (nums .i64 y).toArray 3)
  rw [show (W.alloc (.cells (nums .i64 x).toArray 3)).heap.size = W.heap.size + 1 from by simp] at h1
  have h2 := heap_alloc_new ((W.alloc (.cells (nums .i64 x).toArray 3)).alloc (.cells (nums .i64 y).toArray 3)) (.cells (nums .i64 z).toArray 3)
  rw [show ((W.alloc (.cells (nums .i64 x).toArray 3)).alloc (.cells (nums .i64 y).toArray 3)).heap.size = W.heap.size + 2 from by simp] at h2
  have h3 := heap_alloc_new (((W.alloc (.cells (nums .i64 x).toArray 3)).alloc (.cells (nums .i64 y).toArray 3)).alloc (.cells (nums .i64 z).toArray 3)) (.cells #[.slice (some ⟨W.heap.size, 0, none⟩) x.length x.length, .slice (some ⟨W.heap.size + 1, 0, none⟩) y.length y.length, .slice (some ⟨W.heap.size + 2, 0, none⟩) z.length z.length] 27)
  rw [show (((W.alloc (.cells (nums .i64 x).toArray 3)).alloc (.cells (nums .i64 y).toArray 3)).alloc (.cells (nums .i64 z).toArray 3)).heap.size = W.heap.size + 3 from by simp] at h3
  refine CL_lit (by simp) (fun j xs hj => ?_)
  match j, hj with
  | 0, hj =>
    injection hj with hj
    subst hj
    exact ⟨_, (blk_cell h3 0).trans rfl, blk_alloc (blk_alloc (blk_alloc h0 _) _) _, hx⟩
  | 1, hj =>
    injection hj with hj
    subst hj
    exact ⟨_, (blk_cell h3 1).trans rfl, blk_alloc (blk_alloc h1 _) _, hy⟩
  | 2, hj =>
    injection hj with hj
    subst hj
    exact ⟨_, (blk_cell h3 2).trans rfl, blk_alloc h2 _, hz⟩
  | j + 3, hj => simp at hj
def lv : List (List Int) := [[2, 0], [1, 1], [0, 3]]
theorem live1 : pack_Parts.f 2 [[2, 0], [1, 1], [0, 3]] = some ([[1, 3], [2, 1]], 0) := by kernel_rfl
theorem live2 : pack_Numerator.f 2 [[2, 0], [1, 1], [0, 3]] = some ([1, 0, -2, 0, 1], 0) := by kernel_rfl
theorem live3 : pack_Dual.f 3 [[1, 1, 0], [0, 1, 1]] [1, 1, 1] = some ([[0, 1, 0], [1, 0, 1]], 0) := by kernel_rfl
theorem live4 : pack_Hilbert.f 2 [[2, 0], [1, 1], [0, 3]] 1 = some (2, 0) := by kernel_rfl
theorem same1 : woggleref01_SameLists.f 100 [[1, 3], [2, 1]] [[1, 3], [2, 1]] = some true := by kernel_rfl
theorem same2 : woggleref01_Same.f 100 [1, 0, -2, 0, 1] [1, 0, -2, 0, 1] = some true := by kernel_rfl
theorem same3 : woggleref01_SameLists.f 100 [[0, 1, 0], [1, 0, 1]] [[0, 1, 0], [1, 0, 1]] = some true := by kernel_rfl
theorem alloc4_new (w : World) (a b c d : Obj) : ((((w.alloc a).alloc b).alloc c).alloc d).heap[w.heap.size + 3]? = some d := by
  have h := heap_alloc_new (((w.alloc a).alloc b).alloc c) d
  rwa [show (((w.alloc a).alloc b).alloc c).heap.size = w.heap.size + 3 from by simp] at h
set_option maxRecDepth 100000 in
set_option maxHeartbeats 16000000 in
theorem lives_calls (w : World) : Calls Try.prog 19 #[] w fun e w' => e = .returned (.bool true) ∧ Below w.heap.size w w' := by
  have HC0 := Aside0.mk (C_rows3 w [2, 0] [1, 1] [0, 3] (by decide) (by decide) (by decide))
  have HR2 := Aside0.mk (fun W x y hx hy => C_rows2 W x y hx hy)
  have HBL : Aside0 (∀ W o, Below w.heap.size w W → Below w.heap.size w (W.alloc o)) := ⟨fun W o h => below_alloc h o⟩
  have HB := Aside0.mk (below_alloc (below_alloc (below_alloc (below_alloc (Below.refl w.heap.size w) (.cells (nums .i64 [2, 0]).toArray 3)) (.cells (nums .i64 [1, 1]).toArray 3)) (.cells (nums .i64 [0, 3]).toArray 3)) (.cells #[.slice (some ⟨w.heap.size, 0, none⟩) 2 2, .slice (some ⟨w.heap.size + 1, 0, none⟩) 2 2, .slice (some ⟨w.heap.size + 2, 0, none⟩) 2 2] 27))
  go_enter Try.func19, Try.ntmps19
  go_wp2_with (first
    | (go_at_call 25; refine (pack_Parts.calls 2 _ 3 [[2, 0], [1, 1], [0, 3]] [[1, 3], [2, 1]] 0 _ HC0.out (by decide) live1).mono ?_; rintro e w1 ⟨v1, rfl, ho, hb⟩; have HB1 := Aside0.mk (below_step HB.out hb); have HC1 := Aside0.mk (Kd.C_below HC0.out hb); obtain ⟨A1, c1, e1, hc1, hC1⟩ := Kd.R_reads ho; subst e1; have HP1 := Aside0.mk hC1; have HPc := Aside0.mk hc1; clear ho hb hc1 hC1)
    | (go_at_call 52; refine (pack_Numerator.calls 2 _ 3 [[2, 0], [1, 1], [0, 3]] [1, 0, -2, 0, 1] 0 _ HC1.out (by decide) live2).mono ?_; rintro e w2 ⟨v2, rfl, ho, hb⟩; have HB2 := Aside0.mk (below_step HB1.out hb); have HC2 := Aside0.mk (Kd.C_below HC1.out hb); have HP2 := Aside0.mk (Kd.C_below HP1.out hb); obtain ⟨A2, c2, e2, hc2, hC2⟩ := Kd.R_reads ho; subst e2; have HN2 := Aside0.mk hC2; have HNc := Aside0.mk hc2; clear ho hb hc2 hC2)
    | (go_at_call 43; refine (pack_Dual.calls 3 _ 2 [[1, 1, 0], [0, 1, 1]] _ 3 [1, 1, 1] [[0, 1, 0], [1, 0, 1]] 0 _ (Kd.C_alloc (HR2.out w2 [1, 1, 0] [0, 1, 1] (by decide) (by decide)) _) (by decide) (C_lit (xs := [1, 1, 1]) (alloc4_new _ _ _ _ _) (by decide)) (by decide) live3).mono ?_; rintro e w3 ⟨v3, rfl, ho, hb⟩; have HB3 := Aside0.mk (below_step (HBL.out _ _ (HBL.out _ _ (HBL.out _ _ (HBL.out _ _ HB2.out)))) hb); have HC3 := Aside0.mk (Kd.C_below (Kd.C_alloc (Kd.C_alloc (Kd.C_alloc (Kd.C_alloc HC2.out _) _) _) _) hb); have HP3 := Aside0.mk (Kd.C_below (Kd.C_alloc (Kd.C_alloc (Kd.C_alloc (Kd.C_alloc HP2.out _) _) _) _) hb); have HN3 := Aside0.mk (Kd.C_below (Kd.C_alloc (Kd.C_alloc (Kd.C_alloc (Kd.C_alloc HN2.out _) _) _) _) hb); obtain ⟨A3, c3, e3, hc3, hC3⟩ := Kd.R_reads ho; subst e3; have HD3 := Aside0.mk hC3; have HDc := Aside0.mk hc3; clear ho hb hc3 hC3)
    | (go_at_call 38; refine (pack_Hilbert.calls 2 _ 3 [[2, 0], [1, 1], [0, 3]] 1 2 0 _ HC3.out (by decide) live4).mono ?_; rintro e w4 ⟨rfl, hb⟩; have HB4 := Aside0.mk (below_step HB3.out hb); have HP4 := Aside0.mk (Kd.C_below HP3.out hb); have HN4 := Aside0.mk (Kd.C_below HN3.out hb); have HD4 := Aside0.mk (Kd.C_below HD3.out hb); clear hb; have T1 := Aside0.mk trivial)
    | (go_at_call 50; refine (woggleref01_Same.calls 100 A2 c2 [1, 0, -2, 0, 1] _ 5 [1, 0, -2, 0, 1] true _ (Kd.C_alloc HN5.out _) HNc.out (C_lit (xs := [1, 0, -2, 0, 1]) (heap_alloc_new _ _) (by decide)) (by decide) same2).mono ?_; rintro e w6 ⟨rfl, hd⟩; have hb := hd.below; have HB6 := Aside0.mk (below_step (HBL.out _ _ HB5.out) hb); have HD6 := Aside0.mk (Kd.C_below (Kd.C_alloc HD5.out _) hb); clear hb hd)
    | (clear T1; go_at_call 17; refine (woggleref01_SameLists.calls 100 A1 c1 [[1, 3], [2, 1]] _ 2 [[1, 3], [2, 1]] true _ (Kd.C_alloc (Kd.C_alloc (Kd.C_alloc HP4.out _) _) _) HPc.out (HR2.out w4 [1, 3] [2, 1] (by decide) (by decide)) (by decide) same1).mono ?_; rintro e w5 ⟨rfl, hd⟩; have hb := hd.below; have HB5 := Aside0.mk (below_step (HBL.out _ _ (HBL.out _ _ (HBL.out _ _ HB4.out))) hb); have HN5 := Aside0.mk (Kd.C_below (Kd.C_alloc (Kd.C_alloc (Kd.C_alloc HN4.out _) _) _) hb); have HD5 := Aside0.mk (Kd.C_below (Kd.C_alloc (Kd.C_alloc (Kd.C_alloc HD4.out _) _) _) hb); clear hb hd)
    | (go_at_call 17; refine (woggleref01_SameLists.calls 100 A3 c3 [[0, 1, 0], [1, 0, 1]] _ 2 [[0, 1, 0], [1, 0, 1]] true _ (Kd.C_alloc (Kd.C_alloc (Kd.C_alloc HD6.out _) _) _) HDc.out (HR2.out w6 [0, 1, 0] [1, 0, 1] (by decide) (by decide)) (by decide) same3).mono ?_; rintro e w7 ⟨rfl, hd⟩; have hb := hd.below; have HB7 := Aside0.mk (below_step (HBL.out _ _ (HBL.out _ _ (HBL.out _ _ HB6.out))) hb); clear hb hd))
  go_ret
  exact ⟨rfl, HB7.out⟩
end Go.Proofs.Ytmekcfkfkpbfeaa.H
