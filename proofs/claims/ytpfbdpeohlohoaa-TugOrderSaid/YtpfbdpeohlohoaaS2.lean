/- What the printed functions of layer 5 come to: differences, ways, the least differences. No condition. -/
import Derived.Test.YtpfbdpeohlohoaaS1
namespace Go.Proofs.Ytpfbdpeohlohoaa.S
open Go.Proofs.Ytpfbdpeohlohoaa.Ga Go.Proofs.Ytpfbdpeohlohoaa.H Go.Proofs.Ytpfbdpeohlohoaa.M
open Go.RowKit Go.Proofs.YtpfbdpeohlohoaaW.PrintWords Go.Proofs.YtpfbdpeohlohoaaW.PrintLast Go.Proofs.YtpfbdpeohlohoaaW.PrintMore
set_option linter.unusedVariables false
set_option linter.unusedSimpArgs false
theorem rsides_ev (m n : Nat) (hm : m < 1000000000) (hn : n < 60) : Ev (fun k => woggleref05_sides.f k (n : Int) (m : Int)) (bnr n m) := by
  refine Ev.congr (fun k => ?_) (rsides_loop m hm n [] hn (by simp; omega))
  simp only [woggleref05_sides.f]
  rw [w64 (by omega) (by omega)]
theorem mx_ab (x : Int) (h1 : -1000000000000 ≤ x) (h2 : x ≤ 1000000000000) : mx x (wrap64 (-x)) = ab x := by
  rw [w64 (by omega) (by omega)]
  unfold mx ab
  split <;> split <;> omega
/-- Pulls of a size at which no sum wraps. -/
structure Sm (l : List Int) : Prop where
  len : l.length < 1000
  le : ∀ p ∈ l, 0 ≤ p ∧ p ≤ 1000000
theorem Sm.at {l : List Int} (h : Sm l) (i : Nat) (hi : i < l.length) : 0 ≤ l[i] ∧ l[i] ≤ 1000000 := h.le _ (List.getElem_mem hi)
theorem term_is {p x : Int} (hp : 0 ≤ p ∧ p ≤ 1000000) (hx : x = 0 ∨ x = 1) : wrap64 (p * wrap64 (1 - wrap64 (2 * x))) = p * (1 - 2 * x) ∧ -1000000 ≤ p * (1 - 2 * x) ∧ p * (1 - 2 * x) ≤ 1000000 := by
  rcases hx with rfl | rfl
  · rw [w64 (x := 2 * 0) (by omega) (by omega), w64 (x := 1 - 2 * 0) (by omega) (by omega)]
    exact ⟨w64 (by omega) (by omega), by omega, by omega⟩
  · rw [w64 (x := 2 * 1) (by omega) (by omega), w64 (x := 1 - 2 * 1) (by omega) (by omega)]
    exact ⟨w64 (by omega) (by omega), by omega, by omega⟩
theorem sg_nil (s : List Int) : sg [] s = 0 := by cases s <;> rfl
theorem diff_loop (l s : List Int) (hl : Sm l) (hs : Bin s) (hle : l.length ≤ s.length) : ∀ (d i : Nat) (a : Int), i + d = l.length → -1000000 * (i : Int) ≤ a → a ≤ 1000000 * (i : Int) → Ev (fun k => tug_difference.l0 k s a l (l.length : Int) (i : Int)) (ab (a + sg (l.drop i) (s.drop i)))
  | 0, i, a, h, h1, h2 => by
    have := hl.len
    rw [drop_end l i (by omega), sg_nil, Int.add_zero]
    exact Ev.step (f := fun _ => some (ab a)) (fun k => by simp only [tug_difference.l0]; rw [if_neg (by omega), mx_ab a (by omega) (by omega)]) (Ev.now _)
  | d + 1, i, a, h, h1, h2 => by
    have := hl.len
    obtain ⟨t1, t2, t3⟩ := term_is (hl.at i (by omega)) (hs s[i] (List.getElem_mem (by omega)))
    rw [drop_at l i (by omega), drop_at s i (by omega)]
    simp only [sg]
    rw [← Int.add_assoc]
    refine Ev.step (fun k => ?_) (diff_loop l s hl hs hle d (i + 1) _ (by omega) (by omega) (by omega))
    simp only [tug_difference.l0]
    rw [if_pos (by omega), if_pos (by omega), if_pos (by omega), if_pos (by omega), rd_at l i (by omega), rd_at s i (by omega), t1, w64 (x := a + _) (by omega) (by omega), w64 (x := (i : Int) + 1) (by omega) (by omega)]
    rfl
theorem diff_ev (l s : List Int) (hl : Sm l) (hs : Bin s) (hle : l.length ≤ s.length) : Ev (fun k => tug_difference.f k l s) (dif l s) := by
  have h := diff_loop l s hl hs hle l.length 0 0 (by omega) (by omega) (by omega)
  rw [Int.zero_add] at h
  exact h
theorem rdiff_loop (l s : List Int) (hl : Sm l) (hs : Bin s) (hle : l.length ≤ s.length) : ∀ (d i : Nat) (a : Int), i + d = l.length → -1000000 * (i : Int) ≤ a → a ≤ 1000000 * (i : Int) → Ev (fun k => woggleref05_Difference.l0 k l s a (i : Int)) (ab (a + sg (l.drop i) (s.drop i)))
  | 0, i, a, h, h1, h2 => by
    have := hl.len
    rw [drop_end l i (by omega), sg_nil, Int.add_zero]
    exact Ev.step (f := fun _ => some (ab a)) (fun k => by simp only [woggleref05_Difference.l0]; rw [if_neg (by omega), mx_ab a (by omega) (by omega)]) (Ev.now _)
  | d + 1, i, a, h, h1, h2 => by
    have := hl.len
    obtain ⟨t1, t2, t3⟩ := term_is (hl.at i (by omega)) (hs s[i] (List.getElem_mem (by omega)))
    rw [drop_at l i (by omega), drop_at s i (by omega)]
    simp only [sg]
    rw [← Int.add_assoc]
    refine Ev.step (fun k => ?_) (rdiff_loop l s hl hs hle d (i + 1) _ (by omega) (by omega) (by omega))
    simp only [woggleref05_Difference.l0]
    rw [if_pos (by omega), if_pos (by omega), if_pos (by omega), rd_at l i (by omega), rd_at s i (by omega), t1, w64 (x := a + _) (by omega) (by omega), w64 (x := (i : Int) + 1) (by omega) (by omega)]
    rfl
theorem rdiff_ev (l s : List Int) (hl : Sm l) (hs : Bin s) (hle : l.length ≤ s.length) : Ev (fun k => woggleref05_Difference.f k l s) (dif l s) := by
  have h := rdiff_loop l s hl hs hle l.length 0 0 (by omega) (by omega) (by omega)
  rw [Int.zero_add] at h
  exact h
theorem Ok.sm {l : List Int} (h : Ok l) (hl : l.length < 1000) : Sm l := ⟨hl, fun p hp => ⟨by have := h.2 p hp; omega, (h.2 p hp).2⟩⟩
theorem shl_is (n : Nat) (hn : n < 60) : shl .i64 1 (n : Int) = ((2 ^ n : Nat) : Int) := by
  unfold shl
  have e : IntKind.i64.bits = 64 := rfl
  have h : 2 ^ n ≤ 2 ^ 59 := Nat.pow_le_pow_right (by decide) (by omega)
  have h2 : (2 : Nat) ^ 59 = 576460752303423488 := by decide
  have h3 : (1 : Int) * 2 ^ n = ((2 ^ n : Nat) : Int) := by rw [Int.one_mul, Int.natCast_pow]; rfl
  rw [Int.toNat_natCast, e, Nat.min_eq_left (by omega), h3, IntKind.wrap_i64]
  generalize 2 ^ n = q at *
  omega
theorem pow_small (n : Nat) (hn : n < 20) : 2 ^ n ≤ 524288 := by
  have h : 2 ^ n ≤ 2 ^ 19 := Nat.pow_le_pow_right (by decide) (by omega)
  have h2 : (2 : Nat) ^ 19 = 524288 := by decide
  omega
/-! ### How many sides have a difference -/
def wcount (l : List Int) (d : Int) : Nat → Int
  | 0 => 0
  | m + 1 => wcount l d m + (if dif l (bnr l.length m) = d then 1 else 0)
theorem wcount_le (l : List Int) (d : Int) : ∀ m, 0 ≤ wcount l d m ∧ wcount l d m ≤ m
  | 0 => by simp [wcount]
  | m + 1 => by
    have := wcount_le l d m
    simp only [wcount]
    split <;> omega
theorem ways_loop (l : List Int) (dd : Int) (N : Nat) (hl : Sm l) (hn : l.length < 60) (hN : N < 1000000) : ∀ (d i : Nat), i + d = N → Ev (fun k => tug_Ways.l0 k l dd (wcount l dd i) (N : Int) (i : Int)) (wcount l dd N, 0)
  | 0, i, h => by
    have e : i = N := by omega
    subst e
    exact Ev.step (f := fun _ => some (wcount l dd i, 0)) (fun k => by simp only [tug_Ways.l0]; rw [if_neg (by omega)]) (Ev.now _)
  | d + 1, i, h => by
    have ih := ways_loop l dd N hl hn hN d (i + 1) (by omega)
    have hb := bnr_bin l.length i
    have hb2 := bnr_length l.length i
    have hc := wcount_le l dd i
    refine Ev.step (f := fun k => (tug_sides.f k (i : Int) (l.length : Int)).bind fun t119 => ((tug_difference.f k l t119).bind fun t122 => (if t122 = dd then (tug_Ways.l0 k l dd (wrap64 (wcount l dd i + 1)) (N : Int) (wrap64 ((i : Int) + 1))) else (tug_Ways.l0 k l dd (wcount l dd i) (N : Int) (wrap64 ((i : Int) + 1)))))) (fun k => by simp only [tug_Ways.l0]; rw [if_pos (by omega)]) ?_
    refine Ev.bind (sides_ev i l.length (by omega) hn) (Ev.bind (diff_ev l _ hl hb (by omega)) ?_)
    simp only [wcount] at ih
    by_cases c : dif l (bnr l.length i) = dd
    · rw [if_pos c] at ih
      refine Ev.congr (fun k => ?_) ih
      rw [if_pos c, w64 (by omega) (by omega), w64 (by omega) (by omega)]
      rfl
    · rw [if_neg c, Int.add_zero] at ih
      refine Ev.congr (fun k => ?_) ih
      rw [if_neg c, w64 (by omega) (by omega)]
      rfl
theorem rways_loop (l : List Int) (dd : Int) (hl : Sm l) (hl0 : 0 < l.length) (hn : l.length < 20) : ∀ (d i : Nat), i + d = 2 ^ (l.length - 1) → Ev (fun k => woggleref05_Ways.l0 k l dd (wcount l dd i) (i : Int)) (wcount l dd (2 ^ (l.length - 1)))
  | 0, i, h => by
    have e : i = 2 ^ (l.length - 1) := by omega
    rw [e]
    refine Ev.step (f := fun _ => some (wcount l dd (2 ^ (l.length - 1)))) (fun k => ?_) (Ev.now _)
    simp only [woggleref05_Ways.l0]
    rw [w64 (by omega) (by omega), show (l.length : Int) - 1 = ((l.length - 1 : Nat) : Int) by omega, if_pos (by omega), shl_is _ (by omega), if_neg (by omega)]
  | d + 1, i, h => by
    have ih := rways_loop l dd hl hl0 hn d (i + 1) (by omega)
    have hb := bnr_bin l.length i
    have hb2 := bnr_length l.length i
    have hc := wcount_le l dd i
    have hp := pow_small (l.length - 1) (by omega)
    refine Ev.step (f := fun k => (woggleref05_sides.f k (l.length : Int) (i : Int)).bind fun t164 => ((woggleref05_Difference.f k l t164).bind fun t167 => (if t167 = dd then (woggleref05_Ways.l0 k l dd (wrap64 (wcount l dd i + 1)) (wrap64 ((i : Int) + 1))) else (woggleref05_Ways.l0 k l dd (wcount l dd i) (wrap64 ((i : Int) + 1)))))) (fun k => by
      simp only [woggleref05_Ways.l0]
      rw [w64 (x := (l.length : Int) - 1) (by omega) (by omega), show (l.length : Int) - 1 = ((l.length - 1 : Nat) : Int) by omega, if_pos (by omega), shl_is _ (by omega), if_pos (by omega)]) ?_
    refine Ev.bind (rsides_ev i l.length (by omega) (by omega)) (Ev.bind (rdiff_ev l _ hl hb (by omega)) ?_)
    simp only [wcount] at ih
    by_cases c : dif l (bnr l.length i) = dd
    · rw [if_pos c] at ih
      refine Ev.congr (fun k => ?_) ih
      rw [if_pos c, w64 (by omega) (by omega), w64 (by omega) (by omega)]
      rfl
    · rw [if_neg c, Int.add_zero] at ih
      refine Ev.congr (fun k => ?_) ih
      rw [if_neg c, w64 (by omega) (by omega)]
      rfl
def ways (l : List Int) (d : Int) : Int := wcount l d (2 ^ (l.length - 1))
theorem rways_ev (l : List Int) (d : Int) (h : Ok l) (hl : l.length ≤ 14) : Ev (fun k => woggleref05_Ways.f k l d) (ways l d) :=
  rways_loop l d (h.sm (by omega)) h.1 (by omega) (2 ^ (l.length - 1)) 0 (by omega)
theorem ways_ev (l : List Int) (d : Int) (hl : l.length < 1000000) : Ev (fun k => tug_Ways.f k l d) (if bad l 14 = 0 then (if d < 0 then (0, 1) else (ways l d, 0)) else (0, bad l 14)) := by
  refine Ev.bind (check_ev l 14 hl) ?_
  by_cases c : bad l 14 = 0
  · rw [if_pos c]
    have h := bad_ok.1 c
    by_cases c2 : d < 0
    · rw [if_pos c2]
      exact Ev.congr (fun k => by rw [if_pos c, if_pos c2]) (Ev.now _)
    · rw [if_neg c2]
      have h1 := h.2.1
      have hp := pow_small (l.length - 1) (by omega)
      refine Ev.congr (fun k => ?_) (ways_loop l d (2 ^ (l.length - 1)) (h.2.sm (by omega)) (by omega) (by omega) (2 ^ (l.length - 1)) 0 (by omega))
      rw [if_pos c, if_neg c2, w64 (by omega) (by omega), show (l.length : Int) - 1 = ((l.length - 1 : Nat) : Int) by omega, if_pos (by omega), shl_is _ (by omega)]
      rfl
  · rw [if_neg c]
    exact Ev.congr (fun k => by rw [if_neg c]) (Ev.now _)
/-! ### The least difference -/
def st : Option (Int × List Int) → Int × List Int
  | none => (-1, [])
  | some r => r
theorem dif_nonneg (l s : List Int) : 0 ≤ dif l s := by unfold dif ab; split <;> omega
theorem find_loop (m : Nat → List Int → Option Bool) (p : List Int → Bool) (l : List Int) (N : Nat) (hl : Sm l) (hn : l.length < 60) (hN : N < 1000000) (hm : ∀ s, Bin s → s.length = l.length → Ev (fun k => m k s) (p s)) :
    ∀ (d i : Nat), i + d = N → Ev (fun k => find.l0 m l (N : Int) k (st (scan p l i)).1 (st (scan p l i)).2 (i : Int)) ((st (scan p l N)).1, (st (scan p l N)).2, 0)
  | 0, i, h => by
    have e : i = N := by omega
    subst e
    exact Ev.step (f := fun _ => some _) (fun k => by simp only [find.l0]; rw [if_neg (by omega)]) (Ev.now _)
  | d + 1, i, h => by
    have ih := find_loop m p l N hl hn hN hm d (i + 1) (by omega)
    have hb := bnr_bin l.length i
    have hb2 := bnr_length l.length i
    have hw : wrap64 ((i : Int) + 1) = ((i + 1 : Nat) : Int) := by rw [w64 (by omega) (by omega)]; rfl
    generalize hq : scan p l i = q at *
    refine Ev.step (f := fun k => (tug_sides.f k (i : Int) (l.length : Int)).bind fun t9 => ((tug_difference.f k l t9).bind fun t10 => ((m k t9).bind fun b => (if b = true then (if (st q).1 < 0 then (find.l0 m l (N : Int) k t10 t9 (wrap64 ((i : Int) + 1))) else (if t10 < (st q).1 then (find.l0 m l (N : Int) k t10 t9 (wrap64 ((i : Int) + 1))) else (find.l0 m l (N : Int) k (st q).1 (st q).2 (wrap64 ((i : Int) + 1))))) else (find.l0 m l (N : Int) k (st q).1 (st q).2 (wrap64 ((i : Int) + 1))))))) (fun k => by simp only [find.l0]; rw [if_pos (by omega)]) ?_
    refine Ev.bind (sides_ev i l.length (by omega) hn) (Ev.bind (diff_ev l _ hl hb (by omega)) (Ev.bind (hm _ hb hb2) ?_))
    rw [hw]
    have hs := scan_spec p l i
    rw [hq] at hs
    simp only [scan, hq] at ih
    by_cases c : p (bnr l.length i) = true
    · cases q with
      | none =>
        simp only [c, if_true] at ih
        refine Ev.congr (fun k => ?_) ih
        rw [if_pos c, if_pos (show (st none).1 < 0 by decide)]
        rfl
      | some r =>
        obtain ⟨x, y⟩ := r
        dsimp only at hs ih
        have h0 : 0 ≤ x := by rw [hs.2.2.1]; exact dif_nonneg _ _
        by_cases c2 : dif l (bnr l.length i) < x
        · rw [if_pos ⟨c, c2⟩] at ih
          refine Ev.congr (fun k => ?_) ih
          rw [if_pos c, if_neg (show ¬ (st (some (x, y))).1 < 0 by show ¬ x < 0; omega), if_pos (show _ < (st (some (x, y))).1 from c2)]
          rfl
        · rw [if_neg (fun h => c2 h.2)] at ih
          refine Ev.congr (fun k => ?_) ih
          rw [if_pos c, if_neg (show ¬ (st (some (x, y))).1 < 0 by show ¬ x < 0; omega), if_neg (show ¬ _ < (st (some (x, y))).1 from c2)]
    · cases q with
      | none =>
        dsimp only at ih
        rw [if_neg c] at ih
        exact Ev.congr (fun k => by rw [if_neg c]) ih
      | some r =>
        obtain ⟨x, y⟩ := r
        dsimp only at ih
        rw [if_neg (fun h => c h.1)] at ih
        exact Ev.congr (fun k => by rw [if_neg c]) ih
def fnd (p : List Int → Bool) (l : List Int) : Int × List Int := st (scan p l (2 ^ (l.length - 1)))
theorem find_ev (m : Nat → List Int → Option Bool) (p : List Int → Bool) (l : List Int) (hl : l.length < 1000000) (hm : ∀ s, Bin s → s.length = l.length → l.length ≤ 14 → Ev (fun k => m k s) (p s)) : Ev (fun k => find.f m k l) (if bad l 14 = 0 then ((fnd p l).1, (fnd p l).2, 0) else (0, [], bad l 14)) := by
  refine Ev.bind (check_ev l 14 hl) ?_
  by_cases c : bad l 14 = 0
  · rw [if_pos c]
    have h := bad_ok.1 c
    have h1 := h.2.1
    have hp := pow_small (l.length - 1) (by omega)
    refine Ev.congr (fun k => ?_) (find_loop m p l (2 ^ (l.length - 1)) (h.2.sm (by omega)) (by omega) (by omega) (fun s h1 h2 => hm s h1 h2 (by omega)) (2 ^ (l.length - 1)) 0 (by omega))
    rw [if_pos c, w64 (by omega) (by omega), show (l.length : Int) - 1 = ((l.length - 1 : Nat) : Int) by omega, if_pos (by omega), shl_is _ (by omega)]
    rfl
  · rw [if_neg c]
    exact Ev.congr (fun k => by rw [if_neg c]) (Ev.now _)
def pAll (_ : List Int) : Bool := true
def sqle (a : Int) : Bool := decide (a * a ≤ 1)
def pEven (s : List Int) : Bool := sqle (cnt s)
theorem cnt_le : ∀ (s : List Int), Bin s → -(s.length : Int) ≤ cnt s ∧ cnt s ≤ s.length
  | [], _ => by simp [cnt]
  | x :: s, h => by
    have h1 := cnt_le s (fun y hy => h y (List.mem_cons_of_mem _ hy))
    have h2 := h x List.mem_cons_self
    simp only [cnt, List.length_cons]
    omega
theorem even_loop (s : List Int) (hs : Bin s) (hl : s.length < 1000) : ∀ (d i : Nat) (a : Int), i + d = s.length → -(i : Int) ≤ a → a ≤ i → Ev (fun k => tug_Even_1.l0 k a s (s.length : Int) (i : Int)) (sqle (a + cnt (s.drop i)))
  | 0, i, a, h, h1, h2 => by
    rw [drop_end s i (by omega)]
    have b1 : a * a ≤ 1000 * 1000 := by
      have : a.natAbs * a.natAbs ≤ 1000 * 1000 := Nat.mul_le_mul (by omega) (by omega)
      have e : ((a.natAbs * a.natAbs : Nat) : Int) = a * a := Int.natAbs_mul_self
      omega
    have b2 : 0 ≤ a * a := by
      have e : ((a.natAbs * a.natAbs : Nat) : Int) = a * a := Int.natAbs_mul_self
      omega
    refine Ev.step (f := fun _ => some _) (fun k => ?_) (Ev.now _)
    simp only [tug_Even_1.l0, cnt, Int.add_zero, sqle]
    rw [if_neg (by omega), w64 (by omega) (by omega)]
  | d + 1, i, a, h, h1, h2 => by
    have hx := hs s[i] (List.getElem_mem (by omega))
    rw [drop_at s i (by omega)]
    simp only [cnt]
    rw [← Int.add_assoc]
    refine Ev.step (fun k => ?_) (even_loop s hs hl d (i + 1) _ (by omega) (by omega) (by omega))
    simp only [tug_Even_1.l0]
    rw [if_pos (by omega), if_pos (by omega), if_pos (by omega), rd_at s i (by omega), w64 (x := 2 * s[i]) (by omega) (by omega), w64 (x := 1 - 2 * s[i]) (by omega) (by omega), w64 (x := a + _) (by omega) (by omega), w64 (x := (i : Int) + 1) (by omega) (by omega)]
    rfl
theorem even_ev (s : List Int) (hs : Bin s) (hl : s.length < 1000) : Ev (fun k => tug_Even_1.f k s) (pEven s) := by
  have h := even_loop s hs hl s.length 0 0 (by omega) (by omega) (by omega)
  rw [Int.zero_add] at h
  exact h
theorem split_ev (l : List Int) (hl : l.length < 1000000) : Ev (fun k => tug_Split.f k l) (if bad l 14 = 0 then ((fnd pAll l).1, (fnd pAll l).2, 0) else (0, [], bad l 14)) :=
  find_ev _ pAll l hl (fun s _ _ _ => Ev.now _)
theorem evens_ev (l : List Int) (hl : l.length < 1000000) : Ev (fun k => tug_Even.f k l) (if bad l 14 = 0 then ((fnd pEven l).1, (fnd pEven l).2, 0) else (0, [], bad l 14)) :=
  find_ev _ pEven l hl (fun s h1 h2 h3 => even_ev s h1 (by omega))
/-! ### .. by the reference -/
def sum1 : List Int → Int
  | [] => 0
  | x :: s => x + sum1 s
theorem cnt_sum1 : ∀ s : List Int, cnt s = s.length - 2 * sum1 s
  | [] => rfl
  | x :: s => by simp only [cnt, sum1, List.length_cons, cnt_sum1 s]; omega
def stb : Option (Int × List Int) → List Int × Int
  | none => ([], 0)
  | some r => (r.2, r.1)
def stp (p : List Int → Bool) (l : List Int) (j : Nat) : Option (Int × List Int) → Option (Int × List Int)
  | none => if p (bnr l.length j) = true then some (dif l (bnr l.length j), bnr l.length j) else none
  | some (d, s) => if p (bnr l.length j) = true ∧ dif l (bnr l.length j) < d then some (dif l (bnr l.length j), bnr l.length j) else some (d, s)
theorem scan_stp (p : List Int → Bool) (l : List Int) (j : Nat) : scan p l (j + 1) = stp p l j (scan p l j) := by
  rw [scan]
  cases scan p l j <;> rfl
/-- What is known of the least differences. -/
theorem fnd_all (l : List Int) (h : 0 < l.length) : Least false l (fnd pAll l).1 ∧ (fnd pAll l).1 = dif l (fnd pAll l).2 ∧ Bin (fnd pAll l).2 ∧ (fnd pAll l).2.length = l.length ∧ (fnd pAll l).2.head? = some 0 ∧ stb (scan pAll l (2 ^ (l.length - 1))) = ((fnd pAll l).2, (fnd pAll l).1) := by
  obtain ⟨d, s, h1, h2, h3, h4, h5, h6, _⟩ := scan_least false pAll l h (fun s _ => ⟨fun _ h => by simp at h, fun _ => rfl⟩)
  unfold fnd
  rw [h1]
  exact ⟨h2, h3, h4, h5, h6, rfl⟩
theorem okc_iff (s : List Int) : pEven s = true ↔ okc true (cnt s) := by
  unfold pEven sqle okc
  rw [decide_eq_true_iff]
  generalize cnt s = c
  constructor
  · intro h _
    have e : ((c.natAbs * c.natAbs : Nat) : Int) = c * c := Int.natAbs_mul_self
    have : c.natAbs < 2 := by
      apply Classical.byContradiction
      intro h2
      have : 2 * 2 ≤ c.natAbs * c.natAbs := Nat.mul_le_mul (by omega) (by omega)
      omega
    omega
  · intro h
    rcases h rfl with rfl | rfl | rfl <;> decide
theorem fnd_even (l : List Int) (h : 0 < l.length) : Least true l (fnd pEven l).1 ∧ (fnd pEven l).1 = dif l (fnd pEven l).2 ∧ Bin (fnd pEven l).2 ∧ (fnd pEven l).2.length = l.length ∧ (fnd pEven l).2.head? = some 0 ∧ okc true (cnt (fnd pEven l).2) ∧ stb (scan pEven l (2 ^ (l.length - 1))) = ((fnd pEven l).2, (fnd pEven l).1) := by
  obtain ⟨d, s, h1, h2, h3, h4, h5, h6, h7⟩ := scan_least true pEven l h (fun s _ => okc_iff s)
  unfold fnd
  rw [h1]
  exact ⟨h2, h3, h4, h5, h6, h7, rfl⟩
end Go.Proofs.Ytpfbdpeohlohoaa.S
