/- What the printed functions of layer 5 come to: cuts, made pulls, sums, equal lists, loads. No condition. -/
import Derived.Test.YtpfbdpeohlohoaaS2
namespace Go.Proofs.Ytpfbdpeohlohoaa.S
open Go.Proofs.Ytpfbdpeohlohoaa.Ga Go.Proofs.Ytpfbdpeohlohoaa.H Go.Proofs.Ytpfbdpeohlohoaa.M
open Go.RowKit Go.Proofs.YtpfbdpeohlohoaaW.PrintWords Go.Proofs.YtpfbdpeohlohoaaW.PrintLast Go.Proofs.YtpfbdpeohlohoaaW.PrintMore
set_option linter.unusedVariables false
set_option linter.unusedSimpArgs false
theorem Ev.to {α : Type} {g : Nat → Option α} {r q : α} (h : Ev g r) (e : r = q) : Ev g q := e ▸ h
theorem mn_is (a b : Int) : mn a b = if b < a then b else a := rfl
theorem cut_is (l : List Int) : wogglelaw05_cut.f l 14 = some (l.take 15) := by
  unfold wogglelaw05_cut.f
  by_cases h : (l.length : Int) > 14
  · rw [if_pos h, Option.bind_some]
    have e : mn (l.length : Int) 15 = 15 ∨ (mn (l.length : Int) 15 = l.length ∧ l.length = 15) := by rw [mn_is]; split <;> omega
    have e2 : mn (l.length : Int) 15 = 15 := by omega
    rw [e2, if_pos (by omega), if_pos (by omega), if_pos (by simp; omega)]
    rfl
  · rw [if_neg h, Option.bind_some]
    have e2 : mn (l.length : Int) 14 = l.length := by rw [mn_is]; split <;> omega
    rw [e2, if_pos (by omega), if_pos (by omega), Int.toNat_natCast, List.take_of_length_le (Nat.le_refl _), if_pos (by simp; omega), List.take_of_length_le (by omega)]
    rfl
/-! ### Equal lists -/
theorem before_loop (s : List Int) (hl : s.length < 1000000) : ∀ (d i : Nat), i + d = s.length → Ev (fun k => woggleref01_Before.l0 k s s (i : Int)) false
  | 0, i, h => by
    refine Ev.step (f := fun k => woggleref01_Before.j1 k s s (i : Int) false) (fun k => by simp only [woggleref01_Before.l0]; rw [if_neg (by omega)]) ?_
    refine Ev.step (f := fun _ => some false) (fun k => ?_) (Ev.now _)
    simp only [woggleref01_Before.j1]
    rw [if_neg (by simp), decide_eq_false (by omega)]
  | d + 1, i, h => by
    refine Ev.step (f := fun k => woggleref01_Before.j1 k s s (i : Int) true) (fun k => by simp only [woggleref01_Before.l0]; rw [if_pos (by omega), decide_eq_true (by omega)]) ?_
    refine Ev.step (fun k => ?_) (before_loop s hl d (i + 1) (by omega))
    simp only [woggleref01_Before.j1]
    rw [if_pos trivial, if_pos (by omega), if_pos (by omega), if_pos (by omega), if_pos trivial, w64 (by omega) (by omega)]
    rfl
theorem same_ev (s : List Int) (hl : s.length < 1000000) : Ev (fun k => woggleref01_Same.f k s s) true := by
  have h : Ev (fun k => woggleref01_Before.f k s s) false := before_loop s hl s.length 0 (by omega)
  refine Ev.bind h ?_
  refine Ev.congr (fun k => by rw [if_neg (by simp)]) (Ev.bind h (Ev.now _))
/-! ### Pulls that are made -/
def madeL (l : List Int) (most : Nat) : List Int := if (l.take most).length = 0 then [1] else (l.take most).map (· + 1)
theorem made_loop (l : List Int) (most : Nat) (hm : most < 1000) (hl : l.length < 100000000000000) (hw : ∀ x ∈ l, 0 ≤ x ∧ x ≤ 65535) : ∀ (d i : Nat), i + d = (l.take most).length → Ev (fun k => wogglelaw05_made.l0 k l (most : Int) (((l.take most).take i).map (· + 1)) (i : Int)) (madeL l most)
  | 0, i, h => by
    have e1 : (l.take most).take i = l.take most := List.take_of_length_le (by omega)
    rw [List.length_take] at h
    rw [e1]
    unfold madeL
    have tail : ∀ k, (if ((((l.take most).map (· + 1)).length : Nat) : Int) = 0 then (if ((l.take most).map (· + 1)).length < 17592186044416 then (some ((l.take most).map (· + 1) ++ [1])) else none) else (some ((l.take most).map (· + 1)))) = some (if (l.take most).length = 0 then [1] else (l.take most).map (· + 1)) := fun k : Nat => by
      by_cases c : (l.take most).length = 0
      · rw [if_pos c, if_pos (by simpa using c)]
        have : l.take most = [] := List.length_eq_zero_iff.1 c
        rw [this]
        rfl
      · rw [if_neg c, if_neg (by simpa using c)]
    refine Ev.step (f := fun _ => some _) (fun k => ?_) (Ev.now _)
    simp only [wogglelaw05_made.l0]
    by_cases c : (i : Int) < (l.length : Int)
    · rw [if_pos c, if_neg (by omega)]
      exact tail k
    · rw [if_neg c]
      exact tail k
  | d + 1, i, h => by
    have hi : i < (l.take most).length := by omega
    have hi2 : i < l.length ∧ i < most := by rw [List.length_take] at hi; omega
    have hx := hw l[i] (List.getElem_mem hi2.1)
    have e1 : (l.take most)[i] = l[i] := List.getElem_take
    refine Ev.step (fun k => ?_) (made_loop l most hm hl hw d (i + 1) (by omega))
    simp only [wogglelaw05_made.l0]
    rw [if_pos (by omega), if_pos (by omega), if_pos (by omega), if_pos (by simp; omega), rd_at l i hi2.1, w64 (x := l[i]) (by omega) (by omega), w64 (x := l[i] + 1) (by omega) (by omega), w64 (x := (i : Int) + 1) (by omega) (by omega), List.take_succ_eq_append_getElem hi, List.map_append, e1]
    rfl
theorem made_ev (l : List Int) (most : Nat) (hm : most < 1000) (hl : l.length < 100000000000000) (hw : ∀ x ∈ l, 0 ≤ x ∧ x ≤ 65535) : Ev (fun k => wogglelaw05_made.f k l (most : Int)) (madeL l most) :=
  made_loop l most hm hl hw (l.take most).length 0 (by omega)
theorem madeL_ok (l : List Int) (most : Nat) (hm : 0 < most) (hw : ∀ x ∈ l, 0 ≤ x ∧ x ≤ 65535) : Ok (madeL l most) ∧ (madeL l most).length ≤ most ∧ ∀ p ∈ madeL l most, 1 ≤ p ∧ p ≤ 65536 := by
  unfold madeL
  by_cases c : (l.take most).length = 0
  · rw [if_pos c]
    exact ⟨⟨by simp, fun p hp => by simp at hp; omega⟩, by simp; omega, fun p hp => by simp at hp; omega⟩
  · rw [if_neg c]
    have h : ∀ p ∈ (l.take most).map (· + 1), 1 ≤ p ∧ p ≤ 65536 := fun p hp => by
      obtain ⟨x, hx, rfl⟩ := List.mem_map.1 hp
      have := hw x (List.mem_of_mem_take hx)
      omega
    refine ⟨⟨by rw [List.length_map]; omega, fun p hp => by have := h p hp; omega⟩, by rw [List.length_map, List.length_take]; omega, h⟩
/-! ### Sums -/
theorem lsum_bound {l : List Int} (h : Sm l) : ∀ i, 0 ≤ lsum (l.take i) ∧ lsum (l.take i) ≤ 1000000 * (i : Int)
  | 0 => by simp [lsum]
  | i + 1 => by
    have ih := lsum_bound h i
    by_cases c : i < l.length
    · rw [List.take_succ_eq_append_getElem c, lsum_append]
      have := h.at i c
      simp only [lsum]
      omega
    · rw [List.take_of_length_le (by omega)] at ih ⊢
      omega
theorem sum_loop (l : List Int) (h : Sm l) : ∀ (d i : Nat), i + d = l.length → Ev (fun k => woggleref05_Sum.l0 k l (lsum (l.take i)) (i : Int)) (lsum l)
  | 0, i, hd => by
    have := h.len
    rw [List.take_of_length_le (by omega)]
    exact Ev.step (f := fun _ => some _) (fun k => by simp only [woggleref05_Sum.l0]; rw [if_neg (by omega)]) (Ev.now _)
  | d + 1, i, hd => by
    have := h.len
    have hb := lsum_bound h i
    have hx := h.at i (by omega)
    refine Ev.step (fun k => ?_) (sum_loop l h d (i + 1) (by omega))
    have e : lsum (l.take (i + 1)) = lsum (l.take i) + l[i] := by
      rw [List.take_succ_eq_append_getElem (by omega), lsum_append]
      simp [lsum]
    simp only [woggleref05_Sum.l0]
    rw [if_pos (by omega), if_pos (by omega), rd_at l i (by omega), w64 (x := lsum (l.take i) + l[i]) (by omega) (by omega), w64 (x := (i : Int) + 1) (by omega) (by omega), e]
    rfl
theorem sum_ev (l : List Int) (h : Sm l) : Ev (fun k => woggleref05_Sum.f k l) (lsum l) := sum_loop l h l.length 0 (by omega)
/-! ### Sides that are valid -/
theorem rsides_check_loop (n : Int) (s : List Int) (hl : s.length < 1000000) : ∀ (d i : Nat), i + d = s.length → ∀ b : Bool, (b = true ↔ (∀ x ∈ s.drop i, x = 0 ∨ x = 1) ∧ (s.length : Int) = n ∧ 0 < n ∧ s.head? = some 0) → Ev (fun k => woggleref05_Sides.l0 k n s (i : Int)) b
  | 0, i, h, b, hb => by
    rw [drop_end s i (by omega)] at hb
    by_cases c1 : (s.length : Int) = n
    · by_cases c2 : n > 0
      · have e : b = (rd s 0 == 0) := by
          cases s with
          | nil => simp at c1; omega
          | cons x t =>
            rw [Bool.eq_iff_iff, hb]
            constructor
            · rintro ⟨_, _, _, h2⟩
              simp at h2
              simp [rd, h2]
            · intro h2
              simp [rd] at h2
              exact ⟨fun y hy => by simp at hy, c1, c2, by simp [h2]⟩
        rw [e]
        exact Ev.step (f := fun _ => some _) (fun k => by simp only [woggleref05_Sides.l0]; rw [if_neg (by omega), if_pos c1, if_pos c2, if_pos (by omega)]) (Ev.now _)
      · have e : b = false := by
          cases b with
          | false => rfl
          | true => have := hb.1 rfl; omega
        rw [e]
        exact Ev.step (f := fun _ => some _) (fun k => by simp only [woggleref05_Sides.l0]; rw [if_neg (by omega), if_pos c1, if_neg c2]) (Ev.now _)
    · have e : b = false := by
        cases b with
        | false => rfl
        | true => have := hb.1 rfl; omega
      rw [e]
      exact Ev.step (f := fun _ => some _) (fun k => by simp only [woggleref05_Sides.l0]; rw [if_neg (by omega), if_neg c1]) (Ev.now _)
  | d + 1, i, h, b, hb => by
    rw [drop_at s i (by omega)] at hb
    by_cases c : 0 ≤ s[i] ∧ s[i] ≤ 1
    · have e : (∀ x ∈ s[i] :: s.drop (i + 1), x = 0 ∨ x = 1) ↔ (∀ x ∈ s.drop (i + 1), x = 0 ∨ x = 1) :=
        ⟨fun h x hx => h x (List.mem_cons_of_mem _ hx), fun h x hx => by
          rcases List.mem_cons.1 hx with rfl | hx
          · omega
          · exact h x hx⟩
      rw [e] at hb
      refine Ev.step (fun k => ?_) (rsides_check_loop n s hl d (i + 1) (by omega) b hb)
      simp only [woggleref05_Sides.l0]
      rw [if_pos (by omega), if_pos (by omega), in_is, Option.bind_some, rd_at s i (by omega), decide_eq_true c, if_pos rfl, w64 (by omega) (by omega)]
      rfl
    · have e : b = false := by
        cases b with
        | false => rfl
        | true =>
          have := (hb.1 rfl).1 s[i] List.mem_cons_self
          omega
      rw [e]
      refine Ev.step (f := fun _ => some false) (fun k => ?_) (Ev.now _)
      simp only [woggleref05_Sides.l0]
      rw [if_pos (by omega), if_pos (by omega), in_is, Option.bind_some, rd_at s i (by omega), decide_eq_false c, if_neg (by simp)]
def sidB (n : Nat) (s : List Int) : Bool := decide ((∀ x ∈ s, x = 0 ∨ x = 1) ∧ s.length = n ∧ 0 < n ∧ s.head? = some 0)
theorem rsides_check_ev (n : Nat) (s : List Int) (hl : s.length < 1000000) : Ev (fun k => woggleref05_Sides.f k (n : Int) s) (sidB n s) := by
  refine rsides_check_loop (n : Int) s hl s.length 0 (by omega) _ ?_
  unfold sidB
  rw [decide_eq_true_iff, List.drop_zero]
  constructor
  · rintro ⟨a, b, c, d⟩; exact ⟨a, by omega, by omega, d⟩
  · rintro ⟨a, b, c, d⟩; exact ⟨a, by omega, by omega, d⟩
/-! ### Difference -/
theorem Difference_ev (l s : List Int) (hl : l.length < 1000000) (hsl : s.length < 1000000) : Ev (fun k => tug_Difference.f k l s) (if bad l 14 = 0 then (if sidB l.length s = true then (dif l s, 0) else (0, 2)) else (0, bad l 14)) := by
  refine Ev.bind (check_ev l 14 hl) ?_
  by_cases c : bad l 14 = 0
  · rw [if_pos c]
    have h := bad_ok.1 c
    have h1 := h.2.1
    unfold sidB
    refine Ev.congr (fun k => by rw [if_pos c]) ?_
    by_cases c1 : s.length = l.length
    · have hs0 : 0 < s.length := by omega
      refine Ev.congr (fun k => by rw [if_pos (by omega), if_pos (by omega)]) ?_
      by_cases c2 : rd s 0 = 0
      · have hhead : s.head? = some 0 := by
          cases s with
          | nil => simp at hs0
          | cons x t => simp [rd] at c2; simp [c2]
        obtain ⟨m1, ha, ha2, ha3⟩ := min_ev s hs0 hsl
        obtain ⟨m2, hb, hb2, hb3⟩ := max_ev s hs0 hsl
        refine Ev.congr (fun k => by rw [if_pos c2]) (Ev.bind ha ?_)
        by_cases c3 : m1 < 0
        · rw [if_neg (by
            rw [decide_eq_true_iff]
            rintro ⟨h2, _⟩
            have := h2 m1 ha2
            omega)]
          exact Ev.congr (fun k => by rw [if_pos c3]) (Ev.now _)
        · refine Ev.congr (fun k => by rw [if_neg c3]) (Ev.bind hb ?_)
          by_cases c4 : m2 > 1
          · rw [if_neg (by
              rw [decide_eq_true_iff]
              rintro ⟨h2, _⟩
              have := h2 m2 hb2
              omega)]
            exact Ev.congr (fun k => by rw [if_pos c4]) (Ev.now _)
          · have hbin : Bin s := fun x hx => by
              have := ha3 x hx
              have := hb3 x hx
              omega
            rw [if_pos (by rw [decide_eq_true_iff]; exact ⟨hbin, c1, by omega, hhead⟩)]
            exact Ev.congr (fun k => by rw [if_neg c4]) (Ev.bind (diff_ev l s (h.2.sm (by omega)) hbin (by omega)) (Ev.now _))
      · rw [if_neg (by
          rw [decide_eq_true_iff]
          rintro ⟨_, _, _, h2⟩
          apply c2
          cases s with
          | nil => simp at hs0
          | cons x t => simpa [rd] using h2)]
        exact Ev.congr (fun k => by rw [if_neg c2]) (Ev.now _)
    · rw [if_neg (by
        rw [decide_eq_true_iff]
        rintro ⟨_, h2, _⟩
        exact c1 h2)]
      exact Ev.congr (fun k => by rw [if_neg (by omega)]) (Ev.now _)
  · rw [if_neg c]
    exact Ev.congr (fun k => by rw [if_neg c]) (Ev.now _)
/-! ### Bounds -/
theorem rng_u16 {x : Int} (h : (Lit.int .u16 x).wf = true) : 0 ≤ x ∧ x ≤ 65535 := by
  simp [Lit.wf, IntKind.min, IntKind.max, IntKind.signed, IntKind.bits] at h
  omega
theorem rng_u8 {x : Int} (h : (Lit.int .u8 x).wf = true) : 0 ≤ x ∧ x ≤ 255 := by
  simp [Lit.wf, IntKind.min, IntKind.max, IntKind.signed, IntKind.bits] at h
  omega
theorem Least.range {ev : Bool} {l : List Int} {d : Int} (h : Least ev l d) (hl : Sm l) : 0 ≤ d ∧ d ≤ 1000000 * (l.length : Int) := by
  obtain ⟨⟨a, c, r, _, g⟩, _⟩ := h
  have h1 := r.bound (fun p hp => (hl.2 p hp).1)
  have h2 := lsum_bound hl l.length
  rw [List.take_of_length_le (Nat.le_refl _)] at h2
  rw [← g]
  unfold ab
  split <;> omega
end Go.Proofs.Ytpfbdpeohlohoaa.S
