/- What the printed functions of layer 5 come to: cuts, made pulls, sums, equal lists, loads. No condition. -/
import Derived.Test.YtpfbdpeohlohoaaS2
namespace Go.Proofs.Ytpfbdpeohlohoaa.S
open Go.Proofs.Ytpfbdpeohlohoaa.Ga Go.Proofs.Ytpfbdpeohlohoaa.H Go.Proofs.Ytpfbdpeohlohoaa.M
open Go.RowKit Go.Proofs.YtpfbdpeohlohoaaW.PrintWords Go.Proofs.YtpfbdpeohlohoaaW.PrintLast Go.Proofs.YtpfbdpeohlohoaaW.PrintMore
set_option linter.unusedVariables false
set_option linter.unusedSimpArgs false
theorem Ev.to {α : Type} {g : Nat → Option α} {r q : α} (h : Ev g r) (e : r = q) : Ev g q := e ▸ h
theorem mn_is (a b : Int) : mn a b = if b < a then b else a := rfl
theorem cut_is (l : List Int) : wogglelaw05_cut.f l 14 = some (l.take 15) := by
  unfold wogglelaw05_cut.f
  by_cases h : (l.length : Int) > 14
  · rw [if_pos h, Option.bind_some]
    have e : mn (l.length : Int) 15 = 15 ∨ (mn (l.length : Int) 15 = l.length ∧ l.length = 15) := by rw [mn_is]; split <;> omega
    have e2 : mn (l.length : Int) 15 = 15 := by omega
    rw [e2, if_pos (by omega), if_pos (by omega), if_pos (by simp; omega)]
    rfl
  · rw [if_neg h, Option.bind_some]
    have e2 : mn (l.length : Int) 14 = l.length := by rw [mn_is]; split <;> omega
    rw [e2, if_pos (by omega), if_pos (by omega), Int.toNat_natCast, List.take_of_length_le (Nat.le_refl _), if_pos (by simp; omega), List.take_of_length_le (by omega)]
    rfl
/-! ### Equal lists -/
theorem before_loop (s : List Int) (hl : s.length < 1000000) : ∀ (d i : Nat), i + d = s.length → Ev (fun k => woggleref01_Before.l0 k s s (i : Int)) false
  | 0, i, h => by
    refine Ev.step (f := fun k => woggleref01_Before.j1 k s s (i : Int) false) (fun k => by simp only [woggleref01_Before.l0]; rw [if_neg (by omega)]) ?_
    refine Ev.step (f := fun _ => some false) (fun k => ?_) (Ev.now _)
    simp only [woggleref01_Before.j1]
    rw [if_neg (by simp), decide_eq_false (by omega)]
  | d + 1, i, h => by
    refine Ev.step (f := fun k => woggleref01_Before.j1 k s s (i : Int) true) (fun k => by simp only [woggleref01_Before.l0]; rw [if_pos (by omega), decide_eq_true (by omega)]) ?_
    refine Ev.step (fun k => ?_) (before_loop s hl d (i + 1) (by omega))
    simp only [woggleref01_Before.j1]
    rw [if_pos trivial, if_pos (by omega), if_pos (by omega), if_pos (by omega), if_pos trivial, w64 (by omega) (by omega)]
    rfl
theorem same_ev (s : List Int) (hl : s.length < 1000000) : Ev (fun k => woggleref01_Same.f k s s) true := by
  have h : Ev (fun k => woggleref01_Before.f k s s) false := before_loop s hl s.length 0 (by omega)
  refine Ev.bind h ?_
  refine Ev.congr (fun k => by rw [if_neg (by simp)]) (Ev.bind h (Ev.now _))
/-! ### Pulls that are made -/
/-! ### Sums -/
theorem lsum_bound {l : List Int} (h : Sm l) : ∀ i, 0 ≤ lsum (l.take i) ∧ lsum (l.take i) ≤ 1000000 * (i : Int)
  | 0 => by simp [lsum]
  | i + 1 => by
    have ih := lsum_bound h i
    by_cases c : i < l.length
    · rw [List.take_succ_eq_append_getElem c, lsum_append]
      have := h.at i c
      simp only [lsum]
      omega
    · rw [List.take_of_length_le (by omega)] at ih ⊢
      omega
theorem sum_loop (l : List Int) (h : Sm l) : ∀ (d i : Nat), i + d = l.length → Ev (fun k => woggleref05_Sum.l0 k l (lsum (l.take i)) (i : Int)) (lsum l)
  | 0, i, hd => by
    have := h.len
    rw [List.take_of_length_le (by omega)]
    exact Ev.step (f := fun _ => some _) (fun k => by simp only [woggleref05_Sum.l0]; rw [if_neg (by omega)]) (Ev.now _)
  | d + 1, i, hd => by
    have := h.len
    have hb := lsum_bound h i
    have hx := h.at i (by omega)
    refine Ev.step (fun k => ?_) (sum_loop l h d (i + 1) (by omega))
    have e : lsum (l.take (i + 1)) = lsum (l.take i) + l[i] := by
      rw [List.take_succ_eq_append_getElem (by omega), lsum_append]
      simp [lsum]
    simp only [woggleref05_Sum.l0]
    rw [if_pos (by omega), if_pos (by omega), rd_at l i (by omega), w64 (x := lsum (l.take i) + l[i]) (by omega) (by omega), w64 (x := (i : Int) + 1) (by omega) (by omega), e]
    rfl
theorem sum_ev (l : List Int) (h : Sm l) : Ev (fun k => woggleref05_Sum.f k l) (lsum l) := sum_loop l h l.length 0 (by omega)
/-! ### Sides that are valid -/
/-! ### Difference -/
/-! ### Bounds -/
theorem rng_u16 {x : Int} (h : (Lit.int .u16 x).wf = true) : 0 ≤ x ∧ x ≤ 65535 := by
  simp [Lit.wf, IntKind.min, IntKind.max, IntKind.signed, IntKind.bits] at h
  omega
theorem rng_u8 {x : Int} (h : (Lit.int .u8 x).wf = true) : 0 ≤ x ∧ x ≤ 255 := by
  simp [Lit.wf, IntKind.min, IntKind.max, IntKind.signed, IntKind.bits] at h
  omega
end Go.Proofs.Ytpfbdpeohlohoaa.S
