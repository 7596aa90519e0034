/- What the printed functions of layer 5 come to: loads and teams. No condition. -/
import Derived.Test.YtpfbdpeohlohoaaS1
import Derived.Test.YtpfbdpeohlohoaaM1
import Derived.Test.YtpfbdpeohlohoaaHTeams
namespace Go.Proofs.Ytpfbdpeohlohoaa.S
open Go.Proofs.Ytpfbdpeohlohoaa.Ga Go.Proofs.Ytpfbdpeohlohoaa.H Go.Proofs.Ytpfbdpeohlohoaa.M
open Go.RowKit Go.Proofs.YtpfbdpeohlohoaaW.PrintWords Go.Proofs.YtpfbdpeohlohoaaW.PrintLast Go.Proofs.YtpfbdpeohlohoaaW.PrintMore
set_option linter.unusedVariables false
set_option linter.unusedSimpArgs false
theorem Ev.to4 {α : Type} {g : Nat → Option α} {r q : α} (h : Ev g r) (e : r = q) : Ev g q := e ▸ h
/-- Pulls of a size at which no sum wraps. -/
def Sz (l : List Int) : Prop := l.length < 1000 ∧ ∀ p ∈ l, 0 ≤ p ∧ p ≤ 1000000
theorem Sz.at {l : List Int} (h : Sz l) (i : Nat) (hi : i < l.length) : 0 ≤ l[i] ∧ l[i] ≤ 1000000 := h.2 _ (List.getElem_mem hi)
theorem Ok.sz {l : List Int} (h : Ok l) (hl : l.length < 1000) : Sz l := ⟨hl, fun p hp => ⟨by have := h.2 p hp; omega, (h.2 p hp).2⟩⟩
theorem Sz.drop {l : List Int} (h : Sz l) (i : Nat) : ∀ p ∈ l.drop i, 0 ≤ p := fun p hp => (h.2 p (List.mem_of_mem_drop hp)).1
theorem getD_set (v : List Int) (i t : Nat) (x : Int) (hi : i < v.length) : (v.set i x).getD t 0 = if t = i then x else v.getD t 0 := by
  simp only [List.getD_eq_getElem?_getD]
  by_cases e : t = i
  · subst e
    rw [if_pos rfl, List.getElem?_set_self hi]
    rfl
  · rw [if_neg e, List.getElem?_set_ne (fun h => e h.symm)]
/-! ### Loads -/
theorem load_max (K : Nat) (v : List Int) (hv : v.length = K) (hK : K < 1000000) : ∀ (d i : Nat), i + d = K → Ev (fun k => woggleref05_Load.l1 k (K : Int) v (mxk (fun t => v.getD t 0) i) (i : Int)) (mxk (fun t => v.getD t 0) K)
  | 0, i, h => by
    have e : i = K := by omega
    subst e
    exact Ev.step (f := fun _ => some _) (fun k => by simp only [woggleref05_Load.l1]; rw [if_neg (by omega)]) (Ev.now _)
  | d + 1, i, h => by
    refine Ev.step (fun k => ?_) (load_max K v hv hK d (i + 1) (by omega))
    simp only [woggleref05_Load.l1]
    rw [if_pos (by omega), if_pos (by omega), if_pos (by omega), w64 (by omega) (by omega), rd_getD]
    rfl
theorem load_loop (l T : List Int) (K : Nat) (hl : Sz l) (hT : Val K l T) (hK : K < 1000000) : ∀ (d i : Nat) (v : List Int), i + d = l.length → v.length = K → (∀ t, t < K → v.getD t 0 + tl (l.drop i) (T.drop i) (t : Int) = tl l T (t : Int)) → (∀ t, 0 ≤ v.getD t 0 ∧ v.getD t 0 ≤ 1000000 * (i : Int)) → Ev (fun k => woggleref05_Load.l0 k l T (K : Int) v (i : Int)) (ld K l T)
  | 0, i, v, h, hv, hs, hb => by
    have hlen := hl.1
    have e : ∀ t, t < K → v.getD t 0 = tl l T (t : Int) := fun t ht => by
      have := hs t ht
      rw [drop_end l i (by omega)] at this
      simp only [tl] at this
      omega
    refine Ev.step (f := fun k => woggleref05_Load.l1 k (K : Int) v 0 0) (fun k => by simp only [woggleref05_Load.l0]; rw [if_neg (by omega)]) ?_
    exact Ev.to4 (load_max K v hv hK K 0 (by omega)) (mxk_congr e)
  | d + 1, i, v, h, hv, hs, hb => by
    have hlen := hl.1
    have hp := hl.at i (by omega)
    have hTl := hT.1
    have hx := hT.2 T[i] (List.getElem_mem (by omega))
    have hbx := hb T[i].toNat
    have hrd : rd v T[i] = v.getD T[i].toNat 0 := rfl
    refine Ev.step (fun k => ?_) (load_loop l T K hl hT hK d (i + 1) (v.set T[i].toNat (v.getD T[i].toNat 0 + l[i])) (by omega) (by simpa using hv) (fun t ht => ?_) (fun t => ?_))
    · simp only [woggleref05_Load.l0]
      rw [if_pos (by omega), if_pos (by omega), if_pos (by omega), rd_at T i (by omega), if_pos hx.1, if_pos (by omega), rd_at l i (by omega), hrd, w64 (x := v.getD T[i].toNat 0 + l[i]) (by omega) (by omega), w64 (x := (i : Int) + 1) (by omega) (by omega)]
      rfl
    · rw [getD_set _ _ _ _ (by omega)]
      have := hs t ht
      rw [drop_at l i (by omega), drop_at T i (by omega)] at this
      simp only [tl] at this
      by_cases c : t = T[i].toNat
      · rw [if_pos (by omega)] at this
        rw [if_pos c, ← c]
        omega
      · rw [if_neg (by omega)] at this
        rw [if_neg c]
        omega
    · rw [getD_set _ _ _ _ (by omega)]
      have := hb t
      split <;> omega
theorem load_ev (l T : List Int) (K : Nat) (hl : Sz l) (hT : Val K l T) (hK : K < 1000) : Ev (fun k => woggleref05_Load.f k l T (K : Int)) (ld K l T) := by
  have h0 : ∀ t, (List.replicate K (0 : Int)).getD t 0 = 0 := fun t => by
    simp only [List.getD_eq_getElem?_getD, List.getElem?_replicate]
    split <;> rfl
  refine Ev.congr (fun k => ?_) (load_loop l T K hl hT (by omega) l.length 0 (List.replicate K 0) (by omega) (by simp) (fun t _ => by rw [h0]; simp) (fun t => by rw [h0]; omega))
  simp only [woggleref05_Load.f]
  rw [if_pos (by omega), Int.toNat_natCast, if_pos (by omega)]
  rfl
def whyB (l : List Int) (most k : Int) : Int := if bad l most = 0 then (if k < 1 ∨ k > 4 then 1 else 0) else bad l most
theorem why_ev (l : List Int) (most K : Int) (hl : l.length < 1000000) : Ev (fun k => wogglelaw05_why.f k l most K) (whyB l most K) := by
  unfold whyB
  refine Ev.bind (pulls_ev l most hl) ?_
  by_cases c : bad l most = 0
  · rw [if_pos c]
    by_cases c1 : K < 1
    · rw [if_pos (show K < 1 ∨ K > 4 from .inl c1)]
      exact Ev.congr (fun k => by rw [if_pos c, if_pos c1]) (Ev.now _)
    · by_cases c2 : K > 4
      · rw [if_pos (show K < 1 ∨ K > 4 from .inr c2)]
        exact Ev.congr (fun k => by rw [if_pos c, if_neg c1, if_pos c2]) (Ev.now _)
      · rw [if_neg (show ¬ (K < 1 ∨ K > 4) by omega)]
        exact Ev.to4 (Ev.congr (f := fun _ => some 0) (fun k => by simp [c, c1, c2]) (Ev.now 0)) (by simp [c])
  · rw [if_neg c]
    exact Ev.congr (fun k => by rw [if_neg c]) (Ev.now _)
theorem whyB_ok {l : List Int} {most k : Int} : whyB l most k = 0 ↔ (bad l most = 0 ∧ 1 ≤ k ∧ k ≤ 4) := by
  unfold whyB
  by_cases c : bad l most = 0
  · rw [if_pos c]
    by_cases c1 : k < 1 ∨ k > 4
    · rw [if_pos c1]; omega
    · rw [if_neg c1]; omega
  · rw [if_neg c]; omega
/-! ### The search of the program -/
theorem tl_short : ∀ (l ts R : List Int) (t : Int), (∀ p ∈ l, 0 ≤ p) → tl l ts t ≤ tl l (ts ++ R) t
  | [], ts, R, t, _ => by simp [tl]
  | p :: l, [], R, t, h => by
    simp only [tl, List.nil_append]
    exact tl_nonneg h
  | p :: l, x :: ts, R, t, h => by
    have := tl_short l ts R t (fun q hq => h q (List.mem_cons_of_mem _ hq))
    simp only [List.cons_append, tl]
    omega
theorem max_vec (K : Nat) (hK : 0 < K) (hK2 : K < 1000000) (v : List Int) (hv : v.length = K) (h0 : ∀ t, 0 ≤ v.getD t 0) : Ev (fun k => slices_Max_int_int.f k v) (mxk (fun t => v.getD t 0) K) := by
  obtain ⟨m, h1, h2, h3⟩ := max_ev v (by omega) (by omega)
  refine Ev.to4 h1 ?_
  obtain ⟨i, hi, rfl⟩ := List.getElem_of_mem h2
  have a1 : v[i] ≤ mxk (fun t => v.getD t 0) K := by
    have := mxk_le (f := fun t => v.getD t 0) (k := K) (t := i) (by omega)
    simp only [List.getD_eq_getElem?_getD, List.getElem?_eq_getElem hi, Option.getD_some] at this
    exact this
  have a2 : mxk (fun t => v.getD t 0) K ≤ v[i] := mxk_least (by have := h0 i; simpa [List.getD_eq_getElem?_getD, List.getElem?_eq_getElem hi] using this) (fun t ht => by
    have := h3 v[t] (List.getElem_mem (by omega))
    simpa [List.getD_eq_getElem?_getD, List.getElem?_eq_getElem (show t < v.length by omega)] using this)
  omega
end Go.Proofs.Ytpfbdpeohlohoaa.S
