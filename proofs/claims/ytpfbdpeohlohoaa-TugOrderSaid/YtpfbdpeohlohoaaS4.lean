/- What the printed functions of layer 5 come to: loads and teams. No condition. -/
import Derived.Test.YtpfbdpeohlohoaaS1
import Derived.Test.YtpfbdpeohlohoaaM1
import Derived.Test.YtpfbdpeohlohoaaHTeams
namespace Go.Proofs.Ytpfbdpeohlohoaa.S
open Go.Proofs.Ytpfbdpeohlohoaa.Ga Go.Proofs.Ytpfbdpeohlohoaa.H Go.Proofs.Ytpfbdpeohlohoaa.M
open Go.RowKit Go.Proofs.YtpfbdpeohlohoaaW.PrintWords Go.Proofs.YtpfbdpeohlohoaaW.PrintLast Go.Proofs.YtpfbdpeohlohoaaW.PrintMore
set_option linter.unusedVariables false
set_option linter.unusedSimpArgs false
theorem Ev.to4 {α : Type} {g : Nat → Option α} {r q : α} (h : Ev g r) (e : r = q) : Ev g q := e ▸ h
/-- Pulls of a size at which no sum wraps. -/
def Sz (l : List Int) : Prop := l.length < 1000 ∧ ∀ p ∈ l, 0 ≤ p ∧ p ≤ 1000000
theorem Sz.at {l : List Int} (h : Sz l) (i : Nat) (hi : i < l.length) : 0 ≤ l[i] ∧ l[i] ≤ 1000000 := h.2 _ (List.getElem_mem hi)
theorem Ok.sz {l : List Int} (h : Ok l) (hl : l.length < 1000) : Sz l := ⟨hl, fun p hp => ⟨by have := h.2 p hp; omega, (h.2 p hp).2⟩⟩
theorem Sz.drop {l : List Int} (h : Sz l) (i : Nat) : ∀ p ∈ l.drop i, 0 ≤ p := fun p hp => (h.2 p (List.mem_of_mem_drop hp)).1
theorem getD_set (v : List Int) (i t : Nat) (x : Int) (hi : i < v.length) : (v.set i x).getD t 0 = if t = i then x else v.getD t 0 := by
  simp only [List.getD_eq_getElem?_getD]
  by_cases e : t = i
  · subst e
    rw [if_pos rfl, List.getElem?_set_self hi]
    rfl
  · rw [if_neg e, List.getElem?_set_ne (fun h => e h.symm)]
/-! ### Loads -/
theorem load_max (K : Nat) (v : List Int) (hv : v.length = K) (hK : K < 1000000) : ∀ (d i : Nat), i + d = K → Ev (fun k => woggleref05_Load.l1 k (K : Int) v (mxk (fun t => v.getD t 0) i) (i : Int)) (mxk (fun t => v.getD t 0) K)
  | 0, i, h => by
    have e : i = K := by omega
    subst e
    exact Ev.step (f := fun _ => some _) (fun k => by simp only [woggleref05_Load.l1]; rw [if_neg (by omega)]) (Ev.now _)
  | d + 1, i, h => by
    refine Ev.step (fun k => ?_) (load_max K v hv hK d (i + 1) (by omega))
    simp only [woggleref05_Load.l1]
    rw [if_pos (by omega), if_pos (by omega), if_pos (by omega), w64 (by omega) (by omega), rd_getD]
    rfl
theorem load_loop (l T : List Int) (K : Nat) (hl : Sz l) (hT : Val K l T) (hK : K < 1000000) : ∀ (d i : Nat) (v : List Int), i + d = l.length → v.length = K → (∀ t, t < K → v.getD t 0 + tl (l.drop i) (T.drop i) (t : Int) = tl l T (t : Int)) → (∀ t, 0 ≤ v.getD t 0 ∧ v.getD t 0 ≤ 1000000 * (i : Int)) → Ev (fun k => woggleref05_Load.l0 k l T (K : Int) v (i : Int)) (ld K l T)
  | 0, i, v, h, hv, hs, hb => by
    have hlen := hl.1
    have e : ∀ t, t < K → v.getD t 0 = tl l T (t : Int) := fun t ht => by
      have := hs t ht
      rw [drop_end l i (by omega)] at this
      simp only [tl] at this
      omega
    refine Ev.step (f := fun k => woggleref05_Load.l1 k (K : Int) v 0 0) (fun k => by simp only [woggleref05_Load.l0]; rw [if_neg (by omega)]) ?_
    exact Ev.to4 (load_max K v hv hK K 0 (by omega)) (mxk_congr e)
  | d + 1, i, v, h, hv, hs, hb => by
    have hlen := hl.1
    have hp := hl.at i (by omega)
    have hTl := hT.1
    have hx := hT.2 T[i] (List.getElem_mem (by omega))
    have hbx := hb T[i].toNat
    have hrd : rd v T[i] = v.getD T[i].toNat 0 := rfl
    refine Ev.step (fun k => ?_) (load_loop l T K hl hT hK d (i + 1) (v.set T[i].toNat (v.getD T[i].toNat 0 + l[i])) (by omega) (by simpa using hv) (fun t ht => ?_) (fun t => ?_))
    · simp only [woggleref05_Load.l0]
      rw [if_pos (by omega), if_pos (by omega), if_pos (by omega), rd_at T i (by omega), if_pos hx.1, if_pos (by omega), rd_at l i (by omega), hrd, w64 (x := v.getD T[i].toNat 0 + l[i]) (by omega) (by omega), w64 (x := (i : Int) + 1) (by omega) (by omega)]
      rfl
    · rw [getD_set _ _ _ _ (by omega)]
      have := hs t ht
      rw [drop_at l i (by omega), drop_at T i (by omega)] at this
      simp only [tl] at this
      by_cases c : t = T[i].toNat
      · rw [if_pos (by omega)] at this
        rw [if_pos c, ← c]
        omega
      · rw [if_neg (by omega)] at this
        rw [if_neg c]
        omega
    · rw [getD_set _ _ _ _ (by omega)]
      have := hb t
      split <;> omega
theorem load_ev (l T : List Int) (K : Nat) (hl : Sz l) (hT : Val K l T) (hK : K < 1000) : Ev (fun k => woggleref05_Load.f k l T (K : Int)) (ld K l T) := by
  have h0 : ∀ t, (List.replicate K (0 : Int)).getD t 0 = 0 := fun t => by
    simp only [List.getD_eq_getElem?_getD, List.getElem?_replicate]
    split <;> rfl
  refine Ev.congr (fun k => ?_) (load_loop l T K hl hT (by omega) l.length 0 (List.replicate K 0) (by omega) (by simp) (fun t _ => by rw [h0]; simp) (fun t => by rw [h0]; omega))
  simp only [woggleref05_Load.f]
  rw [if_pos (by omega), Int.toNat_natCast, if_pos (by omega)]
  rfl
theorem isteams_loop (n K : Nat) (T : List Int) (hl : T.length < 1000000) (hn : T.length = n) (hK : 0 < K) (hK2 : K < 1000000) (hT : ∀ x ∈ T, 0 ≤ x ∧ x < (K : Int)) : ∀ (d i : Nat), i + d = T.length → Ev (fun k => woggleref05_IsTeams.l0 k (n : Int) (K : Int) T (i : Int)) true
  | 0, i, h => by
    refine Ev.step (f := fun _ => some true) (fun k => ?_) (Ev.now _)
    simp only [woggleref05_IsTeams.l0]
    rw [if_neg (by omega)]
    simp [hn]
  | d + 1, i, h => by
    have hx := hT T[i] (List.getElem_mem (by omega))
    refine Ev.step (fun k => ?_) (isteams_loop n K T hl hn hK hK2 hT d (i + 1) (by omega))
    simp only [woggleref05_IsTeams.l0]
    rw [if_pos (by omega), if_pos (by omega), in_is, Option.bind_some, rd_at T i (by omega), w64 (x := (K : Int) - 1) (by omega) (by omega), decide_eq_true (by omega), if_pos rfl, w64 (by omega) (by omega)]
    rfl
theorem isteams_ev (l T : List Int) (K : Nat) (hl : l.length < 1000) (hK : 0 < K) (hK2 : K < 1000) (hT : Val K l T) : Ev (fun k => woggleref05_IsTeams.f k (l.length : Int) (K : Int) T) true :=
  isteams_loop l.length K T (by have := hT.1; omega) hT.1 hK (by omega) hT.2 T.length 0 (by omega)
def whyB (l : List Int) (most k : Int) : Int := if bad l most = 0 then (if k < 1 ∨ k > 4 then 1 else 0) else bad l most
theorem why_ev (l : List Int) (most K : Int) (hl : l.length < 1000000) : Ev (fun k => wogglelaw05_why.f k l most K) (whyB l most K) := by
  unfold whyB
  refine Ev.bind (pulls_ev l most hl) ?_
  by_cases c : bad l most = 0
  · rw [if_pos c]
    by_cases c1 : K < 1
    · rw [if_pos (show K < 1 ∨ K > 4 from .inl c1)]
      exact Ev.congr (fun k => by rw [if_pos c, if_pos c1]) (Ev.now _)
    · by_cases c2 : K > 4
      · rw [if_pos (show K < 1 ∨ K > 4 from .inr c2)]
        exact Ev.congr (fun k => by rw [if_pos c, if_neg c1, if_pos c2]) (Ev.now _)
      · rw [if_neg (show ¬ (K < 1 ∨ K > 4) by omega)]
        exact Ev.to4 (Ev.congr (f := fun _ => some 0) (fun k => by simp [c, c1, c2]) (Ev.now 0)) (by simp [c])
  · rw [if_neg c]
    exact Ev.congr (fun k => by rw [if_neg c]) (Ev.now _)
theorem whyB_ok {l : List Int} {most k : Int} : whyB l most k = 0 ↔ (bad l most = 0 ∧ 1 ≤ k ∧ k ≤ 4) := by
  unfold whyB
  by_cases c : bad l most = 0
  · rw [if_pos c]
    by_cases c1 : k < 1 ∨ k > 4
    · rw [if_pos c1]; omega
    · rw [if_neg c1]; omega
  · rw [if_neg c]; omega
/-! ### The search of the program -/
def UU (K : Nat) (l ts : List Int) (used : Int) (S : List Int) : Prop := ∃ R, S = ts ++ R ∧ S.length = l.length ∧ M.Can (K : Int) used R
theorem tl_short : ∀ (l ts R : List Int) (t : Int), (∀ p ∈ l, 0 ≤ p) → tl l ts t ≤ tl l (ts ++ R) t
  | [], ts, R, t, _ => by simp [tl]
  | p :: l, [], R, t, h => by
    simp only [tl, List.nil_append]
    exact tl_nonneg h
  | p :: l, x :: ts, R, t, h => by
    have := tl_short l ts R t (fun q hq => h q (List.mem_cons_of_mem _ hq))
    simp only [List.cons_append, tl]
    omega
theorem tl_snoc : ∀ (l ts : List Int) (x t : Int) (h : ts.length < l.length), tl l (ts ++ [x]) t = tl l ts t + (if x = t then l[ts.length] else 0)
  | [], ts, x, t, h => absurd h (by simp)
  | p :: l, [], x, t, h => by
    simp only [List.nil_append, tl, List.length_nil, List.getElem_cons_zero]
    cases l <;> simp [tl]
  | p :: l, y :: ts, x, t, h => by
    have := tl_snoc l ts x t (by simpa using h)
    simp only [List.cons_append, tl, List.length_cons, List.getElem_cons_succ, this]
    omega
theorem lx_prefix : ∀ (P : List Int) {a b : Int} {A B : List Int}, a < b → lx (P ++ a :: A) (P ++ b :: B)
  | [], _, _, _, _, h => .inl h
  | p :: P, _, _, _, _, h => .inr ⟨rfl, lx_prefix P h⟩
theorem max_vec (K : Nat) (hK : 0 < K) (hK2 : K < 1000000) (v : List Int) (hv : v.length = K) (h0 : ∀ t, 0 ≤ v.getD t 0) : Ev (fun k => slices_Max_int_int.f k v) (mxk (fun t => v.getD t 0) K) := by
  obtain ⟨m, h1, h2, h3⟩ := max_ev v (by omega) (by omega)
  refine Ev.to4 h1 ?_
  obtain ⟨i, hi, rfl⟩ := List.getElem_of_mem h2
  have a1 : v[i] ≤ mxk (fun t => v.getD t 0) K := by
    have := mxk_le (f := fun t => v.getD t 0) (k := K) (t := i) (by omega)
    simp only [List.getD_eq_getElem?_getD, List.getElem?_eq_getElem hi, Option.getD_some] at this
    exact this
  have a2 : mxk (fun t => v.getD t 0) K ≤ v[i] := mxk_least (by have := h0 i; simpa [List.getD_eq_getElem?_getD, List.getElem?_eq_getElem hi] using this) (fun t ht => by
    have := h3 v[t] (List.getElem_mem (by omega))
    simpa [List.getD_eq_getElem?_getD, List.getElem?_eq_getElem (show t < v.length by omega)] using this)
  omega
theorem clone_is4 (l : List Int) (h : l.length < 1000) : slices_Clone.f l = some l := by
  unfold slices_Clone.f
  rw [Option.bind_some, if_pos (by simp; omega)]
  rfl
theorem asg_spec (l : List Int) (K : Nat) (hl : Sz l) (hK : 0 < K) (hK2 : K < 1000) : ∀ (r : Nat) (ts v : List Int) (used best : Int) (out : List Int), ts.length + r = l.length → (∀ x ∈ ts, 0 ≤ x ∧ x < (K : Int)) → v.length = K → (∀ t, t < K → v.getD t 0 = tl l ts (t : Int)) → (∀ t, 0 ≤ v.getD t 0 ∧ v.getD t 0 ≤ 1000000 * (ts.length : Int)) → 0 ≤ used → used ≤ (K : Int) →
    ∃ b o, Ev (fun k => asg l (K : Int) k ts v used best out) (b, o, v) ∧ Srch K l (UU K l ts used) best out b o
  | 0, ts, v, used, best, out, h, hts, hv, hs, hb, hu, hu2 => by
    have hlen := hl.1
    have hm := max_vec K hK (by omega) v hv (fun t => (hb t).1)
    have e : mxk (fun t => v.getD t 0) K = ld K l ts := mxk_congr hs
    rw [e] at hm
    have hU : ∀ S, UU K l ts used S → S = ts := by
      rintro S ⟨R, rfl, h2, _⟩
      have : R.length = 0 := by rw [List.length_append] at h2; omega
      rw [List.length_eq_zero_iff.1 this, List.append_nil]
    have hU2 : UU K l ts used ts := ⟨[], by simp, by omega, trivial⟩
    have hc := clone_is4 ts (by omega)
    have st : ∀ k, asg l (K : Int) (k + 1) ts v used best out = (slices_Max_int_int.f k v).bind fun m => (if best < 0 then ((slices_Clone.f ts).bind fun c => some (m, c, v)) else (if m < best then ((slices_Clone.f ts).bind fun c => some (m, c, v)) else some (best, out, v))) := fun k => by
      simp only [asg]
      rw [if_pos (by omega)]
    by_cases c1 : best < 0
    · refine ⟨ld K l ts, ts, Ev.step st (Ev.bind hm (Ev.congr (fun k => by rw [if_pos c1, hc]; rfl) (Ev.now _))), .inr ⟨hU2, rfl, .inl c1, fun S hS => ?_⟩⟩
      rw [hU S hS]
      exact ⟨Int.le_refl _, fun _ => .inl rfl⟩
    · by_cases c2 : ld K l ts < best
      · refine ⟨ld K l ts, ts, Ev.step st (Ev.bind hm (Ev.congr (fun k => by rw [if_neg c1, if_pos c2, hc]; rfl) (Ev.now _))), .inr ⟨hU2, rfl, .inr c2, fun S hS => ?_⟩⟩
        rw [hU S hS]
        exact ⟨Int.le_refl _, fun _ => .inl rfl⟩
      · refine ⟨best, out, Ev.step st (Ev.bind hm (Ev.congr (fun k => by rw [if_neg c1, if_neg c2]) (Ev.now _))), Srch.skip (fun S hS => ?_)⟩
        rw [hU S hS]
        omega
  | r + 1, ts, v, used, best, out, h, hts, hv, hs, hb, hu, hu2 => by
    have hlen := hl.1
    have hi : ts.length < l.length := by omega
    have hp := hl.at ts.length hi
    have hwu := Aside0.mk (w64 (x := used + 1) (by omega) (by omega))
    obtain ⟨lim, hlim⟩ : ∃ lim : Nat, mn (used + 1) (K : Int) = (lim : Int) := ⟨(mn (used + 1) (K : Int)).toNat, by unfold mn; split <;> omega⟩
    have hlim2 : (lim : Int) ≤ used + 1 ∧ lim ≤ K := by unfold mn at hlim; split at hlim <;> omega
    have hlim3 : ∀ t : Int, 0 ≤ t → t ≤ used → t < (K : Int) → t < (lim : Int) := fun t _ h1 h2 => by unfold mn at hlim; split at hlim <;> omega
    have loop : ∀ (d t : Nat) (best : Int) (out : List Int), t + d = lim → ∃ b o, Ev (fun k => asgL l (K : Int) k ts v used best out (lim : Int) (t : Int)) (b, o, v) ∧ Srch K l (fun S => ∃ t' : Nat, t ≤ t' ∧ t' < lim ∧ UU K l (ts ++ [(t' : Int)]) (mx used ((t' : Int) + 1)) S) best out b o := by
      intro d
      induction d with
      | zero =>
        intro t best out ht
        refine ⟨best, out, Ev.step (f := fun _ => some (best, out, v)) (fun k => by simp only [asgL]; rw [if_neg (by omega)]) (Ev.now _), Srch.skip ?_⟩
        rintro S ⟨t', h1, h2, _⟩
        omega
      | succ d ihd =>
        intro t best out ht
        have hbt := hb t
        have hrd : rd v (t : Int) = v.getD t 0 := rd_getD v t
        have hrl : rd l (ts.length : Int) = l[ts.length] := rd_at l ts.length hi
        have hwx := Aside0.mk (w64 (x := v.getD t 0 + l[ts.length]) (by omega) (by omega))
        have hwt := Aside0.mk (show wrap64 ((t : Int) + 1) = ((t + 1 : Nat) : Int) from by rw [w64 (by omega) (by omega)]; rfl)
        have htK : t < v.length := by omega
        obtain ⟨x, hx⟩ : ∃ x : Int, v.getD t 0 + l[ts.length] = x := ⟨_, rfl⟩
        have hvs : ∀ s : Nat, (v.set t x).getD s 0 = if s = t then x else v.getD s 0 := fun s => getD_set v t s x htK
        have hmx : 0 ≤ mx used ((t : Int) + 1) ∧ mx used ((t : Int) + 1) ≤ (K : Int) := by unfold mx; split <;> omega
        have hU : ∀ S, (∃ t' : Nat, t ≤ t' ∧ t' < lim ∧ UU K l (ts ++ [(t' : Int)]) (mx used ((t' : Int) + 1)) S) ↔ (UU K l (ts ++ [(t : Int)]) (mx used ((t : Int) + 1)) S ∨ ∃ t' : Nat, t + 1 ≤ t' ∧ t' < lim ∧ UU K l (ts ++ [(t' : Int)]) (mx used ((t' : Int) + 1)) S) := by
          intro S
          constructor
          · rintro ⟨t', h1, h2, h3⟩
            by_cases e : t' = t
            · subst e; exact .inl h3
            · exact .inr ⟨t', by omega, h2, h3⟩
          · rintro (h3 | ⟨t', h1, h2, h3⟩)
            · exact ⟨t, Nat.le_refl _, by omega, h3⟩
            · exact ⟨t', by omega, h2, h3⟩
        have hord : ∀ S T, UU K l (ts ++ [(t : Int)]) (mx used ((t : Int) + 1)) S → (∃ t' : Nat, t + 1 ≤ t' ∧ t' < lim ∧ UU K l (ts ++ [(t' : Int)]) (mx used ((t' : Int) + 1)) T) → lx S T := by
          rintro S T ⟨R, rfl, _, _⟩ ⟨t', h1, _, ⟨R', rfl, _, _⟩⟩
          rw [List.append_assoc, List.append_assoc]
          exact lx_prefix ts (by omega)
        have inner : ∃ b1 o1, Ev (fun k => (if best < 0 ∨ x < best then (asg l (K : Int) k (ts ++ [(t : Int)]) (v.set t x) (mx used ((t + 1 : Nat) : Int)) best out) else some (best, out, v.set t x))) (b1, o1, v.set t x) ∧ Srch K l (UU K l (ts ++ [(t : Int)]) (mx used ((t : Int) + 1))) best out b1 o1 := by
          by_cases c : best < 0 ∨ x < best
          · obtain ⟨b1, o1, h1, h2⟩ := asg_spec l K hl hK hK2 r (ts ++ [(t : Int)]) (v.set t x) (mx used ((t : Int) + 1)) best out (by simp; omega) (fun x hx => by
              rcases List.mem_append.1 hx with hx | hx
              · exact hts x hx
              · simp at hx; omega) (by simpa using hv) (fun s hs2 => by
              rw [hvs, tl_snoc l ts _ _ hi, ← hs s hs2]
              by_cases e : s = t
              · subst e; rw [if_pos rfl, if_pos rfl]; exact hx.symm
              · rw [if_neg e, if_neg (by omega)]; omega) (fun s => by
              rw [hvs]
              have := hb s
              simp only [List.length_append, List.length_cons, List.length_nil]
              split <;> omega) hmx.1 hmx.2
            exact ⟨b1, o1, Ev.congr (fun k => by rw [if_pos c]; rfl) h1, h2⟩
          · refine ⟨best, out, Ev.congr (fun k => by rw [if_neg c]) (Ev.now _), Srch.skip ?_⟩
            rintro S ⟨R, rfl, h2, _⟩
            refine ⟨by omega, ?_⟩
            have h3 : tl l (ts ++ [(t : Int)] ++ R) (t : Int) ≤ ld K l (ts ++ [(t : Int)] ++ R) := mxk_le (f := fun u : Nat => tl l (ts ++ [(t : Int)] ++ R) (u : Int)) (k := K) (t := t) (by omega)
            have h4 := tl_short l (ts ++ [(t : Int)]) R (t : Int) (fun p hp => (hl.2 p hp).1)
            rw [tl_snoc l ts _ _ hi, if_pos rfl, ← hs t (by omega)] at h4
            have h5 : ld K l (ts ++ [(t : Int)] ++ R) = mxk (fun u : Nat => tl l (ts ++ [(t : Int)] ++ R) (u : Int)) K := rfl
            have h6 := mxk_le (f := fun u : Nat => tl l (ts ++ [(t : Int)] ++ R) (u : Int)) (k := K) (t := t) (by omega)
            omega
        obtain ⟨b1, o1, h1, h2⟩ := inner
        obtain ⟨b2, o2, h3, h4⟩ := ihd (t + 1) b1 o1 (by omega)
        have hback : (v.set t x).set t (wrap64 (rd (v.set t x) (t : Int) - rd l (ts.length : Int))) = v := by
          rw [rd_getD, hvs, if_pos rfl, hrl, List.set_set, w64 (by omega) (by omega), ← hx]
          apply List.ext_getElem?
          intro j
          by_cases e : t = j
          · subst e
            rw [List.getElem?_set_self (by omega), List.getD_eq_getElem?_getD, List.getElem?_eq_getElem (by omega)]
            simp
          · rw [List.getElem?_set_ne e]
        refine ⟨b2, o2, ?_, (Srch.seq h2 h4 hord).congr (fun S => (hU S).symm)⟩
        refine Ev.step (f := fun k => ((if best < 0 ∨ x < best then (asg l (K : Int) k (ts ++ [(t : Int)]) (v.set t x) (mx used ((t + 1 : Nat) : Int)) best out) else some (best, out, v.set t x))).bind fun r => (asgL l (K : Int) k ts (r.2.2.set t (wrap64 (rd r.2.2 (t : Int) - rd l (ts.length : Int)))) used r.1 r.2.1 (lim : Int) ((t + 1 : Nat) : Int))) (fun k => ?_) ?_
        · simp only [asgL]
          rw [if_pos (by omega), if_pos (by omega), hrd, hrl, hwx.out, hwt.out, hx, Int.toNat_natCast]
        · refine Ev.bind h1 ?_
          dsimp only
          rw [hback]
          exact h3
    obtain ⟨b, o, h1, h2⟩ := loop lim 0 best out (by omega)
    refine ⟨b, o, Ev.step (fun k => ?_) h1, h2.congr (fun S => ?_)⟩
    · simp only [asg]
      rw [if_neg (by omega), hwu.out, hlim]
      rfl
    · constructor
      · rintro ⟨t', _, h3, ⟨R, rfl, h4, h5⟩⟩
        exact ⟨(t' : Int) :: R, by simp, h4, by
          unfold mx at h5
          exact ⟨by omega, by omega, by omega, h5⟩⟩
      · rintro ⟨R, rfl, h4, h5⟩
        cases R with
        | nil => simp at h4; omega
        | cons x R =>
          obtain ⟨g1, g2, g3, g4⟩ := h5
          have g5 := hlim3 x g1 g2 g3
          refine ⟨x.toNat, by omega, by omega, R, by rw [Int.toNat_of_nonneg g1]; simp, h4, ?_⟩
          rw [Int.toNat_of_nonneg g1]
          exact g4
theorem Teams_ev (l : List Int) (K : Int) (hl : l.length < 1000000) : ∃ o, Ev (fun k => tug_Teams.f k l K) (if whyB l 10 K = 0 then (ld K.toNat l o, o, 0) else (0, [], whyB l 10 K)) ∧ (whyB l 10 K = 0 → First K.toNat l o) := by
  by_cases c : whyB l 10 K = 0
  · obtain ⟨h1, h2, h3⟩ := whyB_ok.1 c
    obtain ⟨h4, h5⟩ := bad_ok.1 h1
    have hs := h5.sz (by omega)
    have hz : ∀ t, (List.replicate K.toNat (0 : Int)).getD t 0 = 0 := fun t => by
      simp only [List.getD_eq_getElem?_getD, List.getElem?_replicate]
      split <;> rfl
    obtain ⟨b, o, g1, g2⟩ := asg_spec l K.toNat hs (by omega) (by omega) l.length [] (List.replicate K.toNat 0) 0 (-1) [] (by simp) (fun x hx => by simp at hx) (by simp) (fun t _ => by rw [hz]; cases l <;> simp [tl]) (fun t => by rw [hz]; simp) (Int.le_refl 0) (by omega)
    have g3 : Srch K.toNat l (fun S => S.length = l.length ∧ M.Can (K.toNat : Int) 0 S) (-1) [] b o := g2.congr (fun S => by
      constructor
      · rintro ⟨R, rfl, a, b⟩; exact ⟨a, b⟩
      · rintro ⟨a, b⟩; exact ⟨S, rfl, a, b⟩)
    obtain ⟨f1, f2⟩ := g3.first (by omega)
    refine ⟨o, ?_, fun _ => f1⟩
    rw [if_pos c, ← f2]
    refine Ev.bind (check_ev l 10 hl) ?_
    refine Ev.congr (f := fun k => (asg l K k [] (List.replicate K.toNat 0) 0 (-1) []).bind fun r => some (r.1, r.2.1, 0)) (fun k => by rw [if_pos h1, if_neg (by omega), if_neg (by omega), if_pos (by omega)]) ?_
    rw [Int.toNat_of_nonneg (by omega)] at g1
    exact Ev.bind g1 (Ev.now _)
  · refine ⟨[], ?_, fun h => absurd h c⟩
    rw [if_neg c]
    refine Ev.bind (check_ev l 10 hl) ?_
    unfold whyB at c ⊢
    by_cases c1 : bad l 10 = 0
    · rw [if_pos c1] at c ⊢
      by_cases c2 : K < 1
      · rw [if_pos (show K < 1 ∨ K > 4 from .inl c2)]
        exact Ev.congr (fun k => by rw [if_pos c1, if_pos c2]) (Ev.now _)
      · have c3 : K > 4 := by
          apply Classical.byContradiction
          intro h
          rw [if_neg (by omega)] at c
          exact c rfl
        rw [if_pos (show K < 1 ∨ K > 4 from .inr c3)]
        exact Ev.congr (fun k => by rw [if_pos c1, if_neg c2, if_pos c3]) (Ev.now _)
    · rw [if_neg c1]
      exact Ev.congr (fun k => by rw [if_neg c1]) (Ev.now _)
end Go.Proofs.Ytpfbdpeohlohoaa.S
