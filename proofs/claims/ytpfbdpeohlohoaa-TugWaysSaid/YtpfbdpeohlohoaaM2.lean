/- Plain: teams of pulls, their loads, the least load; Graham's bound for teams that are made from the greatest pull down. No condition. -/
import Derived.Test.YtpfbdpeohlohoaaM1
namespace Go.Proofs.Ytpfbdpeohlohoaa.M
set_option linter.unusedVariables false
set_option linter.unusedSimpArgs false
/-- The sum of a team's pulls. -/
def tl : List Int → List Int → Int → Int
  | p :: l, x :: T, t => (if x = t then p else 0) + tl l T t
  | _, _, _ => 0
/-- The greatest one of f 0, .., f (k - 1), and of 0. -/
def mxk (f : Nat → Int) : Nat → Int
  | 0 => 0
  | k + 1 => if mxk f k < f k then f k else mxk f k
def ld (k : Nat) (l T : List Int) : Int := mxk (fun t => tl l T (t : Int)) k
def Val (k : Nat) (l T : List Int) : Prop := T.length = l.length ∧ ∀ x ∈ T, 0 ≤ x ∧ x < (k : Int)
theorem mxk_le {f : Nat → Int} : ∀ {k : Nat} {t : Nat}, t < k → f t ≤ mxk f k
  | k + 1, t, h => by
    unfold mxk
    by_cases e : t = k
    · subst e; split <;> omega
    · have := mxk_le (f := f) (k := k) (t := t) (by omega)
      split <;> omega
theorem mxk_nonneg (f : Nat → Int) : ∀ k, 0 ≤ mxk f k
  | 0 => Int.le_refl 0
  | k + 1 => by have := mxk_nonneg f k; unfold mxk; split <;> omega
theorem mxk_at (f : Nat → Int) : ∀ k, mxk f k = 0 ∨ ∃ t, t < k ∧ mxk f k = f t
  | 0 => .inl rfl
  | k + 1 => by
    unfold mxk
    split
    · exact .inr ⟨k, by omega, rfl⟩
    · rcases mxk_at f k with h | ⟨t, h1, h2⟩
      · exact .inl h
      · exact .inr ⟨t, by omega, h2⟩
theorem mxk_least {f : Nat → Int} {k : Nat} {b : Int} (h0 : 0 ≤ b) (h : ∀ t, t < k → f t ≤ b) : mxk f k ≤ b := by
  rcases mxk_at f k with h1 | ⟨t, h1, h2⟩
  · omega
  · have := h t h1; omega
theorem mxk_congr {f g : Nat → Int} : ∀ {k : Nat}, (∀ t, t < k → f t = g t) → mxk f k = mxk g k
  | 0, _ => rfl
  | k + 1, h => by unfold mxk; rw [mxk_congr (fun t ht => h t (by omega)), h k (by omega)]
theorem mxk_mono {f g : Nat → Int} {k : Nat} (h : ∀ t, t < k → f t ≤ g t) : mxk f k ≤ mxk g k :=
  mxk_least (mxk_nonneg g k) (fun t ht => Int.le_trans (h t ht) (mxk_le ht))
theorem mxk_mul {t : Int} (ht : 0 < t) (f : Nat → Int) : ∀ k, mxk (fun i => t * f i) k = t * mxk f k
  | 0 => by simp [mxk]
  | k + 1 => by
    unfold mxk
    rw [mxk_mul ht f k]
    by_cases h : mxk f k < f k
    · rw [if_pos h, if_pos (Int.mul_lt_mul_of_pos_left h ht)]
    · rw [if_neg h, if_neg (fun h2 => h (Int.lt_of_mul_lt_mul_left h2 (by omega)))]
theorem tl_nonneg : ∀ {l T : List Int} {t : Int}, (∀ p ∈ l, 0 ≤ p) → 0 ≤ tl l T t
  | [], _, _, _ => by simp [tl]
  | _ :: _, [], _, _ => by simp [tl]
  | p :: l, x :: T, t, h => by
    have h1 := tl_nonneg (l := l) (T := T) (t := t) (fun q hq => h q (List.mem_cons_of_mem _ hq))
    have h2 := h p List.mem_cons_self
    simp only [tl]
    split <;> omega
/-- Permuting the pulls: the teams along with them. -/
theorem tl_perm {k : Nat} {l l' : List Int} (hp : l.Perm l') : ∀ {T : List Int}, Val k l T → ∃ T', Val k l' T' ∧ ∀ t, tl l' T' t = tl l T t := by
  induction hp with
  | nil => exact fun {T} h => ⟨T, h, fun _ => rfl⟩
  | @cons x l1 l2 _ ih =>
    intro T h
    cases T with
    | nil => exact absurd h.1 (by simp)
    | cons y T =>
      obtain ⟨T', h1, h2⟩ := ih (T := T) ⟨by simpa using h.1, fun z hz => h.2 z (List.mem_cons_of_mem _ hz)⟩
      refine ⟨y :: T', ⟨by simp [h1.1], fun z hz => ?_⟩, fun t => by simp only [tl, h2]⟩
      rcases List.mem_cons.1 hz with rfl | hz
      · exact h.2 _ List.mem_cons_self
      · exact h1.2 z hz
  | swap x y l =>
    intro T h
    match T, h with
    | [], h => exact absurd h.1 (by simp)
    | [_], h => exact absurd h.1 (by simp)
    | a :: b :: T, h =>
      refine ⟨b :: a :: T, ⟨by simpa using h.1, fun z hz => h.2 z ?_⟩, fun t => by simp only [tl]; omega⟩
      simp only [List.mem_cons] at hz ⊢
      rcases hz with h | h | h
      · exact .inr (.inl h)
      · exact .inl h
      · exact .inr (.inr h)
  | trans _ _ ih1 ih2 =>
    intro T h
    obtain ⟨T1, h1, h2⟩ := ih1 h
    obtain ⟨T2, h3, h4⟩ := ih2 h1
    exact ⟨T2, h3, fun t => (h4 t).trans (h2 t)⟩
theorem tl_scale (m : Int) : ∀ (l T : List Int) (t : Int), tl (l.map (m * ·)) T t = m * tl l T t
  | [], _, _ => by simp [tl]
  | _ :: _, [], _ => by simp [tl]
  | p :: l, x :: T, t => by
    simp only [List.map_cons, tl, tl_scale m l T t, Int.mul_add]
    split <;> simp
/-- The loads sum to the sum of all pulls. -/
def sumk (f : Nat → Int) : Nat → Int
  | 0 => 0
  | k + 1 => sumk f k + f k
theorem sumk_zero : ∀ k, sumk (fun _ => 0) k = 0
  | 0 => rfl
  | k + 1 => by simp [sumk, sumk_zero k]
theorem sumk_add (f g : Nat → Int) : ∀ k, sumk (fun t => f t + g t) k = sumk f k + sumk g k
  | 0 => rfl
  | k + 1 => by simp only [sumk, sumk_add f g k]; omega
theorem sumk_one (p x : Int) : ∀ k : Nat, sumk (fun t => if x = (t : Int) then p else 0) k = if 0 ≤ x ∧ x < (k : Int) then p else 0
  | 0 => by rw [if_neg (by omega)]; rfl
  | k + 1 => by
    simp only [sumk, sumk_one p x k]
    by_cases e : x = (k : Int)
    · rw [if_pos e, if_neg (by omega), if_pos (by omega)]; omega
    · rw [if_neg e]
      by_cases h : 0 ≤ x ∧ x < (k : Int)
      · rw [if_pos h, if_pos (by omega)]; omega
      · rw [if_neg h, if_neg (by omega)]; omega
theorem sumk_congr {f g : Nat → Int} : ∀ {k : Nat}, (∀ t, t < k → f t = g t) → sumk f k = sumk g k
  | 0, _ => rfl
  | k + 1, h => by simp only [sumk]; rw [sumk_congr (fun t ht => h t (by omega)), h k (by omega)]
theorem tl_sum {k : Nat} : ∀ {l T : List Int}, Val k l T → sumk (fun t => tl l T (t : Int)) k = lsum l
  | [], _, _ => by simp only [tl, lsum]; exact sumk_zero k
  | p :: l, [], h => absurd h.1 (by simp)
  | p :: l, x :: T, h => by
    have ih := tl_sum (k := k) (l := l) (T := T) ⟨by simpa using h.1, fun z hz => h.2 z (List.mem_cons_of_mem _ hz)⟩
    simp only [tl, lsum]
    rw [sumk_add, sumk_one, if_pos (h.2 x List.mem_cons_self), ih]
theorem sumk_le (f : Nat → Int) (b : Int) : ∀ k : Nat, (∀ t, t < k → f t ≤ b) → sumk f k ≤ (k : Int) * b
  | 0, _ => by simp [sumk]
  | k + 1, h => by
    have h1 := sumk_le f b k (fun t ht => h t (by omega))
    have h2 := h k (by omega)
    simp only [sumk]
    rw [Int.natCast_add, Int.add_mul]
    omega
theorem sumk_ge (f : Nat → Int) (b : Int) : ∀ k : Nat, (∀ t, t < k → b ≤ f t) → (k : Int) * b ≤ sumk f k
  | 0, _ => by simp [sumk]
  | k + 1, h => by
    have h1 := sumk_ge f b k (fun t ht => h t (by omega))
    have h2 := h k (by omega)
    simp only [sumk]
    rw [Int.natCast_add, Int.add_mul]
    omega
/-- Some team has more than the share that all can have. -/
theorem pigeon {k : Nat} {l T : List Int} {b : Int} (h : Val k l T) (hb : (k : Int) * b < lsum l) : ∃ t, t < k ∧ b < tl l T (t : Int) := by
  apply Classical.byContradiction
  intro hn
  have := sumk_le (fun t => tl l T (t : Int)) b k (fun t ht => by
    apply Classical.byContradiction
    intro h2
    exact hn ⟨t, ht, by omega⟩)
  rw [tl_sum h] at this
  omega
theorem ld_sum {k : Nat} {l T : List Int} (h : Val k l T) : lsum l ≤ (k : Int) * ld k l T := by
  rw [← tl_sum h]
  exact sumk_le _ _ k (fun t ht => mxk_le ht)
/-! ### The least load -/
def LL (k : Nat) (l : List Int) (n : Int) : Prop := (∃ T, Val k l T ∧ ld k l T = n) ∧ ∀ T, Val k l T → n ≤ ld k l T
theorem LL.unique {k : Nat} {l : List Int} {n m : Int} (h : LL k l n) (g : LL k l m) : n = m := by
  obtain ⟨⟨T, h1, h2⟩, h3⟩ := h
  obtain ⟨⟨S, g1, g2⟩, g3⟩ := g
  have := h3 _ g1
  have := g3 _ h1
  omega
theorem LL.perm {k : Nat} {l l' : List Int} {n : Int} (hp : l.Perm l') (h : LL k l n) : LL k l' n := by
  obtain ⟨⟨T, h1, h2⟩, h3⟩ := h
  refine ⟨?_, fun T' hT' => ?_⟩
  · obtain ⟨T', g1, g2⟩ := tl_perm hp h1
    exact ⟨T', g1, by rw [← h2]; exact mxk_congr (fun t _ => g2 _)⟩
  · obtain ⟨T2, g1, g2⟩ := tl_perm hp.symm hT'
    have := h3 _ g1
    rw [show ld k l' T' = ld k l T2 from mxk_congr (fun t _ => (g2 _).symm)]
    exact this
theorem LL.scale {k : Nat} {l : List Int} {n m : Int} (hm : 0 < m) (h : LL k l n) : LL k (l.map (m * ·)) (m * n) := by
  obtain ⟨⟨T, h1, h2⟩, h3⟩ := h
  have e : ∀ T, ld k (l.map (m * ·)) T = m * ld k l T := fun T => by
    unfold ld
    rw [← mxk_mul hm]
    exact mxk_congr (fun t _ => tl_scale m l T _)
  refine ⟨⟨T, ⟨by simp [h1.1], h1.2⟩, by rw [e, h2]⟩, fun T' hT' => ?_⟩
  rw [e]
  exact Int.mul_le_mul_of_nonneg_left (h3 T' ⟨by have := hT'.1; simpa using this, hT'.2⟩) (by omega)
theorem tl_take : ∀ (l T : List Int) (p t : Int), 0 ≤ p → tl l (T.take l.length) t ≤ tl (l ++ [p]) T t
  | [], [], p, t, h => by simp [tl]
  | [], [x], p, t, h => by
    simp only [List.nil_append, tl]
    split <;> omega
  | [], x :: y :: T, p, t, h => by
    simp only [List.nil_append, tl]
    split <;> omega
  | q :: l, [], p, t, h => by simp [tl]
  | q :: l, x :: T, p, t, h => by
    have := tl_take l T p t h
    simp only [List.length_cons, List.take_succ_cons, List.cons_append, tl]
    omega
theorem ld_take {k : Nat} {l T : List Int} {p : Int} (hp : 0 ≤ p) (h : Val k (l ++ [p]) T) : Val k l (T.take l.length) ∧ ld k l (T.take l.length) ≤ ld k (l ++ [p]) T := by
  refine ⟨⟨?_, fun x hx => h.2 x (List.mem_of_mem_take hx)⟩, mxk_mono (fun t _ => tl_take l T p t hp)⟩
  have := h.1
  simp only [List.length_append, List.length_cons, List.length_nil] at this
  rw [List.length_take]
  omega
theorem LL.more {k : Nat} {l : List Int} {n m p : Int} (hp : 0 ≤ p) (h : LL k l n) (g : LL k (l ++ [p]) m) : n ≤ m := by
  obtain ⟨⟨T, g1, g2⟩, _⟩ := g
  obtain ⟨h1, h2⟩ := ld_take hp g1
  have := h.2 _ h1
  omega
/-! ### Two teams, one team -/
theorem two_teams : ∀ {l T : List Int}, Val 2 l T → tl l T 0 + tl l T 1 = lsum l ∧ tl l T 0 - tl l T 1 = sg l T
  | [], T, _ => by simp [tl, lsum, sg]
  | p :: l, [], h => absurd h.1 (by simp)
  | p :: l, x :: T, h => by
    have ih := two_teams (l := l) (T := T) ⟨by simpa using h.1, fun z hz => h.2 z (List.mem_cons_of_mem _ hz)⟩
    have hx := h.2 x List.mem_cons_self
    simp only [tl, lsum, sg]
    have : x = 0 ∨ x = 1 := by omega
    rcases this with rfl | rfl
    · simp only [Int.reduceEq, if_true, if_false]; omega
    · simp only [Int.reduceEq, if_true, if_false]; omega
theorem ld_two {l T : List Int} (hp : ∀ p ∈ l, 0 ≤ p) (h : Val 2 l T) : 2 * ld 2 l T = lsum l + ab (sg l T) := by
  obtain ⟨h1, h2⟩ := two_teams h
  have h3 := tl_nonneg (T := T) (t := 0) hp
  have h4 := tl_nonneg (T := T) (t := 1) hp
  have a0 : tl l T 0 ≤ ld 2 l T := mxk_le (f := fun t : Nat => tl l T (t : Int)) (k := 2) (t := 0) (by omega)
  have a1 : tl l T 1 ≤ ld 2 l T := mxk_le (f := fun t : Nat => tl l T (t : Int)) (k := 2) (t := 1) (by omega)
  have a2 : ld 2 l T = 0 ∨ ld 2 l T = tl l T 0 ∨ ld 2 l T = tl l T 1 := by
    rcases mxk_at (fun t : Nat => tl l T (t : Int)) 2 with h | ⟨t, ht, h⟩
    · exact .inl h
    · have : t = 0 ∨ t = 1 := by omega
      rcases this with rfl | rfl
      · exact .inr (.inl h)
      · exact .inr (.inr h)
  unfold ab
  split <;> omega
theorem LL.two {l : List Int} {n d : Int} (hp : ∀ p ∈ l, 0 ≤ p) (h : LL 2 l n) (g : Least false l d) : 2 * n = lsum l + d := by
  obtain ⟨⟨T, h1, h2⟩, h3⟩ := h
  obtain ⟨⟨a, c, g1, _, g2⟩, g3⟩ := g
  have b1 : Bin T := fun x hx => by have := h1.2 x hx; omega
  have q1 := g3 _ _ (reach_of l T b1 h1.1) (fun h => by simp at h)
  obtain ⟨s, s1, s2, s3, _⟩ := g1.sides
  have q2 := h3 s ⟨s2, fun x hx => by rcases s1 x hx with h | h <;> omega⟩
  have e1 := ld_two hp h1
  have e2 := ld_two (T := s) hp ⟨s2, fun x hx => by rcases s1 x hx with h | h <;> omega⟩
  rw [s3, g2] at e2
  omega
theorem one_team : ∀ {l T : List Int}, Val 1 l T → tl l T 0 = lsum l ∧ T = List.replicate l.length 0
  | [], [], _ => ⟨rfl, rfl⟩
  | [], _ :: _, h => absurd h.1 (by simp)
  | p :: l, [], h => absurd h.1 (by simp)
  | p :: l, x :: T, h => by
    have ih := one_team (l := l) (T := T) ⟨by simpa using h.1, fun z hz => h.2 z (List.mem_cons_of_mem _ hz)⟩
    have hx := h.2 x List.mem_cons_self
    have : x = 0 := by omega
    subst this
    exact ⟨by simp only [tl, lsum, if_true]; omega, by rw [List.length_cons, List.replicate_succ, ← ih.2]⟩
theorem ld_one {l T : List Int} (hp : ∀ p ∈ l, 0 ≤ p) (h : Val 1 l T) : ld 1 l T = lsum l := by
  have h1 := (one_team h).1
  have h2 := lsum_nonneg l hp
  have a0 : tl l T 0 ≤ ld 1 l T := mxk_le (f := fun t : Nat => tl l T (t : Int)) (k := 1) (t := 0) (by omega)
  rcases mxk_at (fun t : Nat => tl l T (t : Int)) 1 with h3 | ⟨t, ht, h3⟩
  · have h4 : ld 1 l T = 0 := h3
    omega
  · have : t = 0 := by omega
    subst this
    have h4 : ld 1 l T = tl l T 0 := h3
    omega
/-! ### Some of a team's pulls are great -/
theorem weighed {c p t : Int} (hp : 0 ≤ p) (hc : p ≤ c) : ∀ (S W T : List Int), W.length = S.length → T.length = S.length → (∀ x ∈ S, p ≤ x) → (∀ j (h : j < S.length) (h2 : j < W.length), W[j] = 1 ∨ (W[j] = 2 ∧ c ≤ S[j])) →
    0 ≤ tl S T t ∧ (1 ≤ tl W T t → p ≤ tl S T t) ∧ (2 ≤ tl W T t → c ≤ tl S T t ∨ 2 * p ≤ tl S T t) ∧ (3 ≤ tl W T t → c + p ≤ tl S T t ∨ 3 * p ≤ tl S T t)
  | [], [], [], _, _, _, _ => by simp only [tl]; omega
  | [], _ :: _, _, h, _, _, _ => absurd h (by simp)
  | _ :: _, [], _, h, _, _, _ => absurd h (by simp)
  | [], [], _ :: _, _, h, _, _ => absurd h (by simp)
  | _ :: _, _ :: _, [], _, h, _, _ => absurd h (by simp)
  | s :: S, w :: W, x :: T, h1, h2, h3, h4 => by
    have ih := weighed (t := t) hp hc S W T (by simpa using h1) (by simpa using h2) (fun y hy => h3 y (List.mem_cons_of_mem _ hy)) (fun j hj hj2 => by
      have := h4 (j + 1) (by simp; omega) (by simp; omega)
      simpa using this)
    have h5 := h4 0 (by simp) (by simp)
    simp only [List.getElem_cons_zero] at h5
    have h6 := h3 s List.mem_cons_self
    simp only [tl]
    by_cases e : x = t
    · rw [if_pos e, if_pos e]; omega
    · rw [if_neg e, if_neg e]; omega
/-! ### From the greatest pull down -/
def fm : List Int → Nat
  | [] => 0
  | [_] => 0
  | x :: y :: v => if (y :: v).getD (fm (y :: v)) 0 < x then fm (y :: v) + 1 else 0
theorem fm_spec : ∀ (v : List Int), 0 < v.length → fm v < v.length ∧ (∀ j, j < v.length → v.getD (fm v) 0 ≤ v.getD j 0) ∧ ∀ j, j < fm v → v.getD (fm v) 0 < v.getD j 0
  | [], h => absurd h (by simp)
  | [x], _ => ⟨by simp [fm], fun j hj => by
      have : j = 0 := by simpa using hj
      subst this
      exact Int.le_refl _, fun j hj => absurd hj (by simp [fm])⟩
  | x :: y :: v, _ => by
    obtain ⟨h1, h2, h3⟩ := fm_spec (y :: v) (by simp)
    unfold fm
    by_cases c : (y :: v).getD (fm (y :: v)) 0 < x
    · rw [if_pos c]
      refine ⟨by simpa using h1, fun j hj => ?_, fun j hj => ?_⟩
      · cases j with
        | zero => simp only [List.getD_cons_succ, List.getD_cons_zero]; omega
        | succ j => simp only [List.getD_cons_succ]; exact h2 j (by simpa using hj)
      · cases j with
        | zero => simp only [List.getD_cons_succ, List.getD_cons_zero]; omega
        | succ j => simp only [List.getD_cons_succ]; exact h3 j (by omega)
    · rw [if_neg c]
      refine ⟨by simp, fun j hj => ?_, fun j hj => absurd hj (by omega)⟩
      cases j with
      | zero => exact Int.le_refl _
      | succ j =>
        simp only [List.getD_cons_succ, List.getD_cons_zero]
        have := h2 j (by simpa using hj)
        omega
theorem fm_unique {v : List Int} {t : Nat} (h1 : t < v.length) (h2 : ∀ j, j < v.length → v.getD t 0 ≤ v.getD j 0) (h3 : ∀ j, j < t → v.getD t 0 < v.getD j 0) : t = fm v := by
  obtain ⟨g1, g2, g3⟩ := fm_spec v (by omega)
  rcases Nat.lt_trichotomy t (fm v) with h | h | h
  · have := g3 t h; have := h2 _ g1; omega
  · exact h
  · have := h3 _ h; have := g2 _ h1; omega
/-- A pull goes to the team with the least sum. -/
def gst (v : List Int) (p : Int) : List Int := v.set (fm v) (v.getD (fm v) 0 + p)
def grs (k : Nat) (S : List Int) : List Int := S.foldl gst (List.replicate k 0)
theorem gst_length (v : List Int) (p : Int) : (gst v p).length = v.length := by simp [gst]
theorem foldl_gst_length : ∀ (S v : List Int), (S.foldl gst v).length = v.length
  | [], _ => rfl
  | p :: S, v => by rw [List.foldl_cons, foldl_gst_length S, gst_length]
theorem grs_length (k : Nat) (S : List Int) : (grs k S).length = k := by unfold grs; rw [foldl_gst_length]; simp
def vmx (v : List Int) : Int := mxk (fun t => v.getD t 0) v.length
theorem gst_getD {v : List Int} {p : Int} (h : 0 < v.length) (t : Nat) : (gst v p).getD t 0 = if t = fm v then v.getD t 0 + p else v.getD t 0 := by
  unfold gst
  obtain ⟨h1, _, _⟩ := fm_spec v h
  simp only [List.getD_eq_getElem?_getD]
  by_cases e : t = fm v
  · subst e
    rw [if_pos rfl, List.getElem?_set_self h1]
    rfl
  · rw [if_neg e, List.getElem?_set_ne (fun h => e h.symm)]
theorem gst_sum {v : List Int} {p : Int} (h : 0 < v.length) : sumk (fun t => (gst v p).getD t 0) v.length = sumk (fun t => v.getD t 0) v.length + p := by
  have e : ∀ t, t < v.length → (gst v p).getD t 0 = v.getD t 0 + (if (fm v : Int) = (t : Int) then p else 0) := fun t _ => by
    rw [gst_getD h]
    by_cases e : t = fm v
    · rw [if_pos e, if_pos (by omega)]
    · rw [if_neg e, if_neg (by omega)]; omega
  rw [sumk_congr e, sumk_add, sumk_one, if_pos ⟨by omega, by have := (fm_spec v h).1; omega⟩]
theorem grs_snoc (k : Nat) (S : List Int) (p : Int) : grs k (S ++ [p]) = gst (grs k S) p := by
  unfold grs
  rw [List.foldl_append]
  rfl
theorem grs_sum {k : Nat} (hk : 0 < k) : ∀ (S : List Int), sumk (fun t => (grs k S).getD t 0) k = lsum S := by
  intro S
  have key : ∀ (n : Nat) (S : List Int), S.length = n → sumk (fun t => (grs k S).getD t 0) k = lsum S := by
    intro n
    induction n with
    | zero =>
      intro S h
      have : S = [] := List.length_eq_zero_iff.1 h
      subst this
      unfold grs
      rw [show lsum [] = 0 from rfl]
      exact (sumk_congr (g := fun _ => 0) (fun t ht => by simp [List.getD_eq_getElem?_getD, List.getElem?_replicate, ht])).trans (sumk_zero k)
    | succ n ih =>
      intro S h
      have hne : S ≠ [] := by intro e; subst e; simp at h
      rw [← List.dropLast_concat_getLast hne, grs_snoc, lsum_append]
      have := gst_sum (v := grs k S.dropLast) (p := S.getLast hne) (by rw [grs_length]; exact hk)
      rw [grs_length] at this
      rw [this, ih S.dropLast (by simp [h])]
      simp [lsum]
  exact key _ S rfl
theorem grs_nonneg {k : Nat} (hk : 0 < k) : ∀ (S : List Int), (∀ p ∈ S, 0 ≤ p) → ∀ t, 0 ≤ (grs k S).getD t 0 := by
  have key : ∀ (n : Nat) (S : List Int), S.length = n → (∀ p ∈ S, 0 ≤ p) → ∀ t, 0 ≤ (grs k S).getD t 0 := by
    intro n
    induction n with
    | zero =>
      intro S h _ t
      have : S = [] := List.length_eq_zero_iff.1 h
      subst this
      unfold grs
      simp only [List.foldl_nil, List.getD_eq_getElem?_getD, List.getElem?_replicate]
      split <;> simp
    | succ n ih =>
      intro S h hp t
      have hne : S ≠ [] := by intro e; subst e; simp at h
      have h1 := ih S.dropLast (by simp [h]) (fun p hp2 => hp p (List.dropLast_subset _ hp2)) t
      have h2 := hp _ (List.getLast_mem hne)
      rw [← List.dropLast_concat_getLast hne, grs_snoc, gst_getD (by rw [grs_length]; exact hk)]
      split <;> omega
  exact fun S => key _ S rfl
/-- How many teams have at most c. -/
def cle (c : Int) : List Int → Int
  | [] => 0
  | x :: v => (if x ≤ c then 1 else 0) + cle c v
theorem cle_set (c y : Int) : ∀ (v : List Int) (i : Nat), i < v.length → cle c (v.set i y) = cle c v - (if v.getD i 0 ≤ c then 1 else 0) + (if y ≤ c then 1 else 0)
  | [], i, h => absurd h (by simp)
  | x :: v, 0, _ => by simp only [List.set_cons_zero, cle, List.getD_cons_zero]; omega
  | x :: v, i + 1, h => by
    have := cle_set c y v i (by simpa using h)
    simp only [List.set_cons_succ, cle, List.getD_cons_succ]
    omega
theorem cle_pos (c : Int) : ∀ (v : List Int), 0 < cle c v → ∃ i, i < v.length ∧ v.getD i 0 ≤ c
  | [], h => absurd h (by simp [cle])
  | x :: v, h => by
    by_cases e : x ≤ c
    · exact ⟨0, by simp, by simpa using e⟩
    · simp only [cle, if_neg e] at h
      obtain ⟨i, h1, h2⟩ := cle_pos c v (by omega)
      exact ⟨i + 1, by simp; omega, by simpa using h2⟩
theorem cle_replicate (c : Int) (hc : 0 ≤ c) : ∀ k : Nat, cle c (List.replicate k 0) = k
  | 0 => rfl
  | k + 1 => by rw [List.replicate_succ]; simp only [cle, if_pos hc, cle_replicate c hc k]; omega
theorem gst_cle {v : List Int} {p c : Int} (h : 0 < v.length) : cle c v - 1 ≤ cle c (gst v p) := by
  unfold gst
  rw [cle_set c _ v _ (fm_spec v h).1]
  split <;> split <;> omega
/-- While a team has nothing, a small pull leaves as many teams with at most c. -/
theorem gst_cle_zero {v : List Int} {p c : Int} (h : 0 < v.length) (hz : 0 < cle 0 v) (hp : p ≤ c) (hc : 0 ≤ c) : cle c v ≤ cle c (gst v p) := by
  unfold gst
  rw [cle_set c _ v _ (fm_spec v h).1]
  obtain ⟨i, h1, h2⟩ := cle_pos 0 v hz
  have h3 := (fm_spec v h).2.1 i h1
  rw [if_pos (show v.getD (fm v) 0 ≤ c by omega), if_pos (show v.getD (fm v) 0 + p ≤ c by omega)]
  omega
theorem foldl_cle {c : Int} : ∀ (S v : List Int), 0 < v.length → cle c v - (S.length : Int) ≤ cle c (S.foldl gst v)
  | [], v, _ => by simp
  | p :: S, v, h => by
    have h1 := foldl_cle (c := c) S (gst v p) (by rw [gst_length]; exact h)
    have h2 := gst_cle (v := v) (p := p) (c := c) h
    rw [List.foldl_cons, List.length_cons]
    omega
theorem foldl_cle_zero {c : Int} (hc : 0 ≤ c) : ∀ (S v : List Int), 0 < v.length → (∀ p ∈ S, p ≤ c) → (S.length : Int) ≤ cle 0 v → cle c v ≤ cle c (S.foldl gst v)
  | [], v, _, _, _ => by simp
  | p :: S, v, h, hp, hz => by
    rw [List.length_cons] at hz
    have h2 := gst_cle (v := v) (p := p) (c := 0) h
    have h1 := foldl_cle_zero (c := c) hc S (gst v p) (by rw [gst_length]; exact h) (fun q hq => hp q (List.mem_cons_of_mem _ hq)) (by omega)
    have h3 := gst_cle_zero (v := v) (p := p) (c := c) h (by omega) (hp p List.mem_cons_self) hc
    rw [List.foldl_cons]
    omega
def Desc (S : List Int) : Prop := S.Pairwise (fun a b => b ≤ a)
theorem Desc.get {S : List Int} (h : Desc S) {i j : Nat} (hij : i ≤ j) (hj : j < S.length) : S[j] ≤ S[i]'(by omega) := by
  rcases Nat.lt_or_ge i j with h1 | h1
  · exact List.pairwise_iff_getElem.1 h i j (by omega) hj h1
  · have : i = j := by omega
    subst this
    exact Int.le_refl _
/-- The least sum before the last pull, with it, is no greater than any load, if the last pull is more than a third of that load. -/
theorem last_great {k : Nat} (hk : 0 < k) {S T : List Int} {p : Int} (hp : 0 < p) (hd : Desc S) (hle : ∀ x ∈ S, p ≤ x) (hT : Val k (S ++ [p]) T) (h3 : ld k (S ++ [p]) T < 3 * p) : (grs k S).getD (fm (grs k S)) 0 + p ≤ ld k (S ++ [p]) T := by
  have hlen := hT.1
  simp only [List.length_append, List.length_cons, List.length_nil] at hlen
  have hgl := grs_length k S
  have hfm := fm_spec (grs k S) (by omega)
  have hall : ∀ x ∈ S ++ [p], p ≤ x := fun x hx => by
    rcases List.mem_append.1 hx with h | h
    · exact hle x h
    · have : x = p := by simpa using h
      omega
  by_cases c1 : S.length < k
  · -- some team has nothing
    have h1 := foldl_cle (c := 0) S (List.replicate k 0) (by simpa using hk)
    rw [cle_replicate 0 (Int.le_refl 0)] at h1
    obtain ⟨i, h2, h4⟩ := cle_pos 0 (grs k S) (by show 0 < cle 0 (S.foldl gst (List.replicate k 0)); omega)
    have h5 := hfm.2.1 i h2
    obtain ⟨t, ht, h6⟩ := pigeon (k := k) (l := List.replicate (S.length + 1) 1) (T := T) (b := 0) ⟨by simp; omega, hT.2⟩ (by
      rw [Int.mul_zero]
      have : ∀ n : Nat, lsum (List.replicate n 1) = n := by intro n; induction n with | zero => rfl | succ n ih => rw [List.replicate_succ]; simp only [lsum, ih]; omega
      rw [this]; omega)
    have h7 := (weighed (c := p) (p := p) (t := t) (by omega) (Int.le_refl _) (S ++ [p]) (List.replicate (S.length + 1) 1) T (by simp) (by simp; omega) hall (fun j hj hj2 => .inl (by simp))).2.1 (by omega)
    have h8 : tl (S ++ [p]) T t ≤ ld k (S ++ [p]) T := mxk_le (f := fun t : Nat => tl (S ++ [p]) T (t : Int)) ht
    omega
  · -- n = k + j
    obtain ⟨j, hj⟩ : ∃ j, S.length + 1 = k + j := ⟨S.length + 1 - k, by omega⟩
    have hsum : ∀ (n : Nat) (x : Int), lsum (List.replicate n x) = n * x := by
      intro n x
      induction n with
      | zero => simp [lsum]
      | succ n ih => rw [List.replicate_succ]; simp only [lsum, ih]; rw [Int.natCast_add, Int.add_mul]; omega
    by_cases c2 : j ≤ k
    · have hi : k - j < S.length := by omega
      have hc : p ≤ S[k - j] := hle _ (List.getElem_mem hi)
      -- the load
      obtain ⟨t, ht, h6⟩ := pigeon (k := k) (l := List.replicate (k - j + 1) 2 ++ List.replicate (2 * j - 1) 1) (T := T) (b := 2) ⟨by simp; omega, hT.2⟩ (by
        rw [lsum_append, hsum, hsum]; omega)
      have h7 := (weighed (c := S[k - j]) (p := p) (t := t) (by omega) hc (S ++ [p]) (List.replicate (k - j + 1) 2 ++ List.replicate (2 * j - 1) 1) T (by simp; omega) (by simp; omega) hall (fun i hi1 hi2 => by
        by_cases e : i < k - j + 1
        · right
          rw [List.getElem_append_left (by simpa using e), List.getElem_replicate]
          refine ⟨rfl, ?_⟩
          rw [List.getElem_append_left (by omega)]
          exact hd.get (by omega) hi
        · left
          rw [List.getElem_append_right (by simp; omega), List.getElem_replicate])).2.2.2 (by omega)
      have h8 : tl (S ++ [p]) T t ≤ ld k (S ++ [p]) T := mxk_le (f := fun t : Nat => tl (S ++ [p]) T (t : Int)) ht
      -- the least sum
      have e0 : S = S.take (k - j) ++ ((S.drop (k - j)).take j ++ S.drop k) := by
        have e1 : S.drop k = (S.drop (k - j)).drop j := by rw [List.drop_drop]; congr 1; omega
        rw [e1, List.take_append_drop, List.take_append_drop]
      have h9 : 0 < cle S[k - j] (grs k S) := by
        unfold grs
        generalize hcc : S[k - j] = cc at *
        have b1 := foldl_cle (c := 0) (S.take (k - j)) (List.replicate k 0) (by simpa using hk)
        have b2 := foldl_cle (c := 0) (S.take (k - j)) (List.replicate k 0) (by simpa using hk)
        rw [cle_replicate 0 (Int.le_refl 0), List.length_take] at b1
        generalize hv1 : List.foldl gst (List.replicate k 0) (S.take (k - j)) = v1 at *
        have v1l : v1.length = k := by rw [← hv1, foldl_gst_length]; simp
        have b3 : cle 0 v1 ≤ cle cc v1 := by
          have : ∀ (v : List Int), cle 0 v ≤ cle cc v := by
            intro v
            induction v with
            | nil => exact Int.le_refl _
            | cons x v ih => simp only [cle]; split <;> split <;> omega
          exact this v1
        have b4 := foldl_cle_zero (c := cc) (by omega) ((S.drop (k - j)).take j) v1 (by omega) (fun q hq => by
          obtain ⟨i, hi, rfl⟩ := List.getElem_of_mem (List.mem_of_mem_take hq)
          rw [List.getElem_drop, ← hcc]
          exact hd.get (by omega) (by simp at hi; omega)) (by rw [List.length_take, List.length_drop]; omega)
        generalize hv2 : List.foldl gst v1 ((S.drop (k - j)).take j) = v2 at *
        have v2l : v2.length = k := by rw [← hv2, foldl_gst_length]; exact v1l
        have b5 := foldl_cle (c := cc) (S.drop k) v2 (by omega)
        rw [List.length_drop] at b5
        rw [e0, List.foldl_append, List.foldl_append, hv1, hv2]
        omega
      obtain ⟨i, h10, h11⟩ := cle_pos _ _ h9
      have h12 := hfm.2.1 i h10
      omega
    · -- more than two for each team
      obtain ⟨t, ht, h6⟩ := pigeon (k := k) (l := List.replicate (S.length + 1) 1) (T := T) (b := 2) ⟨by simp; omega, hT.2⟩ (by rw [hsum]; omega)
      have h7 := (weighed (c := p + p) (p := p) (t := t) (by omega) (by omega) (S ++ [p]) (List.replicate (S.length + 1) 1) T (by simp) (by simp; omega) hall (fun j hj hj2 => .inl (by simp)))
      have h8 : tl (S ++ [p]) T t ≤ ld k (S ++ [p]) T := mxk_le (f := fun t : Nat => tl (S ++ [p]) T (t : Int)) ht
      have h9 := (weighed (c := p * 3) (p := p) (t := t) (by omega) (by omega) (S ++ [p]) (List.replicate (S.length + 1) 1) T (by simp) (by simp; omega) hall (fun j hj hj2 => .inl (by simp))).2.2.2 (by omega)
      omega
/-- K4, Graham: for one to four teams. -/
theorem graham {k : Nat} (hk : 0 < k) (hk4 : k ≤ 4) : ∀ (n : Nat) (S T : List Int), S.length = n → (∀ x ∈ S, 0 < x) → Desc S → Val k S T → 3 * (k : Int) * vmx (grs k S) ≤ (4 * (k : Int) - 1) * ld k S T := by
  intro n
  induction n with
  | zero =>
    intro S T h _ _ _
    have : S = [] := List.length_eq_zero_iff.1 h
    subst this
    have e : vmx (grs k []) = 0 := by
      unfold vmx grs
      rw [List.foldl_nil, List.length_replicate]
      have h1 := mxk_nonneg (fun t => (List.replicate k (0 : Int)).getD t 0) k
      have h2 := mxk_least (f := fun t => (List.replicate k (0 : Int)).getD t 0) (k := k) (b := 0) (Int.le_refl 0) (fun t ht => by simp [List.getD_eq_getElem?_getD, List.getElem?_replicate, ht])
      omega
    rw [e, Int.mul_zero]
    exact Int.mul_nonneg (by omega) (mxk_nonneg _ _)
  | succ n ih =>
    intro S T h hpos hd hT
    have hne : S ≠ [] := by intro e; subst e; simp at h
    obtain ⟨R, p, rfl⟩ : ∃ R p, S = R ++ [p] := ⟨S.dropLast, S.getLast hne, (List.dropLast_concat_getLast hne).symm⟩
    have hp : 0 < p := hpos p (by simp)
    have hd2 : Desc R := (List.pairwise_append.1 hd).1
    have hle : ∀ x ∈ R, p ≤ x := fun x hx => (List.pairwise_append.1 hd).2.2 x hx p (by simp)
    obtain ⟨hT2, hl2⟩ := ld_take (by omega) hT
    have h1 := ih R (T.take R.length) (by simpa using h) (fun x hx => hpos x (by simp [hx])) hd2 hT2
    have hgl := grs_length k R
    have hfm := fm_spec (grs k R) (by omega)
    have hO := ld_sum hT
    rw [lsum_append] at hO
    simp only [lsum] at hO
    have hmin := sumk_ge (fun t => (grs k R).getD t 0) ((grs k R).getD (fm (grs k R)) 0) k (fun t ht => hfm.2.1 t (by omega))
    rw [grs_sum hk] at hmin
    have hm0 := grs_nonneg hk R (fun x hx => by have := hpos x (by simp [hx]); omega) (fm (grs k R))
    have hgr := last_great hk (S := R) (T := T) (p := p) hp hd2 hle hT
    have hmx : vmx (grs k (R ++ [p])) = vmx (grs k R) ∨ vmx (grs k (R ++ [p])) = (grs k R).getD (fm (grs k R)) 0 + p := by
      rw [grs_snoc]
      unfold vmx
      rw [gst_length, hgl]
      have e : ∀ t, (gst (grs k R) p).getD t 0 = if t = fm (grs k R) then (grs k R).getD t 0 + p else (grs k R).getD t 0 := fun t => gst_getD (by omega) t
      rcases mxk_at (fun t => (gst (grs k R) p).getD t 0) k with h2 | ⟨t, h2, h3⟩
      · left
        have h4 := mxk_nonneg (fun t => (grs k R).getD t 0) k
        have h5 : mxk (fun t => (grs k R).getD t 0) k ≤ mxk (fun t => (gst (grs k R) p).getD t 0) k := mxk_mono (fun t _ => by rw [e]; split <;> omega)
        omega
      · rw [e] at h3
        by_cases e2 : t = fm (grs k R)
        · right
          rw [if_pos e2, e2] at h3
          exact h3
        · left
          rw [if_neg e2] at h3
          have h5 : mxk (fun t => (grs k R).getD t 0) k ≤ mxk (fun t => (gst (grs k R) p).getD t 0) k := mxk_mono (fun t _ => by rw [e]; split <;> omega)
          have h6 : (grs k R).getD t 0 ≤ mxk (fun t => (grs k R).getD t 0) k := mxk_le (f := fun t => (grs k R).getD t 0) h2
          omega
    have hk5 : k = 1 ∨ k = 2 ∨ k = 3 ∨ k = 4 := by omega
    generalize ld k (R ++ [p]) T = O at *
    generalize ld k R (T.take R.length) = O2 at *
    generalize (grs k R).getD (fm (grs k R)) 0 = m at *
    generalize vmx (grs k R) = V at *
    generalize lsum R = L at *
    by_cases c : O < 3 * p
    · have := hgr c
      rcases hmx with e | e
      · rw [e]; rcases hk5 with rfl | rfl | rfl | rfl <;> omega
      · rw [e]; rcases hk5 with rfl | rfl | rfl | rfl <;> omega
    · rcases hmx with e | e
      · rw [e]; rcases hk5 with rfl | rfl | rfl | rfl <;> omega
      · rw [e]; rcases hk5 with rfl | rfl | rfl | rfl <;> omega
end Go.Proofs.Ytpfbdpeohlohoaa.M
