/- Plain: sides of pulls and the signed sums that they reach; teams and their loads, Graham's bound; the first teams with the least load; the result of differencing by values. No condition. -/
namespace Go.Proofs.Ytpfbdpeohlohoaa.M
set_option linter.unusedVariables false
set_option linter.unusedSimpArgs false
/-- The signed sum of pulls by sides. -/
def sg : List Int → List Int → Int
  | p :: l, x :: s => p * (1 - 2 * x) + sg l s
  | _, _ => 0
/-- How many more are on side 0 than on side 1. -/
def cnt : List Int → Int
  | [] => 0
  | x :: s => (1 - 2 * x) + cnt s
def Bin (s : List Int) : Prop := ∀ x ∈ s, x = 0 ∨ x = 1
def ab (x : Int) : Int := if x < 0 then -x else x
def dif (l s : List Int) : Int := ab (sg l s)
def lsum : List Int → Int
  | [] => 0
  | p :: l => p + lsum l
inductive Reach : List Int → Int → Int → Prop
  | nil : Reach [] 0 0
  | plus {l : List Int} {s c : Int} (p : Int) : Reach l s c → Reach (p :: l) (s + p) (c + 1)
  | minus {l : List Int} {s c : Int} (p : Int) : Reach l s c → Reach (p :: l) (s - p) (c - 1)
theorem Reach.to {l : List Int} {s c s' c' : Int} (h : Reach l s c) (e1 : s = s') (e2 : c = c') : Reach l s' c' := by subst e1; subst e2; exact h
theorem reach_of : ∀ (l s : List Int), Bin s → s.length = l.length → Reach l (sg l s) (cnt s)
  | [], [], _, _ => Reach.nil
  | p :: l, x :: s, hb, hl => by
    have ih := reach_of l s (fun y hy => hb y (List.mem_cons_of_mem _ hy)) (by simpa using hl)
    rcases hb x (List.mem_cons_self) with rfl | rfl
    · exact (Reach.plus p ih).to (by simp [sg]; omega) (by simp [cnt]; omega)
    · exact (Reach.minus p ih).to (by simp [sg]; omega) (by simp [cnt]; omega)
theorem Reach.sides {l : List Int} {a c : Int} (h : Reach l a c) : ∃ s, Bin s ∧ s.length = l.length ∧ sg l s = a ∧ cnt s = c := by
  induction h with
  | nil => exact ⟨[], fun _ h => by simp at h, rfl, rfl, rfl⟩
  | plus p _ ih =>
    obtain ⟨s, h1, h2, h3, h4⟩ := ih
    exact ⟨0 :: s, fun y hy => by rcases List.mem_cons.1 hy with rfl | hy; exact .inl rfl; exact h1 y hy, by simp [h2], by simp [sg]; omega, by simp [cnt]; omega⟩
  | minus p _ ih =>
    obtain ⟨s, h1, h2, h3, h4⟩ := ih
    exact ⟨1 :: s, fun y hy => by rcases List.mem_cons.1 hy with rfl | hy; exact .inr rfl; exact h1 y hy, by simp [h2], by simp [sg]; omega, by simp [cnt]; omega⟩
theorem Reach.neg {l : List Int} {a c : Int} (h : Reach l a c) : Reach l (-a) (-c) := by
  induction h with
  | nil => exact Reach.nil
  | plus p _ ih => exact (Reach.minus p ih).to (by omega) (by omega)
  | minus p _ ih => exact (Reach.plus p ih).to (by omega) (by omega)
/-- .. with the first pull on side 0, the sum or its opposite. -/
theorem Reach.first {p : Int} {l : List Int} {a c : Int} (h : Reach (p :: l) a c) : ∃ s, Bin s ∧ s.length = l.length ∧ ((sg (p :: l) (0 :: s) = a ∧ cnt (0 :: s) = c) ∨ (sg (p :: l) (0 :: s) = -a ∧ cnt (0 :: s) = -c)) := by
  cases h with
  | plus _ h =>
    obtain ⟨s, h1, h2, h3, h4⟩ := h.sides
    exact ⟨s, h1, h2, .inl ⟨by simp [sg]; omega, by simp [cnt]; omega⟩⟩
  | minus _ h =>
    obtain ⟨s, h1, h2, h3, h4⟩ := h.neg.sides
    exact ⟨s, h1, h2, .inr ⟨by simp [sg]; omega, by simp [cnt]; omega⟩⟩
theorem Reach.perm {l l' : List Int} (hp : l.Perm l') : ∀ {a c : Int}, Reach l a c → Reach l' a c := by
  induction hp with
  | nil => exact fun h => h
  | cons x _ ih =>
    intro a c h
    cases h with
    | plus _ h => exact Reach.plus x (ih h)
    | minus _ h => exact Reach.minus x (ih h)
  | swap x y l =>
    intro a c h
    cases h with
    | plus _ h =>
      cases h with
      | plus _ h => exact (Reach.plus x (Reach.plus y h)).to (by omega) (by omega)
      | minus _ h => exact (Reach.minus x (Reach.plus y h)).to (by omega) (by omega)
    | minus _ h =>
      cases h with
      | plus _ h => exact (Reach.plus x (Reach.minus y h)).to (by omega) (by omega)
      | minus _ h => exact (Reach.minus x (Reach.minus y h)).to (by omega) (by omega)
  | trans _ _ ih1 ih2 => exact fun h => ih2 (ih1 h)
theorem Reach.scale (t : Int) {l : List Int} {a c : Int} (h : Reach l a c) : Reach (l.map (t * ·)) (t * a) c := by
  induction h with
  | nil => exact Reach.nil.to (by simp) rfl
  | plus p _ ih => exact (Reach.plus (t * p) ih).to (by rw [Int.mul_add]) rfl
  | minus p _ ih => exact (Reach.minus (t * p) ih).to (by rw [Int.mul_sub]) rfl
theorem Reach.unscale (t : Int) : ∀ {l : List Int} {b c : Int}, Reach (l.map (t * ·)) b c → ∃ a, b = t * a ∧ Reach l a c
  | [], _, _, h => by cases h; exact ⟨0, by simp, Reach.nil⟩
  | p :: l, _, _, h => by
    cases h with
    | plus _ h =>
      obtain ⟨a, rfl, h2⟩ := Reach.unscale t h
      exact ⟨a + p, by rw [Int.mul_add], Reach.plus p h2⟩
    | minus _ h =>
      obtain ⟨a, rfl, h2⟩ := Reach.unscale t h
      exact ⟨a - p, by rw [Int.mul_sub], Reach.minus p h2⟩
theorem Reach.snoc {l : List Int} {p a c : Int} (h : Reach (l ++ [p]) a c) : ∃ b d, Reach l b d ∧ ((a = b + p ∧ c = d + 1) ∨ (a = b - p ∧ c = d - 1)) := by
  have h2 := h.perm (List.perm_append_comm : (l ++ [p]).Perm ([p] ++ l))
  cases h2 with
  | plus _ h3 => exact ⟨_, _, h3, .inl ⟨rfl, rfl⟩⟩
  | minus _ h3 => exact ⟨_, _, h3, .inr ⟨rfl, rfl⟩⟩
theorem Reach.snocp {l : List Int} {b d : Int} (p : Int) (h : Reach l b d) : Reach (l ++ [p]) (b + p) (d + 1) :=
  (Reach.plus p h).perm (List.perm_append_comm : ([p] ++ l).Perm (l ++ [p]))
theorem Reach.snocm {l : List Int} {b d : Int} (p : Int) (h : Reach l b d) : Reach (l ++ [p]) (b - p) (d - 1) :=
  (Reach.minus p h).perm (List.perm_append_comm : ([p] ++ l).Perm (l ++ [p]))
theorem lsum_append : ∀ (a b : List Int), lsum (a ++ b) = lsum a + lsum b
  | [], b => by simp [lsum]
  | x :: a, b => by simp [lsum, lsum_append a b]; omega
/-- All signed sums have the parity of the sum, and are no greater. -/
theorem Reach.parity {l : List Int} {a c : Int} (h : Reach l a c) : (lsum l - a) % 2 = 0 := by
  induction h with
  | nil => rfl
  | plus p _ ih => simp only [lsum]; omega
  | minus p _ ih => simp only [lsum]; omega
theorem Reach.bound {l : List Int} {a c : Int} (h : Reach l a c) (hp : ∀ p ∈ l, 0 ≤ p) : -lsum l ≤ a ∧ a ≤ lsum l := by
  induction h with
  | nil => simp [lsum]
  | plus p _ ih =>
    have h1 := ih (fun q hq => hp q (List.mem_cons_of_mem _ hq))
    have h2 := hp p List.mem_cons_self
    simp only [lsum]
    omega
  | minus p _ ih =>
    have h1 := ih (fun q hq => hp q (List.mem_cons_of_mem _ hq))
    have h2 := hp p List.mem_cons_self
    simp only [lsum]
    omega
/-- Some sides are balanced. -/
theorem Reach.even : ∀ (l : List Int), ∃ a c, Reach l a c ∧ (c = 0 ∨ c = 1 ∨ c = -1)
  | [] => ⟨0, 0, Reach.nil, .inl rfl⟩
  | p :: l => by
    obtain ⟨a, c, h, hc⟩ := Reach.even l
    by_cases h1 : c = 1
    · exact ⟨_, _, Reach.minus p h, by omega⟩
    · exact ⟨_, _, Reach.plus p h, by omega⟩
/-! ### Sides by their number -/
def bnr : Nat → Nat → List Int
  | 0, _ => []
  | n + 1, m => ((m / 2 ^ n % 2 : Nat) : Int) :: bnr n m
theorem bnr_length : ∀ n m, (bnr n m).length = n
  | 0, _ => rfl
  | n + 1, m => by simp [bnr, bnr_length n m]
theorem bnr_bin : ∀ n m, Bin (bnr n m)
  | 0, _ => fun _ h => by simp [bnr] at h
  | n + 1, m => fun x hx => by
    rcases List.mem_cons.1 hx with rfl | hx
    · omega
    · exact bnr_bin n m x hx
theorem bnr_add : ∀ (n m q : Nat), bnr n (m + 2 ^ n * q) = bnr n m
  | 0, _, _ => rfl
  | n + 1, m, q => by
    have e : m + 2 ^ (n + 1) * q = m + 2 ^ n * (2 * q) := by rw [Nat.pow_succ, Nat.mul_assoc]
    rw [e]
    simp only [bnr]
    rw [bnr_add n m (2 * q), Nat.add_mul_div_left _ _ (Nat.two_pow_pos n)]
    congr 2
    omega
theorem bnr_surj : ∀ (s : List Int), Bin s → ∃ m, m < 2 ^ s.length ∧ bnr s.length m = s
  | [], _ => ⟨0, by simp, rfl⟩
  | x :: s, hb => by
    obtain ⟨m, h1, h2⟩ := bnr_surj s (fun y hy => hb y (List.mem_cons_of_mem _ hy))
    rcases hb x List.mem_cons_self with rfl | rfl
    · refine ⟨m, by simp [Nat.pow_succ]; omega, ?_⟩
      simp only [List.length_cons, bnr, h2]
      rw [Nat.div_eq_of_lt h1]
      rfl
    · refine ⟨m + 2 ^ s.length * 1, by simp [Nat.pow_succ]; omega, ?_⟩
      simp only [List.length_cons, bnr]
      rw [bnr_add, h2, Nat.add_mul_div_left _ _ (Nat.two_pow_pos _), Nat.div_eq_of_lt h1]
      rfl
theorem bnr_first (n m : Nat) (h : m < 2 ^ n) : bnr (n + 1) m = 0 :: bnr n m := by
  simp only [bnr]
  rw [Nat.div_eq_of_lt h]
  rfl
/-! ### The least difference, and the first sides with it -/
def scan (p : List Int → Bool) (l : List Int) : Nat → Option (Int × List Int)
  | 0 => none
  | m + 1 => match scan p l m with
    | none => if p (bnr l.length m) = true then some (dif l (bnr l.length m), bnr l.length m) else none
    | some (d, s) => if p (bnr l.length m) = true ∧ dif l (bnr l.length m) < d then some (dif l (bnr l.length m), bnr l.length m) else some (d, s)
theorem scan_spec (p : List Int → Bool) (l : List Int) : ∀ m, match scan p l m with
    | none => ∀ i, i < m → p (bnr l.length i) = false
    | some (d, s) => (∃ i, i < m ∧ s = bnr l.length i) ∧ p s = true ∧ d = dif l s ∧ ∀ j, j < m → p (bnr l.length j) = true → d ≤ dif l (bnr l.length j)
  | 0 => fun i hi => absurd hi (Nat.not_lt_zero i)
  | m + 1 => by
    have ih := scan_spec p l m
    unfold scan
    revert ih
    cases scan p l m with
    | none =>
      intro ih
      dsimp only at ih ⊢
      by_cases hp : p (bnr l.length m) = true
      · rw [if_pos hp]
        refine ⟨⟨m, by omega, rfl⟩, hp, rfl, fun j hj hpj => ?_⟩
        by_cases e : j = m
        · subst e; exact Int.le_refl _
        · rw [ih j (by omega)] at hpj; exact absurd hpj (by simp)
      · rw [if_neg hp]
        intro i hi
        by_cases e : i = m
        · subst e; simpa using hp
        · exact ih i (by omega)
    | some r =>
      obtain ⟨d, s⟩ := r
      intro ih
      dsimp only at ih ⊢
      obtain ⟨⟨i, hi, hs⟩, h2, h3, h4⟩ := ih
      by_cases hp : p (bnr l.length m) = true ∧ dif l (bnr l.length m) < d
      · rw [if_pos hp]
        refine ⟨⟨m, by omega, rfl⟩, hp.1, rfl, fun j hj hpj => ?_⟩
        by_cases e : j = m
        · subst e; exact Int.le_refl _
        · have := h4 j (by omega) hpj; omega
      · rw [if_neg hp]
        refine ⟨⟨i, by omega, hs⟩, h2, h3, fun j hj hpj => ?_⟩
        by_cases e : j = m
        · subst e
          have : ¬ dif l (bnr l.length j) < d := fun h => hp ⟨hpj, h⟩
          omega
        · exact h4 j (by omega) hpj
/-- What is asked of the least difference: over all signs. 'ev': only balanced ones. -/
def okc (ev : Bool) (c : Int) : Prop := ev = true → (c = 0 ∨ c = 1 ∨ c = -1)
def Least (ev : Bool) (l : List Int) (d : Int) : Prop := (∃ a c, Reach l a c ∧ okc ev c ∧ ab a = d) ∧ ∀ a c, Reach l a c → okc ev c → d ≤ ab a
theorem Least.unique {ev : Bool} {l : List Int} {d e : Int} (h : Least ev l d) (k : Least ev l e) : d = e := by
  obtain ⟨⟨a, c, h1, h2, h3⟩, h4⟩ := h
  obtain ⟨⟨a', c', k1, k2, k3⟩, k4⟩ := k
  have := h4 _ _ k1 k2
  have := k4 _ _ h1 h2
  omega
theorem Least.perm {ev : Bool} {l l' : List Int} {d : Int} (hp : l.Perm l') (h : Least ev l d) : Least ev l' d := by
  obtain ⟨⟨a, c, h1, h2, h3⟩, h4⟩ := h
  exact ⟨⟨a, c, h1.perm hp, h2, h3⟩, fun a c k1 k2 => h4 a c (k1.perm hp.symm) k2⟩
theorem ab_mul {t a : Int} (ht : 0 < t) : ab (t * a) = t * ab a := by
  unfold ab
  by_cases h : a < 0
  · have h2 : t * a < 0 := Int.mul_neg_of_pos_of_neg ht h
    rw [if_pos h, if_pos h2, Int.mul_neg]
  · have h2 : 0 ≤ t * a := Int.mul_nonneg (by omega) (by omega)
    rw [if_neg h, if_neg (by omega)]
theorem Least.scale {ev : Bool} {l : List Int} {d t : Int} (ht : 0 < t) (h : Least ev l d) : Least ev (l.map (t * ·)) (t * d) := by
  obtain ⟨⟨a, c, h1, h2, h3⟩, h4⟩ := h
  refine ⟨⟨t * a, c, h1.scale t, h2, by rw [ab_mul ht, h3]⟩, fun b c k1 k2 => ?_⟩
  obtain ⟨a', rfl, k3⟩ := k1.unscale t
  rw [ab_mul ht]
  exact Int.mul_le_mul_of_nonneg_left (h4 _ _ k3 k2) (by omega)
/-- A pull more changes the least difference by at most that pull. -/
theorem Least.more {l : List Int} {d e p : Int} (hp : 0 ≤ p) (h : Least false l d) (k : Least false (l ++ [p]) e) : d - e ≤ p ∧ e - d ≤ p := by
  obtain ⟨⟨a, c, h1, h2, h3⟩, h4⟩ := h
  obtain ⟨⟨b, f, k1, k2, k3⟩, k4⟩ := k
  have q1 := k4 _ _ (h1.snocp p) (fun h => by simp at h)
  obtain ⟨b', f', k5, k6⟩ := k1.snoc
  have q2 := h4 _ _ k5 (fun h => by simp at h)
  unfold ab at *
  split at h3 <;> split at k3 <;> split at q1 <;> split at q2 <;> omega
/-- What the scan over all numbers finds is the least one. -/
theorem scan_least (ev : Bool) (p : List Int → Bool) (l : List Int) (hl : 0 < l.length) (hpe : ∀ s, Bin s → (p s = true ↔ okc ev (cnt s))) : ∃ d s, scan p l (2 ^ (l.length - 1)) = some (d, s) ∧ Least ev l d ∧ d = dif l s ∧ Bin s ∧ s.length = l.length ∧ s.head? = some 0 ∧ okc ev (cnt s) := by
  obtain ⟨q, l', rfl⟩ : ∃ q l', l = q :: l' := by cases l with | nil => simp at hl | cons q l' => exact ⟨q, l', rfl⟩
  have hs := scan_spec p (q :: l') (2 ^ ((q :: l').length - 1))
  simp only [List.length_cons, Nat.add_sub_cancel] at hs ⊢
  have hall : ∀ a c, Reach (q :: l') a c → okc ev c → ∃ m, m < 2 ^ l'.length ∧ p (bnr (l'.length + 1) m) = true ∧ dif (q :: l') (bnr (l'.length + 1) m) = ab a := by
    intro a c h1 h2
    obtain ⟨s, h3, h4, h5⟩ := h1.first
    obtain ⟨m, h6, h7⟩ := bnr_surj s h3
    rw [h4] at h6 h7
    refine ⟨m, h6, ?_⟩
    rw [bnr_first _ _ h6, h7]
    refine ⟨(hpe _ (fun x hx => by rcases List.mem_cons.1 hx with rfl | hx; exact .inl rfl; exact h3 x hx)).2 ?_, ?_⟩
    · intro hev
      have := h2 hev
      rcases h5 with h5 | h5 <;> omega
    · unfold dif
      rcases h5 with h5 | h5
      · rw [h5.1]
      · rw [h5.1]; unfold ab; split <;> split <;> omega
  revert hs
  cases hsc : scan p (q :: l') (2 ^ l'.length) with
  | none =>
    intro hs
    dsimp only at hs
    exfalso
    obtain ⟨a, c, h1, h2⟩ := Reach.even (q :: l')
    obtain ⟨m, h3, h4, _⟩ := hall a c h1 (fun _ => h2)
    rw [hs m h3] at h4
    exact absurd h4 (by simp)
  | some r =>
    obtain ⟨d, s⟩ := r
    intro hs
    dsimp only at hs
    obtain ⟨⟨i, hi, rfl⟩, h2, rfl, h4⟩ := hs
    have hb := bnr_bin (l'.length + 1) i
    have hc := (hpe _ hb).1 h2
    refine ⟨_, _, rfl, ⟨⟨_, _, reach_of (q :: l') _ hb (bnr_length _ _), hc, rfl⟩, fun a c k1 k2 => ?_⟩, rfl, hb, bnr_length _ _, ?_, hc⟩
    · obtain ⟨m, h5, h6, h7⟩ := hall a c k1 k2
      rw [← h7]
      exact h4 m h5 h6
    · rw [bnr_first _ _ hi]; rfl
/-- A sum over two sides, told by the whole sum. -/
theorem lsum_nonneg : ∀ (l : List Int), (∀ p ∈ l, 0 ≤ p) → 0 ≤ lsum l
  | [], _ => Int.le_refl 0
  | p :: l, h => by
    have h1 := lsum_nonneg l (fun q hq => h q (List.mem_cons_of_mem _ hq))
    have h2 := h p List.mem_cons_self
    simp only [lsum]
    omega
theorem lsum_perm {l l' : List Int} (h : l.Perm l') : lsum l = lsum l' := by
  induction h with
  | nil => rfl
  | cons x _ ih => simp only [lsum]; omega
  | swap x y l => simp only [lsum]; omega
  | trans _ _ ih1 ih2 => omega
theorem lsum_scale (t : Int) : ∀ l : List Int, lsum (l.map (t * ·)) = t * lsum l
  | [] => by simp [lsum]
  | p :: l => by simp only [List.map_cons, lsum, lsum_scale t l, Int.mul_add]
end Go.Proofs.Ytpfbdpeohlohoaa.M
namespace Go.Proofs.Ytpfbdpeohlohoaa.M
set_option linter.unusedVariables false
set_option linter.unusedSimpArgs false
/-- The sum of a team's pulls. -/
def tl : List Int → List Int → Int → Int
  | p :: l, x :: T, t => (if x = t then p else 0) + tl l T t
  | _, _, _ => 0
/-- The greatest one of f 0, .., f (k - 1), and of 0. -/
def mxk (f : Nat → Int) : Nat → Int
  | 0 => 0
  | k + 1 => if mxk f k < f k then f k else mxk f k
def ld (k : Nat) (l T : List Int) : Int := mxk (fun t => tl l T (t : Int)) k
def Val (k : Nat) (l T : List Int) : Prop := T.length = l.length ∧ ∀ x ∈ T, 0 ≤ x ∧ x < (k : Int)
theorem mxk_le {f : Nat → Int} : ∀ {k : Nat} {t : Nat}, t < k → f t ≤ mxk f k
  | k + 1, t, h => by
    unfold mxk
    by_cases e : t = k
    · subst e; split <;> omega
    · have := mxk_le (f := f) (k := k) (t := t) (by omega)
      split <;> omega
theorem mxk_nonneg (f : Nat → Int) : ∀ k, 0 ≤ mxk f k
  | 0 => Int.le_refl 0
  | k + 1 => by have := mxk_nonneg f k; unfold mxk; split <;> omega
theorem mxk_at (f : Nat → Int) : ∀ k, mxk f k = 0 ∨ ∃ t, t < k ∧ mxk f k = f t
  | 0 => .inl rfl
  | k + 1 => by
    unfold mxk
    split
    · exact .inr ⟨k, by omega, rfl⟩
    · rcases mxk_at f k with h | ⟨t, h1, h2⟩
      · exact .inl h
      · exact .inr ⟨t, by omega, h2⟩
theorem mxk_least {f : Nat → Int} {k : Nat} {b : Int} (h0 : 0 ≤ b) (h : ∀ t, t < k → f t ≤ b) : mxk f k ≤ b := by
  rcases mxk_at f k with h1 | ⟨t, h1, h2⟩
  · omega
  · have := h t h1; omega
theorem mxk_congr {f g : Nat → Int} : ∀ {k : Nat}, (∀ t, t < k → f t = g t) → mxk f k = mxk g k
  | 0, _ => rfl
  | k + 1, h => by unfold mxk; rw [mxk_congr (fun t ht => h t (by omega)), h k (by omega)]
theorem mxk_mono {f g : Nat → Int} {k : Nat} (h : ∀ t, t < k → f t ≤ g t) : mxk f k ≤ mxk g k :=
  mxk_least (mxk_nonneg g k) (fun t ht => Int.le_trans (h t ht) (mxk_le ht))
theorem mxk_mul {t : Int} (ht : 0 < t) (f : Nat → Int) : ∀ k, mxk (fun i => t * f i) k = t * mxk f k
  | 0 => by simp [mxk]
  | k + 1 => by
    unfold mxk
    rw [mxk_mul ht f k]
    by_cases h : mxk f k < f k
    · rw [if_pos h, if_pos (Int.mul_lt_mul_of_pos_left h ht)]
    · rw [if_neg h, if_neg (fun h2 => h (Int.lt_of_mul_lt_mul_left h2 (by omega)))]
theorem tl_nonneg : ∀ {l T : List Int} {t : Int}, (∀ p ∈ l, 0 ≤ p) → 0 ≤ tl l T t
  | [], _, _, _ => by simp [tl]
  | _ :: _, [], _, _ => by simp [tl]
  | p :: l, x :: T, t, h => by
    have h1 := tl_nonneg (l := l) (T := T) (t := t) (fun q hq => h q (List.mem_cons_of_mem _ hq))
    have h2 := h p List.mem_cons_self
    simp only [tl]
    split <;> omega
/-- Permuting the pulls: the teams along with them. -/
theorem tl_perm {k : Nat} {l l' : List Int} (hp : l.Perm l') : ∀ {T : List Int}, Val k l T → ∃ T', Val k l' T' ∧ ∀ t, tl l' T' t = tl l T t := by
  induction hp with
  | nil => exact fun {T} h => ⟨T, h, fun _ => rfl⟩
  | @cons x l1 l2 _ ih =>
    intro T h
    cases T with
    | nil => exact absurd h.1 (by simp)
    | cons y T =>
      obtain ⟨T', h1, h2⟩ := ih (T := T) ⟨by simpa using h.1, fun z hz => h.2 z (List.mem_cons_of_mem _ hz)⟩
      refine ⟨y :: T', ⟨by simp [h1.1], fun z hz => ?_⟩, fun t => by simp only [tl, h2]⟩
      rcases List.mem_cons.1 hz with rfl | hz
      · exact h.2 _ List.mem_cons_self
      · exact h1.2 z hz
  | swap x y l =>
    intro T h
    match T, h with
    | [], h => exact absurd h.1 (by simp)
    | [_], h => exact absurd h.1 (by simp)
    | a :: b :: T, h =>
      refine ⟨b :: a :: T, ⟨by simpa using h.1, fun z hz => h.2 z ?_⟩, fun t => by simp only [tl]; omega⟩
      simp only [List.mem_cons] at hz ⊢
      rcases hz with h | h | h
      · exact .inr (.inl h)
      · exact .inl h
      · exact .inr (.inr h)
  | trans _ _ ih1 ih2 =>
    intro T h
    obtain ⟨T1, h1, h2⟩ := ih1 h
    obtain ⟨T2, h3, h4⟩ := ih2 h1
    exact ⟨T2, h3, fun t => (h4 t).trans (h2 t)⟩
theorem tl_scale (m : Int) : ∀ (l T : List Int) (t : Int), tl (l.map (m * ·)) T t = m * tl l T t
  | [], _, _ => by simp [tl]
  | _ :: _, [], _ => by simp [tl]
  | p :: l, x :: T, t => by
    simp only [List.map_cons, tl, tl_scale m l T t, Int.mul_add]
    split <;> simp
/-- The loads sum to the sum of all pulls. -/
def sumk (f : Nat → Int) : Nat → Int
  | 0 => 0
  | k + 1 => sumk f k + f k
theorem sumk_zero : ∀ k, sumk (fun _ => 0) k = 0
  | 0 => rfl
  | k + 1 => by simp [sumk, sumk_zero k]
theorem sumk_add (f g : Nat → Int) : ∀ k, sumk (fun t => f t + g t) k = sumk f k + sumk g k
  | 0 => rfl
  | k + 1 => by simp only [sumk, sumk_add f g k]; omega
theorem sumk_one (p x : Int) : ∀ k : Nat, sumk (fun t => if x = (t : Int) then p else 0) k = if 0 ≤ x ∧ x < (k : Int) then p else 0
  | 0 => by rw [if_neg (by omega)]; rfl
  | k + 1 => by
    simp only [sumk, sumk_one p x k]
    by_cases e : x = (k : Int)
    · rw [if_pos e, if_neg (by omega), if_pos (by omega)]; omega
    · rw [if_neg e]
      by_cases h : 0 ≤ x ∧ x < (k : Int)
      · rw [if_pos h, if_pos (by omega)]; omega
      · rw [if_neg h, if_neg (by omega)]; omega
theorem sumk_congr {f g : Nat → Int} : ∀ {k : Nat}, (∀ t, t < k → f t = g t) → sumk f k = sumk g k
  | 0, _ => rfl
  | k + 1, h => by simp only [sumk]; rw [sumk_congr (fun t ht => h t (by omega)), h k (by omega)]
theorem tl_sum {k : Nat} : ∀ {l T : List Int}, Val k l T → sumk (fun t => tl l T (t : Int)) k = lsum l
  | [], _, _ => by simp only [tl, lsum]; exact sumk_zero k
  | p :: l, [], h => absurd h.1 (by simp)
  | p :: l, x :: T, h => by
    have ih := tl_sum (k := k) (l := l) (T := T) ⟨by simpa using h.1, fun z hz => h.2 z (List.mem_cons_of_mem _ hz)⟩
    simp only [tl, lsum]
    rw [sumk_add, sumk_one, if_pos (h.2 x List.mem_cons_self), ih]
theorem sumk_le (f : Nat → Int) (b : Int) : ∀ k : Nat, (∀ t, t < k → f t ≤ b) → sumk f k ≤ (k : Int) * b
  | 0, _ => by simp [sumk]
  | k + 1, h => by
    have h1 := sumk_le f b k (fun t ht => h t (by omega))
    have h2 := h k (by omega)
    simp only [sumk]
    rw [Int.natCast_add, Int.add_mul]
    omega
theorem sumk_ge (f : Nat → Int) (b : Int) : ∀ k : Nat, (∀ t, t < k → b ≤ f t) → (k : Int) * b ≤ sumk f k
  | 0, _ => by simp [sumk]
  | k + 1, h => by
    have h1 := sumk_ge f b k (fun t ht => h t (by omega))
    have h2 := h k (by omega)
    simp only [sumk]
    rw [Int.natCast_add, Int.add_mul]
    omega
/-- Some team has more than the share that all can have. -/
theorem pigeon {k : Nat} {l T : List Int} {b : Int} (h : Val k l T) (hb : (k : Int) * b < lsum l) : ∃ t, t < k ∧ b < tl l T (t : Int) := by
  apply Classical.byContradiction
  intro hn
  have := sumk_le (fun t => tl l T (t : Int)) b k (fun t ht => by
    apply Classical.byContradiction
    intro h2
    exact hn ⟨t, ht, by omega⟩)
  rw [tl_sum h] at this
  omega
theorem ld_sum {k : Nat} {l T : List Int} (h : Val k l T) : lsum l ≤ (k : Int) * ld k l T := by
  rw [← tl_sum h]
  exact sumk_le _ _ k (fun t ht => mxk_le ht)
/-! ### The least load -/
def LL (k : Nat) (l : List Int) (n : Int) : Prop := (∃ T, Val k l T ∧ ld k l T = n) ∧ ∀ T, Val k l T → n ≤ ld k l T
theorem LL.unique {k : Nat} {l : List Int} {n m : Int} (h : LL k l n) (g : LL k l m) : n = m := by
  obtain ⟨⟨T, h1, h2⟩, h3⟩ := h
  obtain ⟨⟨S, g1, g2⟩, g3⟩ := g
  have := h3 _ g1
  have := g3 _ h1
  omega
theorem LL.perm {k : Nat} {l l' : List Int} {n : Int} (hp : l.Perm l') (h : LL k l n) : LL k l' n := by
  obtain ⟨⟨T, h1, h2⟩, h3⟩ := h
  refine ⟨?_, fun T' hT' => ?_⟩
  · obtain ⟨T', g1, g2⟩ := tl_perm hp h1
    exact ⟨T', g1, by rw [← h2]; exact mxk_congr (fun t _ => g2 _)⟩
  · obtain ⟨T2, g1, g2⟩ := tl_perm hp.symm hT'
    have := h3 _ g1
    rw [show ld k l' T' = ld k l T2 from mxk_congr (fun t _ => (g2 _).symm)]
    exact this
theorem LL.scale {k : Nat} {l : List Int} {n m : Int} (hm : 0 < m) (h : LL k l n) : LL k (l.map (m * ·)) (m * n) := by
  obtain ⟨⟨T, h1, h2⟩, h3⟩ := h
  have e : ∀ T, ld k (l.map (m * ·)) T = m * ld k l T := fun T => by
    unfold ld
    rw [← mxk_mul hm]
    exact mxk_congr (fun t _ => tl_scale m l T _)
  refine ⟨⟨T, ⟨by simp [h1.1], h1.2⟩, by rw [e, h2]⟩, fun T' hT' => ?_⟩
  rw [e]
  exact Int.mul_le_mul_of_nonneg_left (h3 T' ⟨by have := hT'.1; simpa using this, hT'.2⟩) (by omega)
theorem tl_take : ∀ (l T : List Int) (p t : Int), 0 ≤ p → tl l (T.take l.length) t ≤ tl (l ++ [p]) T t
  | [], [], p, t, h => by simp [tl]
  | [], [x], p, t, h => by
    simp only [List.nil_append, tl]
    split <;> omega
  | [], x :: y :: T, p, t, h => by
    simp only [List.nil_append, tl]
    split <;> omega
  | q :: l, [], p, t, h => by simp [tl]
  | q :: l, x :: T, p, t, h => by
    have := tl_take l T p t h
    simp only [List.length_cons, List.take_succ_cons, List.cons_append, tl]
    omega
theorem ld_take {k : Nat} {l T : List Int} {p : Int} (hp : 0 ≤ p) (h : Val k (l ++ [p]) T) : Val k l (T.take l.length) ∧ ld k l (T.take l.length) ≤ ld k (l ++ [p]) T := by
  refine ⟨⟨?_, fun x hx => h.2 x (List.mem_of_mem_take hx)⟩, mxk_mono (fun t _ => tl_take l T p t hp)⟩
  have := h.1
  simp only [List.length_append, List.length_cons, List.length_nil] at this
  rw [List.length_take]
  omega
theorem LL.more {k : Nat} {l : List Int} {n m p : Int} (hp : 0 ≤ p) (h : LL k l n) (g : LL k (l ++ [p]) m) : n ≤ m := by
  obtain ⟨⟨T, g1, g2⟩, _⟩ := g
  obtain ⟨h1, h2⟩ := ld_take hp g1
  have := h.2 _ h1
  omega
/-! ### Two teams, one team -/
theorem two_teams : ∀ {l T : List Int}, Val 2 l T → tl l T 0 + tl l T 1 = lsum l ∧ tl l T 0 - tl l T 1 = sg l T
  | [], T, _ => by simp [tl, lsum, sg]
  | p :: l, [], h => absurd h.1 (by simp)
  | p :: l, x :: T, h => by
    have ih := two_teams (l := l) (T := T) ⟨by simpa using h.1, fun z hz => h.2 z (List.mem_cons_of_mem _ hz)⟩
    have hx := h.2 x List.mem_cons_self
    simp only [tl, lsum, sg]
    have : x = 0 ∨ x = 1 := by omega
    rcases this with rfl | rfl
    · simp only [Int.reduceEq, if_true, if_false]; omega
    · simp only [Int.reduceEq, if_true, if_false]; omega
theorem ld_two {l T : List Int} (hp : ∀ p ∈ l, 0 ≤ p) (h : Val 2 l T) : 2 * ld 2 l T = lsum l + ab (sg l T) := by
  obtain ⟨h1, h2⟩ := two_teams h
  have h3 := tl_nonneg (T := T) (t := 0) hp
  have h4 := tl_nonneg (T := T) (t := 1) hp
  have a0 : tl l T 0 ≤ ld 2 l T := mxk_le (f := fun t : Nat => tl l T (t : Int)) (k := 2) (t := 0) (by omega)
  have a1 : tl l T 1 ≤ ld 2 l T := mxk_le (f := fun t : Nat => tl l T (t : Int)) (k := 2) (t := 1) (by omega)
  have a2 : ld 2 l T = 0 ∨ ld 2 l T = tl l T 0 ∨ ld 2 l T = tl l T 1 := by
    rcases mxk_at (fun t : Nat => tl l T (t : Int)) 2 with h | ⟨t, ht, h⟩
    · exact .inl h
    · have : t = 0 ∨ t = 1 := by omega
      rcases this with rfl | rfl
      · exact .inr (.inl h)
      · exact .inr (.inr h)
  unfold ab
  split <;> omega
theorem LL.two {l : List Int} {n d : Int} (hp : ∀ p ∈ l, 0 ≤ p) (h : LL 2 l n) (g : Least false l d) : 2 * n = lsum l + d := by
  obtain ⟨⟨T, h1, h2⟩, h3⟩ := h
  obtain ⟨⟨a, c, g1, _, g2⟩, g3⟩ := g
  have b1 : Bin T := fun x hx => by have := h1.2 x hx; omega
  have q1 := g3 _ _ (reach_of l T b1 h1.1) (fun h => by simp at h)
  obtain ⟨s, s1, s2, s3, _⟩ := g1.sides
  have q2 := h3 s ⟨s2, fun x hx => by rcases s1 x hx with h | h <;> omega⟩
  have e1 := ld_two hp h1
  have e2 := ld_two (T := s) hp ⟨s2, fun x hx => by rcases s1 x hx with h | h <;> omega⟩
  rw [s3, g2] at e2
  omega
theorem one_team : ∀ {l T : List Int}, Val 1 l T → tl l T 0 = lsum l ∧ T = List.replicate l.length 0
  | [], [], _ => ⟨rfl, rfl⟩
  | [], _ :: _, h => absurd h.1 (by simp)
  | p :: l, [], h => absurd h.1 (by simp)
  | p :: l, x :: T, h => by
    have ih := one_team (l := l) (T := T) ⟨by simpa using h.1, fun z hz => h.2 z (List.mem_cons_of_mem _ hz)⟩
    have hx := h.2 x List.mem_cons_self
    have : x = 0 := by omega
    subst this
    exact ⟨by simp only [tl, lsum, if_true]; omega, by rw [List.length_cons, List.replicate_succ, ← ih.2]⟩
theorem ld_one {l T : List Int} (hp : ∀ p ∈ l, 0 ≤ p) (h : Val 1 l T) : ld 1 l T = lsum l := by
  have h1 := (one_team h).1
  have h2 := lsum_nonneg l hp
  have a0 : tl l T 0 ≤ ld 1 l T := mxk_le (f := fun t : Nat => tl l T (t : Int)) (k := 1) (t := 0) (by omega)
  rcases mxk_at (fun t : Nat => tl l T (t : Int)) 1 with h3 | ⟨t, ht, h3⟩
  · have h4 : ld 1 l T = 0 := h3
    omega
  · have : t = 0 := by omega
    subst this
    have h4 : ld 1 l T = tl l T 0 := h3
    omega
/-! ### Some of a team's pulls are great -/
theorem weighed {c p t : Int} (hp : 0 ≤ p) (hc : p ≤ c) : ∀ (S W T : List Int), W.length = S.length → T.length = S.length → (∀ x ∈ S, p ≤ x) → (∀ j (h : j < S.length) (h2 : j < W.length), W[j] = 1 ∨ (W[j] = 2 ∧ c ≤ S[j])) →
    0 ≤ tl S T t ∧ (1 ≤ tl W T t → p ≤ tl S T t) ∧ (2 ≤ tl W T t → c ≤ tl S T t ∨ 2 * p ≤ tl S T t) ∧ (3 ≤ tl W T t → c + p ≤ tl S T t ∨ 3 * p ≤ tl S T t)
  | [], [], [], _, _, _, _ => by simp only [tl]; omega
  | [], _ :: _, _, h, _, _, _ => absurd h (by simp)
  | _ :: _, [], _, h, _, _, _ => absurd h (by simp)
  | [], [], _ :: _, _, h, _, _ => absurd h (by simp)
  | _ :: _, _ :: _, [], _, h, _, _ => absurd h (by simp)
  | s :: S, w :: W, x :: T, h1, h2, h3, h4 => by
    have ih := weighed (t := t) hp hc S W T (by simpa using h1) (by simpa using h2) (fun y hy => h3 y (List.mem_cons_of_mem _ hy)) (fun j hj hj2 => by
      have := h4 (j + 1) (by simp; omega) (by simp; omega)
      simpa using this)
    have h5 := h4 0 (by simp) (by simp)
    simp only [List.getElem_cons_zero] at h5
    have h6 := h3 s List.mem_cons_self
    simp only [tl]
    by_cases e : x = t
    · rw [if_pos e, if_pos e]; omega
    · rw [if_neg e, if_neg e]; omega
/-! ### From the greatest pull down -/
def fm : List Int → Nat
  | [] => 0
  | [_] => 0
  | x :: y :: v => if (y :: v).getD (fm (y :: v)) 0 < x then fm (y :: v) + 1 else 0
theorem fm_spec : ∀ (v : List Int), 0 < v.length → fm v < v.length ∧ (∀ j, j < v.length → v.getD (fm v) 0 ≤ v.getD j 0) ∧ ∀ j, j < fm v → v.getD (fm v) 0 < v.getD j 0
  | [], h => absurd h (by simp)
  | [x], _ => ⟨by simp [fm], fun j hj => by
      have : j = 0 := by simpa using hj
      subst this
      exact Int.le_refl _, fun j hj => absurd hj (by simp [fm])⟩
  | x :: y :: v, _ => by
    obtain ⟨h1, h2, h3⟩ := fm_spec (y :: v) (by simp)
    unfold fm
    by_cases c : (y :: v).getD (fm (y :: v)) 0 < x
    · rw [if_pos c]
      refine ⟨by simpa using h1, fun j hj => ?_, fun j hj => ?_⟩
      · cases j with
        | zero => simp only [List.getD_cons_succ, List.getD_cons_zero]; omega
        | succ j => simp only [List.getD_cons_succ]; exact h2 j (by simpa using hj)
      · cases j with
        | zero => simp only [List.getD_cons_succ, List.getD_cons_zero]; omega
        | succ j => simp only [List.getD_cons_succ]; exact h3 j (by omega)
    · rw [if_neg c]
      refine ⟨by simp, fun j hj => ?_, fun j hj => absurd hj (by omega)⟩
      cases j with
      | zero => exact Int.le_refl _
      | succ j =>
        simp only [List.getD_cons_succ, List.getD_cons_zero]
        have := h2 j (by simpa using hj)
        omega
theorem fm_unique {v : List Int} {t : Nat} (h1 : t < v.length) (h2 : ∀ j, j < v.length → v.getD t 0 ≤ v.getD j 0) (h3 : ∀ j, j < t → v.getD t 0 < v.getD j 0) : t = fm v := by
  obtain ⟨g1, g2, g3⟩ := fm_spec v (by omega)
  rcases Nat.lt_trichotomy t (fm v) with h | h | h
  · have := g3 t h; have := h2 _ g1; omega
  · exact h
  · have := h3 _ h; have := g2 _ h1; omega
/-- A pull goes to the team with the least sum. -/
def gst (v : List Int) (p : Int) : List Int := v.set (fm v) (v.getD (fm v) 0 + p)
def grs (k : Nat) (S : List Int) : List Int := S.foldl gst (List.replicate k 0)
theorem gst_length (v : List Int) (p : Int) : (gst v p).length = v.length := by simp [gst]
theorem foldl_gst_length : ∀ (S v : List Int), (S.foldl gst v).length = v.length
  | [], _ => rfl
  | p :: S, v => by rw [List.foldl_cons, foldl_gst_length S, gst_length]
theorem grs_length (k : Nat) (S : List Int) : (grs k S).length = k := by unfold grs; rw [foldl_gst_length]; simp
def vmx (v : List Int) : Int := mxk (fun t => v.getD t 0) v.length
theorem gst_getD {v : List Int} {p : Int} (h : 0 < v.length) (t : Nat) : (gst v p).getD t 0 = if t = fm v then v.getD t 0 + p else v.getD t 0 := by
  unfold gst
  obtain ⟨h1, _, _⟩ := fm_spec v h
  simp only [List.getD_eq_getElem?_getD]
  by_cases e : t = fm v
  · subst e
    rw [if_pos rfl, List.getElem?_set_self h1]
    rfl
  · rw [if_neg e, List.getElem?_set_ne (fun h => e h.symm)]
theorem gst_sum {v : List Int} {p : Int} (h : 0 < v.length) : sumk (fun t => (gst v p).getD t 0) v.length = sumk (fun t => v.getD t 0) v.length + p := by
  have e : ∀ t, t < v.length → (gst v p).getD t 0 = v.getD t 0 + (if (fm v : Int) = (t : Int) then p else 0) := fun t _ => by
    rw [gst_getD h]
    by_cases e : t = fm v
    · rw [if_pos e, if_pos (by omega)]
    · rw [if_neg e, if_neg (by omega)]; omega
  rw [sumk_congr e, sumk_add, sumk_one, if_pos ⟨by omega, by have := (fm_spec v h).1; omega⟩]
theorem grs_snoc (k : Nat) (S : List Int) (p : Int) : grs k (S ++ [p]) = gst (grs k S) p := by
  unfold grs
  rw [List.foldl_append]
  rfl
theorem grs_sum {k : Nat} (hk : 0 < k) : ∀ (S : List Int), sumk (fun t => (grs k S).getD t 0) k = lsum S := by
  intro S
  have key : ∀ (n : Nat) (S : List Int), S.length = n → sumk (fun t => (grs k S).getD t 0) k = lsum S := by
    intro n
    induction n with
    | zero =>
      intro S h
      have : S = [] := List.length_eq_zero_iff.1 h
      subst this
      unfold grs
      rw [show lsum [] = 0 from rfl]
      exact (sumk_congr (g := fun _ => 0) (fun t ht => by simp [List.getD_eq_getElem?_getD, List.getElem?_replicate, ht])).trans (sumk_zero k)
    | succ n ih =>
      intro S h
      have hne : S ≠ [] := by intro e; subst e; simp at h
      rw [← List.dropLast_concat_getLast hne, grs_snoc, lsum_append]
      have := gst_sum (v := grs k S.dropLast) (p := S.getLast hne) (by rw [grs_length]; exact hk)
      rw [grs_length] at this
      rw [this, ih S.dropLast (by simp [h])]
      simp [lsum]
  exact key _ S rfl
theorem grs_nonneg {k : Nat} (hk : 0 < k) : ∀ (S : List Int), (∀ p ∈ S, 0 ≤ p) → ∀ t, 0 ≤ (grs k S).getD t 0 := by
  have key : ∀ (n : Nat) (S : List Int), S.length = n → (∀ p ∈ S, 0 ≤ p) → ∀ t, 0 ≤ (grs k S).getD t 0 := by
    intro n
    induction n with
    | zero =>
      intro S h _ t
      have : S = [] := List.length_eq_zero_iff.1 h
      subst this
      unfold grs
      simp only [List.foldl_nil, List.getD_eq_getElem?_getD, List.getElem?_replicate]
      split <;> simp
    | succ n ih =>
      intro S h hp t
      have hne : S ≠ [] := by intro e; subst e; simp at h
      have h1 := ih S.dropLast (by simp [h]) (fun p hp2 => hp p (List.dropLast_subset _ hp2)) t
      have h2 := hp _ (List.getLast_mem hne)
      rw [← List.dropLast_concat_getLast hne, grs_snoc, gst_getD (by rw [grs_length]; exact hk)]
      split <;> omega
  exact fun S => key _ S rfl
/-- How many teams have at most c. -/
def cle (c : Int) : List Int → Int
  | [] => 0
  | x :: v => (if x ≤ c then 1 else 0) + cle c v
theorem cle_set (c y : Int) : ∀ (v : List Int) (i : Nat), i < v.length → cle c (v.set i y) = cle c v - (if v.getD i 0 ≤ c then 1 else 0) + (if y ≤ c then 1 else 0)
  | [], i, h => absurd h (by simp)
  | x :: v, 0, _ => by simp only [List.set_cons_zero, cle, List.getD_cons_zero]; omega
  | x :: v, i + 1, h => by
    have := cle_set c y v i (by simpa using h)
    simp only [List.set_cons_succ, cle, List.getD_cons_succ]
    omega
theorem cle_pos (c : Int) : ∀ (v : List Int), 0 < cle c v → ∃ i, i < v.length ∧ v.getD i 0 ≤ c
  | [], h => absurd h (by simp [cle])
  | x :: v, h => by
    by_cases e : x ≤ c
    · exact ⟨0, by simp, by simpa using e⟩
    · simp only [cle, if_neg e] at h
      obtain ⟨i, h1, h2⟩ := cle_pos c v (by omega)
      exact ⟨i + 1, by simp; omega, by simpa using h2⟩
theorem cle_replicate (c : Int) (hc : 0 ≤ c) : ∀ k : Nat, cle c (List.replicate k 0) = k
  | 0 => rfl
  | k + 1 => by rw [List.replicate_succ]; simp only [cle, if_pos hc, cle_replicate c hc k]; omega
theorem gst_cle {v : List Int} {p c : Int} (h : 0 < v.length) : cle c v - 1 ≤ cle c (gst v p) := by
  unfold gst
  rw [cle_set c _ v _ (fm_spec v h).1]
  split <;> split <;> omega
/-- While a team has nothing, a small pull leaves as many teams with at most c. -/
theorem gst_cle_zero {v : List Int} {p c : Int} (h : 0 < v.length) (hz : 0 < cle 0 v) (hp : p ≤ c) (hc : 0 ≤ c) : cle c v ≤ cle c (gst v p) := by
  unfold gst
  rw [cle_set c _ v _ (fm_spec v h).1]
  obtain ⟨i, h1, h2⟩ := cle_pos 0 v hz
  have h3 := (fm_spec v h).2.1 i h1
  rw [if_pos (show v.getD (fm v) 0 ≤ c by omega), if_pos (show v.getD (fm v) 0 + p ≤ c by omega)]
  omega
theorem foldl_cle {c : Int} : ∀ (S v : List Int), 0 < v.length → cle c v - (S.length : Int) ≤ cle c (S.foldl gst v)
  | [], v, _ => by simp
  | p :: S, v, h => by
    have h1 := foldl_cle (c := c) S (gst v p) (by rw [gst_length]; exact h)
    have h2 := gst_cle (v := v) (p := p) (c := c) h
    rw [List.foldl_cons, List.length_cons]
    omega
theorem foldl_cle_zero {c : Int} (hc : 0 ≤ c) : ∀ (S v : List Int), 0 < v.length → (∀ p ∈ S, p ≤ c) → (S.length : Int) ≤ cle 0 v → cle c v ≤ cle c (S.foldl gst v)
  | [], v, _, _, _ => by simp
  | p :: S, v, h, hp, hz => by
    rw [List.length_cons] at hz
    have h2 := gst_cle (v := v) (p := p) (c := 0) h
    have h1 := foldl_cle_zero (c := c) hc S (gst v p) (by rw [gst_length]; exact h) (fun q hq => hp q (List.mem_cons_of_mem _ hq)) (by omega)
    have h3 := gst_cle_zero (v := v) (p := p) (c := c) h (by omega) (hp p List.mem_cons_self) hc
    rw [List.foldl_cons]
    omega
def Desc (S : List Int) : Prop := S.Pairwise (fun a b => b ≤ a)
theorem Desc.get {S : List Int} (h : Desc S) {i j : Nat} (hij : i ≤ j) (hj : j < S.length) : S[j] ≤ S[i]'(by omega) := by
  rcases Nat.lt_or_ge i j with h1 | h1
  · exact List.pairwise_iff_getElem.1 h i j (by omega) hj h1
  · have : i = j := by omega
    subst this
    exact Int.le_refl _
/-- The least sum before the last pull, with it, is no greater than any load, if the last pull is more than a third of that load. -/
theorem last_great {k : Nat} (hk : 0 < k) {S T : List Int} {p : Int} (hp : 0 < p) (hd : Desc S) (hle : ∀ x ∈ S, p ≤ x) (hT : Val k (S ++ [p]) T) (h3 : ld k (S ++ [p]) T < 3 * p) : (grs k S).getD (fm (grs k S)) 0 + p ≤ ld k (S ++ [p]) T := by
  have hlen := hT.1
  simp only [List.length_append, List.length_cons, List.length_nil] at hlen
  have hgl := grs_length k S
  have hfm := fm_spec (grs k S) (by omega)
  have hall : ∀ x ∈ S ++ [p], p ≤ x := fun x hx => by
    rcases List.mem_append.1 hx with h | h
    · exact hle x h
    · have : x = p := by simpa using h
      omega
  by_cases c1 : S.length < k
  · -- some team has nothing
    have h1 := foldl_cle (c := 0) S (List.replicate k 0) (by simpa using hk)
    rw [cle_replicate 0 (Int.le_refl 0)] at h1
    obtain ⟨i, h2, h4⟩ := cle_pos 0 (grs k S) (by show 0 < cle 0 (S.foldl gst (List.replicate k 0)); omega)
    have h5 := hfm.2.1 i h2
    obtain ⟨t, ht, h6⟩ := pigeon (k := k) (l := List.replicate (S.length + 1) 1) (T := T) (b := 0) ⟨by simp; omega, hT.2⟩ (by
      rw [Int.mul_zero]
      have : ∀ n : Nat, lsum (List.replicate n 1) = n := by intro n; induction n with | zero => rfl | succ n ih => rw [List.replicate_succ]; simp only [lsum, ih]; omega
      rw [this]; omega)
    have h7 := (weighed (c := p) (p := p) (t := t) (by omega) (Int.le_refl _) (S ++ [p]) (List.replicate (S.length + 1) 1) T (by simp) (by simp; omega) hall (fun j hj hj2 => .inl (by simp))).2.1 (by omega)
    have h8 : tl (S ++ [p]) T t ≤ ld k (S ++ [p]) T := mxk_le (f := fun t : Nat => tl (S ++ [p]) T (t : Int)) ht
    omega
  · -- n = k + j
    obtain ⟨j, hj⟩ : ∃ j, S.length + 1 = k + j := ⟨S.length + 1 - k, by omega⟩
    have hsum : ∀ (n : Nat) (x : Int), lsum (List.replicate n x) = n * x := by
      intro n x
      induction n with
      | zero => simp [lsum]
      | succ n ih => rw [List.replicate_succ]; simp only [lsum, ih]; rw [Int.natCast_add, Int.add_mul]; omega
    by_cases c2 : j ≤ k
    · have hi : k - j < S.length := by omega
      have hc : p ≤ S[k - j] := hle _ (List.getElem_mem hi)
      -- the load
      obtain ⟨t, ht, h6⟩ := pigeon (k := k) (l := List.replicate (k - j + 1) 2 ++ List.replicate (2 * j - 1) 1) (T := T) (b := 2) ⟨by simp; omega, hT.2⟩ (by
        rw [lsum_append, hsum, hsum]; omega)
      have h7 := (weighed (c := S[k - j]) (p := p) (t := t) (by omega) hc (S ++ [p]) (List.replicate (k - j + 1) 2 ++ List.replicate (2 * j - 1) 1) T (by simp; omega) (by simp; omega) hall (fun i hi1 hi2 => by
        by_cases e : i < k - j + 1
        · right
          rw [List.getElem_append_left (by simpa using e), List.getElem_replicate]
          refine ⟨rfl, ?_⟩
          rw [List.getElem_append_left (by omega)]
          exact hd.get (by omega) hi
        · left
          rw [List.getElem_append_right (by simp; omega), List.getElem_replicate])).2.2.2 (by omega)
      have h8 : tl (S ++ [p]) T t ≤ ld k (S ++ [p]) T := mxk_le (f := fun t : Nat => tl (S ++ [p]) T (t : Int)) ht
      -- the least sum
      have e0 : S = S.take (k - j) ++ ((S.drop (k - j)).take j ++ S.drop k) := by
        have e1 : S.drop k = (S.drop (k - j)).drop j := by rw [List.drop_drop]; congr 1; omega
        rw [e1, List.take_append_drop, List.take_append_drop]
      have h9 : 0 < cle S[k - j] (grs k S) := by
        unfold grs
        generalize hcc : S[k - j] = cc at *
        have b1 := foldl_cle (c := 0) (S.take (k - j)) (List.replicate k 0) (by simpa using hk)
        have b2 := foldl_cle (c := 0) (S.take (k - j)) (List.replicate k 0) (by simpa using hk)
        rw [cle_replicate 0 (Int.le_refl 0), List.length_take] at b1
        generalize hv1 : List.foldl gst (List.replicate k 0) (S.take (k - j)) = v1 at *
        have v1l : v1.length = k := by rw [← hv1, foldl_gst_length]; simp
        have b3 : cle 0 v1 ≤ cle cc v1 := by
          have : ∀ (v : List Int), cle 0 v ≤ cle cc v := by
            intro v
            induction v with
            | nil => exact Int.le_refl _
            | cons x v ih => simp only [cle]; split <;> split <;> omega
          exact this v1
        have b4 := foldl_cle_zero (c := cc) (by omega) ((S.drop (k - j)).take j) v1 (by omega) (fun q hq => by
          obtain ⟨i, hi, rfl⟩ := List.getElem_of_mem (List.mem_of_mem_take hq)
          rw [List.getElem_drop, ← hcc]
          exact hd.get (by omega) (by simp at hi; omega)) (by rw [List.length_take, List.length_drop]; omega)
        generalize hv2 : List.foldl gst v1 ((S.drop (k - j)).take j) = v2 at *
        have v2l : v2.length = k := by rw [← hv2, foldl_gst_length]; exact v1l
        have b5 := foldl_cle (c := cc) (S.drop k) v2 (by omega)
        rw [List.length_drop] at b5
        rw [e0, List.foldl_append, List.foldl_append, hv1, hv2]
        omega
      obtain ⟨i, h10, h11⟩ := cle_pos _ _ h9
      have h12 := hfm.2.1 i h10
      omega
    · -- more than two for each team
      obtain ⟨t, ht, h6⟩ := pigeon (k := k) (l := List.replicate (S.length + 1) 1) (T := T) (b := 2) ⟨by simp; omega, hT.2⟩ (by rw [hsum]; omega)
      have h7 := (weighed (c := p + p) (p := p) (t := t) (by omega) (by omega) (S ++ [p]) (List.replicate (S.length + 1) 1) T (by simp) (by simp; omega) hall (fun j hj hj2 => .inl (by simp)))
      have h8 : tl (S ++ [p]) T t ≤ ld k (S ++ [p]) T := mxk_le (f := fun t : Nat => tl (S ++ [p]) T (t : Int)) ht
      have h9 := (weighed (c := p * 3) (p := p) (t := t) (by omega) (by omega) (S ++ [p]) (List.replicate (S.length + 1) 1) T (by simp) (by simp; omega) hall (fun j hj hj2 => .inl (by simp))).2.2.2 (by omega)
      omega
/-- K4, Graham: for one to four teams. -/
theorem graham {k : Nat} (hk : 0 < k) (hk4 : k ≤ 4) : ∀ (n : Nat) (S T : List Int), S.length = n → (∀ x ∈ S, 0 < x) → Desc S → Val k S T → 3 * (k : Int) * vmx (grs k S) ≤ (4 * (k : Int) - 1) * ld k S T := by
  intro n
  induction n with
  | zero =>
    intro S T h _ _ _
    have : S = [] := List.length_eq_zero_iff.1 h
    subst this
    have e : vmx (grs k []) = 0 := by
      unfold vmx grs
      rw [List.foldl_nil, List.length_replicate]
      have h1 := mxk_nonneg (fun t => (List.replicate k (0 : Int)).getD t 0) k
      have h2 := mxk_least (f := fun t => (List.replicate k (0 : Int)).getD t 0) (k := k) (b := 0) (Int.le_refl 0) (fun t ht => by simp [List.getD_eq_getElem?_getD, List.getElem?_replicate, ht])
      omega
    rw [e, Int.mul_zero]
    exact Int.mul_nonneg (by omega) (mxk_nonneg _ _)
  | succ n ih =>
    intro S T h hpos hd hT
    have hne : S ≠ [] := by intro e; subst e; simp at h
    obtain ⟨R, p, rfl⟩ : ∃ R p, S = R ++ [p] := ⟨S.dropLast, S.getLast hne, (List.dropLast_concat_getLast hne).symm⟩
    have hp : 0 < p := hpos p (by simp)
    have hd2 : Desc R := (List.pairwise_append.1 hd).1
    have hle : ∀ x ∈ R, p ≤ x := fun x hx => (List.pairwise_append.1 hd).2.2 x hx p (by simp)
    obtain ⟨hT2, hl2⟩ := ld_take (by omega) hT
    have h1 := ih R (T.take R.length) (by simpa using h) (fun x hx => hpos x (by simp [hx])) hd2 hT2
    have hgl := grs_length k R
    have hfm := fm_spec (grs k R) (by omega)
    have hO := ld_sum hT
    rw [lsum_append] at hO
    simp only [lsum] at hO
    have hmin := sumk_ge (fun t => (grs k R).getD t 0) ((grs k R).getD (fm (grs k R)) 0) k (fun t ht => hfm.2.1 t (by omega))
    rw [grs_sum hk] at hmin
    have hm0 := grs_nonneg hk R (fun x hx => by have := hpos x (by simp [hx]); omega) (fm (grs k R))
    have hgr := last_great hk (S := R) (T := T) (p := p) hp hd2 hle hT
    have hmx : vmx (grs k (R ++ [p])) = vmx (grs k R) ∨ vmx (grs k (R ++ [p])) = (grs k R).getD (fm (grs k R)) 0 + p := by
      rw [grs_snoc]
      unfold vmx
      rw [gst_length, hgl]
      have e : ∀ t, (gst (grs k R) p).getD t 0 = if t = fm (grs k R) then (grs k R).getD t 0 + p else (grs k R).getD t 0 := fun t => gst_getD (by omega) t
      rcases mxk_at (fun t => (gst (grs k R) p).getD t 0) k with h2 | ⟨t, h2, h3⟩
      · left
        have h4 := mxk_nonneg (fun t => (grs k R).getD t 0) k
        have h5 : mxk (fun t => (grs k R).getD t 0) k ≤ mxk (fun t => (gst (grs k R) p).getD t 0) k := mxk_mono (fun t _ => by rw [e]; split <;> omega)
        omega
      · rw [e] at h3
        by_cases e2 : t = fm (grs k R)
        · right
          rw [if_pos e2, e2] at h3
          exact h3
        · left
          rw [if_neg e2] at h3
          have h5 : mxk (fun t => (grs k R).getD t 0) k ≤ mxk (fun t => (gst (grs k R) p).getD t 0) k := mxk_mono (fun t _ => by rw [e]; split <;> omega)
          have h6 : (grs k R).getD t 0 ≤ mxk (fun t => (grs k R).getD t 0) k := mxk_le (f := fun t => (grs k R).getD t 0) h2
          omega
    have hk5 : k = 1 ∨ k = 2 ∨ k = 3 ∨ k = 4 := by omega
    generalize ld k (R ++ [p]) T = O at *
    generalize ld k R (T.take R.length) = O2 at *
    generalize (grs k R).getD (fm (grs k R)) 0 = m at *
    generalize vmx (grs k R) = V at *
    generalize lsum R = L at *
    by_cases c : O < 3 * p
    · have := hgr c
      rcases hmx with e | e
      · rw [e]; rcases hk5 with rfl | rfl | rfl | rfl <;> omega
      · rw [e]; rcases hk5 with rfl | rfl | rfl | rfl <;> omega
    · rcases hmx with e | e
      · rw [e]; rcases hk5 with rfl | rfl | rfl | rfl <;> omega
      · rw [e]; rcases hk5 with rfl | rfl | rfl | rfl <;> omega
end Go.Proofs.Ytpfbdpeohlohoaa.M
namespace Go.Proofs.Ytpfbdpeohlohoaa.M
set_option linter.unusedVariables false
set_option linter.unusedSimpArgs false
/-- Before, in lexicographic order. -/
def lx : List Int → List Int → Prop
  | a :: s, b :: t => a < b ∨ (a = b ∧ lx s t)
  | _, _ => False
theorem lx_irrefl : ∀ s, ¬ lx s s
  | [] => fun h => h
  | a :: s => fun h => by
    rcases h with h | ⟨_, h⟩
    · omega
    · exact lx_irrefl s h
theorem lx_trans : ∀ {r s t : List Int}, lx r s → lx s t → lx r t
  | [], _, _, h, _ => absurd h (by simp [lx])
  | _ :: _, [], _, h, _ => absurd h (by simp [lx])
  | _ :: _, _ :: _, [], _, h => absurd h (by simp [lx])
  | a :: r, b :: s, c :: t, h, g => by
    simp only [lx] at h g ⊢
    rcases h with h | ⟨h1, h2⟩
    · rcases g with g | ⟨g1, g2⟩
      · exact .inl (by omega)
      · exact .inl (by omega)
    · rcases g with g | ⟨g1, g2⟩
      · exact .inl (by omega)
      · exact .inr ⟨by omega, lx_trans h2 g2⟩
theorem lx_total : ∀ {s t : List Int}, s.length = t.length → s = t ∨ lx s t ∨ lx t s
  | [], [], _ => .inl rfl
  | [], _ :: _, h => absurd h (by simp)
  | _ :: _, [], h => absurd h (by simp)
  | a :: s, b :: t, h => by
    simp only [lx]
    rcases Int.lt_trichotomy a b with h1 | h1 | h1
    · exact .inr (.inl (.inl h1))
    · subst h1
      rcases lx_total (s := s) (t := t) (by simpa using h) with h2 | h2 | h2
      · exact .inl (by rw [h2])
      · exact .inr (.inl (.inr ⟨rfl, h2⟩))
      · exact .inr (.inr (.inr ⟨rfl, h2⟩))
    · exact .inr (.inr (.inl h1))
/-- The first teams with the least load. -/
def First (k : Nat) (l T : List Int) : Prop := Val k l T ∧ ∀ S, Val k l S → ld k l T ≤ ld k l S ∧ (ld k l S = ld k l T → S = T ∨ lx T S)
theorem First.unique {k : Nat} {l T S : List Int} (h : First k l T) (g : First k l S) : T = S := by
  have h1 := h.2 S g.1
  have g1 := g.2 T h.1
  have e : ld k l S = ld k l T := by omega
  rcases h1.2 e with h2 | h2
  · exact h2.symm
  · rcases g1.2 e.symm with g2 | g2
    · exact g2
    · exact absurd (lx_trans h2 g2) (lx_irrefl _)
theorem First.least {k : Nat} {l T : List Int} (h : First k l T) : LL k l (ld k l T) := ⟨⟨T, h.1, rfl⟩, fun S hS => (h.2 S hS).1⟩
/-! ### Counted one by one -/
def nxt (k : Int) : List Int → Option (List Int)
  | [] => none
  | a :: s => match nxt k s with
    | some s' => some (a :: s')
    | none => if a + 1 < k then some ((a + 1) :: List.replicate s.length 0) else none
theorem lx_zeros : ∀ (n : Nat) (u : List Int), (∀ x ∈ u, 0 ≤ x) → ¬ lx u (List.replicate n 0)
  | 0, [], _ => fun h => h
  | 0, _ :: _, _ => fun h => h
  | n + 1, [], _ => fun h => h
  | n + 1, x :: u, h => by
    rw [List.replicate_succ]
    simp only [lx]
    intro h2
    have := h x List.mem_cons_self
    rcases h2 with h2 | ⟨_, h2⟩
    · omega
    · exact lx_zeros n u (fun y hy => h y (List.mem_cons_of_mem _ hy)) h2
theorem nxt_none {k : Int} : ∀ {T : List Int}, nxt k T = none → ∀ S : List Int, S.length = T.length → (∀ x ∈ S, 0 ≤ x ∧ x < k) → S = T ∨ lx S T
  | [], _, S, hl, _ => .inl (List.length_eq_zero_iff.1 hl)
  | a :: s, h, [], hl, _ => absurd hl (by simp)
  | a :: s, h, b :: u, hl, hv => by
    unfold nxt at h
    revert h
    cases hn : nxt k s with
    | some s' => intro h; exact absurd h (by simp)
    | none =>
      intro h
      dsimp only at h
      have ha : ¬ a + 1 < k := fun h2 => by rw [if_pos h2] at h; exact absurd h (by simp)
      have hb := hv b List.mem_cons_self
      simp only [lx]
      by_cases e : b = a
      · subst e
        rcases nxt_none hn u (by simpa using hl) (fun x hx => hv x (List.mem_cons_of_mem _ hx)) with h1 | h1
        · exact .inl (by rw [h1])
        · exact .inr (.inr ⟨rfl, h1⟩)
      · exact .inr (.inl (by omega))
theorem nxt_some {k : Int} : ∀ {T T' : List Int}, nxt k T = some T' → (∀ x ∈ T, 0 ≤ x ∧ x < k) → T'.length = T.length ∧ (∀ x ∈ T', 0 ≤ x ∧ x < k) ∧ ∀ S : List Int, S.length = T.length → (∀ x ∈ S, 0 ≤ x ∧ x < k) → (lx S T' ↔ (S = T ∨ lx S T))
  | [], _, h, _ => absurd h (by simp [nxt])
  | a :: s, T', h, hT => by
    unfold nxt at h
    have hs : ∀ x ∈ s, 0 ≤ x ∧ x < k := fun x hx => hT x (List.mem_cons_of_mem _ hx)
    have ha := hT a List.mem_cons_self
    revert h
    cases hn : nxt k s with
    | some s' =>
      intro h
      dsimp only at h
      obtain rfl := Option.some.inj h
      obtain ⟨h1, h2, h3⟩ := nxt_some hn hs
      refine ⟨by simp [h1], fun x hx => by rcases List.mem_cons.1 hx with rfl | hx; exact ha; exact h2 x hx, fun S hl hv => ?_⟩
      cases S with
      | nil => exact absurd hl (by simp)
      | cons b u =>
        have := h3 u (by simpa using hl) (fun x hx => hv x (List.mem_cons_of_mem _ hx))
        simp only [lx, this, List.cons.injEq]
        constructor
        · rintro (h | ⟨h, h4 | h4⟩)
          · exact .inr (.inl h)
          · exact .inl ⟨h, h4⟩
          · exact .inr (.inr ⟨h, h4⟩)
        · rintro (⟨h, h4⟩ | h | ⟨h, h4⟩)
          · exact .inr ⟨h, .inl h4⟩
          · exact .inl h
          · exact .inr ⟨h, .inr h4⟩
    | none =>
      intro h
      dsimp only at h
      by_cases c : a + 1 < k
      · rw [if_pos c] at h
        obtain rfl := Option.some.inj h
        refine ⟨by simp, fun x hx => ?_, fun S hl hv => ?_⟩
        · rcases List.mem_cons.1 hx with rfl | hx
          · omega
          · have := List.eq_of_mem_replicate hx; omega
        · cases S with
          | nil => exact absurd hl (by simp)
          | cons b u =>
            have hu : ∀ x ∈ u, 0 ≤ x ∧ x < k := fun x hx => hv x (List.mem_cons_of_mem _ hx)
            have h1 := nxt_none hn u (by simpa using hl) hu
            have h2 := lx_zeros s.length u (fun x hx => (hu x hx).1)
            simp only [lx, List.cons.injEq]
            constructor
            · rintro (h | ⟨_, h⟩)
              · by_cases e : b = a
                · rcases h1 with h1 | h1
                  · exact .inl ⟨e, h1⟩
                  · exact .inr (.inr ⟨e, h1⟩)
                · exact .inr (.inl (by omega))
              · exact absurd h h2
            · rintro (⟨h, _⟩ | h | ⟨h, _⟩)
              · exact .inl (by omega)
              · exact .inl (by omega)
              · exact .inl (by omega)
      · rw [if_neg c] at h
        exact absurd h (by simp)
/-- What is known of the best one when all teams before T have been tried. -/
def Upto (k : Nat) (l T B : List Int) : Prop := Val k l B ∧ lx B T ∧ ∀ S, Val k l S → lx S T → ld k l B ≤ ld k l S ∧ (ld k l S = ld k l B → S = B ∨ lx B S)
def better (k : Nat) (l : List Int) (B : Option (List Int)) (T : List Int) : List Int := match B with
  | none => T
  | some b => if ld k l T < ld k l b then T else b
def UptoO (k : Nat) (l T : List Int) : Option (List Int) → Prop
  | none => ∀ S, Val k l S → ¬ lx S T
  | some b => Upto k l T b
theorem better_spec {k : Nat} {l T : List Int} {B : Option (List Int)} (hT : Val k l T) (h : UptoO k l T B) : Val k l (better k l B T) ∧ (better k l B T = T ∨ lx (better k l B T) T) ∧ ∀ S, Val k l S → (S = T ∨ lx S T) → ld k l (better k l B T) ≤ ld k l S ∧ (ld k l S = ld k l (better k l B T) → S = better k l B T ∨ lx (better k l B T) S) := by
  cases B with
  | none =>
    refine ⟨hT, .inl rfl, fun S hS hh => ?_⟩
    rcases hh with rfl | hh
    · exact ⟨Int.le_refl _, fun _ => .inl rfl⟩
    · exact absurd hh (h S hS)
  | some b =>
    obtain ⟨h1, h2, h3⟩ := h
    unfold better
    dsimp only
    by_cases c : ld k l T < ld k l b
    · rw [if_pos c]
      refine ⟨hT, .inl rfl, fun S hS hh => ?_⟩
      rcases hh with rfl | hh
      · exact ⟨Int.le_refl _, fun _ => .inl rfl⟩
      · have := (h3 S hS hh).1
        exact ⟨by omega, fun e => by omega⟩
    · rw [if_neg c]
      refine ⟨h1, .inr h2, fun S hS hh => ?_⟩
      rcases hh with rfl | hh
      · exact ⟨by omega, fun _ => .inr h2⟩
      · exact h3 S hS hh
theorem upto_next {k : Nat} {l T T' : List Int} {B : Option (List Int)} (hT : Val k l T) (h : UptoO k l T B) (hn : nxt k T = some T') : Val k l T' ∧ UptoO k l T' (some (better k l B T)) := by
  obtain ⟨h1, h2, h3⟩ := nxt_some hn hT.2
  obtain ⟨b1, b2, b3⟩ := better_spec hT h
  refine ⟨⟨h1.trans hT.1, h2⟩, b1, (h3 _ (b1.1.trans hT.1.symm) b1.2).2 b2, fun S hS hh => b3 S hS ((h3 S (hS.1.trans hT.1.symm) hS.2).1 hh)⟩
theorem upto_end {k : Nat} {l T : List Int} {B : Option (List Int)} (hT : Val k l T) (h : UptoO k l T B) (hn : nxt k T = none) : First k l (better k l B T) := by
  obtain ⟨b1, _, b3⟩ := better_spec hT h
  exact ⟨b1, fun S hS => b3 S hS (nxt_none hn S (hS.1.trans hT.1.symm) hS.2)⟩
/-- A number that falls by one at each step. -/
def top (k : Nat) : List Int → Nat
  | [] => 0
  | a :: s => (k - 1 - a.toNat) * k ^ s.length + top k s
theorem nxt_top {k : Nat} : ∀ {T T' : List Int}, nxt k T = some T' → (∀ x ∈ T, 0 ≤ x ∧ x < (k : Int)) → top k T' < top k T
  | [], _, h, _ => absurd h (by simp [nxt])
  | a :: s, T', h, hT => by
    have hs : ∀ x ∈ s, 0 ≤ x ∧ x < (k : Int) := fun x hx => hT x (List.mem_cons_of_mem _ hx)
    have ha := hT a List.mem_cons_self
    unfold nxt at h
    revert h
    cases hn : nxt k s with
    | some s' =>
      intro h
      dsimp only at h
      obtain rfl := Option.some.inj h
      have h1 := nxt_top hn hs
      have h2 := (nxt_some hn hs).1
      simp only [top, h2]
      omega
    | none =>
      intro h
      dsimp only at h
      by_cases c : a + 1 < (k : Int)
      · rw [if_pos c] at h
        obtain rfl := Option.some.inj h
        have hz : ∀ n : Nat, top k (List.replicate n 0) < k ^ n := by
          intro n
          induction n with
          | zero => simp [top]
          | succ n ih =>
            rw [List.replicate_succ]
            simp only [top, List.length_replicate, Int.toNat_zero, Nat.sub_zero]
            have hk : 0 < k := by omega
            rw [Nat.pow_succ, Nat.sub_mul, Nat.one_mul, Nat.mul_comm]
            have : k ^ n ≤ k ^ n * k := Nat.le_mul_of_pos_right _ hk
            omega
        have hz1 := hz s.length
        simp only [top, List.length_replicate]
        have e : k - 1 - a.toNat = (k - 1 - (a + 1).toNat) + 1 := by omega
        rw [e, Nat.add_mul, Nat.one_mul]
        omega
      · rw [if_neg c] at h
        exact absurd h (by simp)
theorem zeros_start (k : Nat) (l : List Int) (hk : 0 < k) : Val k l (List.replicate l.length 0) ∧ UptoO k l (List.replicate l.length 0) none :=
  ⟨⟨by simp, fun x hx => by have := List.eq_of_mem_replicate hx; omega⟩, fun S hS => lx_zeros _ S (fun x hx => (hS.2 x hx).1)⟩
/-! ### Teams that never leave out a team -/
def Can (k : Int) : Int → List Int → Prop
  | _, [] => True
  | u, t :: T => 0 ≤ t ∧ t ≤ u ∧ t < k ∧ Can k (if u < t + 1 then t + 1 else u) T
theorem Can.val {k : Int} : ∀ {T : List Int} {u : Int}, Can k u T → ∀ x ∈ T, 0 ≤ x ∧ x < k
  | [], _, _ => fun x hx => by simp at hx
  | t :: T, u, h => fun x hx => by
    rcases List.mem_cons.1 hx with rfl | hx
    · exact ⟨h.1, h.2.2.1⟩
    · exact Can.val h.2.2.2 x hx
def sw (a b x : Int) : Int := if x = a then b else if x = b then a else x
theorem sw_sw (a b x : Int) : sw a b (sw a b x) = x := by
  unfold sw
  by_cases h1 : x = a
  · rw [if_pos h1]
    by_cases h2 : b = a
    · rw [if_pos h2]; omega
    · rw [if_neg h2, if_pos rfl]; omega
  · rw [if_neg h1]
    by_cases h2 : x = b
    · rw [if_pos h2, if_pos rfl]; omega
    · rw [if_neg h2, if_neg h1, if_neg h2]
structure Rel (k u : Int) (f g : Int → Int) : Prop where
  f0 : ∀ x, 0 ≤ x → x < k → 0 ≤ f x ∧ f x < k
  g0 : ∀ x, 0 ≤ x → x < k → 0 ≤ g x ∧ g x < k
  gf : ∀ x, 0 ≤ x → x < k → g (f x) = x
  fg : ∀ x, 0 ≤ x → x < k → f (g x) = x
  fu : ∀ x, 0 ≤ x → x < u → f x = x
/-- Renaming the teams by their first pulls: never later, in lexicographic order. -/
theorem canon (k : Int) : ∀ (T : List Int) (u : Int), 0 ≤ u → (∀ x ∈ T, 0 ≤ x ∧ x < k) → ∃ f g, Rel k u f g ∧ Can k u (T.map f) ∧ (T.map f = T ∨ lx (T.map f) T)
  | [], u, _, _ => ⟨id, id, ⟨fun _ h1 h2 => ⟨h1, h2⟩, fun _ h1 h2 => ⟨h1, h2⟩, fun _ _ _ => rfl, fun _ _ _ => rfl, fun _ _ _ => rfl⟩, trivial, .inl rfl⟩
  | t :: T, u, hu, hv => by
    have ht := hv t List.mem_cons_self
    have hT : ∀ x ∈ T, 0 ≤ x ∧ x < k := fun x hx => hv x (List.mem_cons_of_mem _ hx)
    by_cases c : t ≤ u
    · obtain ⟨f, g, hr, h1, h2⟩ := canon k T (if u < t + 1 then t + 1 else u) (by split <;> omega) hT
      have ft : f t = t := hr.fu t ht.1 (by split <;> omega)
      refine ⟨f, g, ⟨hr.f0, hr.g0, hr.gf, hr.fg, fun x h3 h4 => hr.fu x h3 (by split <;> omega)⟩, ?_, ?_⟩
      · rw [List.map_cons, ft]
        exact ⟨ht.1, c, ht.2, h1⟩
      · rw [List.map_cons, ft]
        rcases h2 with h2 | h2
        · exact .inl (by rw [h2])
        · exact .inr (.inr ⟨rfl, h2⟩)
    · have hs : ∀ x, 0 ≤ x → x < k → 0 ≤ sw t u x ∧ sw t u x < k := fun x h1 h2 => by unfold sw; split <;> (try split) <;> omega
      obtain ⟨f, g, hr, h1, h2⟩ := canon k (T.map (sw t u)) (u + 1) (by omega) (fun x hx => by
        obtain ⟨y, hy, rfl⟩ := List.mem_map.1 hx
        exact hs y (hT y hy).1 (hT y hy).2)
      have ft : f (sw t u t) = u := by
        have : sw t u t = u := by unfold sw; rw [if_pos rfl]
        rw [this]
        exact hr.fu u hu (by omega)
      refine ⟨fun x => f (sw t u x), fun x => sw t u (g x), ⟨fun x h3 h4 => ?_, fun x h3 h4 => ?_, fun x h3 h4 => ?_, fun x h3 h4 => ?_, fun x h3 h4 => ?_⟩, ?_, ?_⟩
      · have := hs x h3 h4; exact hr.f0 _ this.1 this.2
      · have := hr.g0 x h3 h4; exact hs _ this.1 this.2
      · have := hs x h3 h4
        show sw t u (g (f (sw t u x))) = x
        rw [hr.gf _ this.1 this.2, sw_sw]
      · show f (sw t u (sw t u (g x))) = x
        rw [sw_sw, hr.fg x h3 h4]
      · show f (sw t u x) = x
        have : sw t u x = x := by unfold sw; rw [if_neg (by omega), if_neg (by omega)]
        rw [this]
        exact hr.fu x h3 (by omega)
      · rw [List.map_cons]
        show Can k u (f (sw t u t) :: _)
        rw [ft]
        refine ⟨hu, Int.le_refl _, by omega, ?_⟩
        rw [if_pos (by omega)]
        rw [List.map_map] at h1
        exact h1
      · rw [List.map_cons]
        right
        show lx (f (sw t u t) :: _) _
        rw [ft]
        exact .inl (by omega)
termination_by T => T.length
decreasing_by all_goals simp
theorem tl_map {k : Int} {f g : Int → Int} {u : Int} (hr : Rel k u f g) : ∀ {l T : List Int} {t : Int}, (∀ x ∈ T, 0 ≤ x ∧ x < k) → 0 ≤ t → t < k → tl l (T.map f) (f t) = tl l T t
  | [], T, _, _, _, _ => by simp [tl]
  | _ :: _, [], _, _, _, _ => by simp [tl]
  | p :: l, x :: T, t, h, h1, h2 => by
    have hx := h x List.mem_cons_self
    simp only [List.map_cons, tl, tl_map hr (l := l) (T := T) (fun y hy => h y (List.mem_cons_of_mem _ hy)) h1 h2]
    by_cases e : x = t
    · rw [if_pos e, if_pos (by rw [e])]
    · rw [if_neg e, if_neg (fun e2 => e (by rw [← hr.gf x hx.1 hx.2, e2, hr.gf t h1 h2]))]
theorem ld_map {k : Nat} {f g : Int → Int} {u : Int} (hr : Rel k u f g) {l T : List Int} (h : ∀ x ∈ T, 0 ≤ x ∧ x < (k : Int)) : ld k l (T.map f) = ld k l T := by
  have h1 : ld k l T ≤ ld k l (T.map f) := mxk_least (mxk_nonneg _ _) (fun t ht => by
    have h2 := hr.f0 (t : Int) (by omega) (by omega)
    rw [← tl_map hr h (t := (t : Int)) (by omega) (by omega)]
    obtain ⟨n, hn⟩ : ∃ n : Nat, f (t : Int) = (n : Int) := ⟨(f t).toNat, by omega⟩
    rw [hn]
    exact mxk_le (f := fun t : Nat => tl l (T.map f) (t : Int)) (by omega))
  have h2 : ld k l (T.map f) ≤ ld k l T := mxk_least (mxk_nonneg _ _) (fun t ht => by
    have h2 := hr.g0 (t : Int) (by omega) (by omega)
    have h3 := tl_map hr (l := l) h h2.1 h2.2
    rw [hr.fg (t : Int) (by omega) (by omega)] at h3
    rw [h3]
    obtain ⟨n, hn⟩ : ∃ n : Nat, g (t : Int) = (n : Int) := ⟨(g t).toNat, by omega⟩
    rw [hn]
    exact mxk_le (f := fun t : Nat => tl l T (t : Int)) (by omega))
  omega
/-- What one part of the search comes to: the best one so far, against all teams of the part. -/
def Srch (k : Nat) (l : List Int) (U : List Int → Prop) (b : Int) (o : List Int) (b' : Int) (o' : List Int) : Prop :=
  (b' = b ∧ o' = o ∧ ∀ S, U S → 0 ≤ b ∧ b ≤ ld k l S) ∨ (U o' ∧ b' = ld k l o' ∧ (b < 0 ∨ b' < b) ∧ ∀ S, U S → b' ≤ ld k l S ∧ (ld k l S = b' → S = o' ∨ lx o' S))
theorem Srch.seq {k : Nat} {l : List Int} {U V : List Int → Prop} {b b1 b2 : Int} {o o1 o2 : List Int} (h : Srch k l U b o b1 o1) (g : Srch k l V b1 o1 b2 o2) (hUV : ∀ S T, U S → V T → lx S T) : Srch k l (fun S => U S ∨ V S) b o b2 o2 := by
  rcases h with ⟨rfl, rfl, h⟩ | ⟨h1, h2, h3, h4⟩
  · rcases g with ⟨rfl, rfl, g⟩ | ⟨g1, g2, g3, g4⟩
    · exact .inl ⟨rfl, rfl, fun S hS => hS.elim (h S) (g S)⟩
    · refine .inr ⟨.inr g1, g2, g3, fun S hS => hS.elim (fun hS => ?_) (g4 S)⟩
      have := h S hS
      exact ⟨by omega, fun e => by omega⟩
  · have h0 : 0 ≤ b1 := by rw [h2]; exact mxk_nonneg _ _
    rcases g with ⟨rfl, rfl, g⟩ | ⟨g1, g2, g3, g4⟩
    · exact .inr ⟨.inl h1, h2, h3, fun S hS => hS.elim (h4 S) (fun hS => ⟨(g S hS).2, fun _ => .inr (hUV _ _ h1 hS)⟩)⟩
    · refine .inr ⟨.inr g1, g2, by omega, fun S hS => hS.elim (fun hS => ?_) (g4 S)⟩
      have := (h4 S hS).1
      exact ⟨by omega, fun e => by omega⟩
theorem Srch.skip {k : Nat} {l : List Int} {U : List Int → Prop} {b : Int} {o : List Int} (h : ∀ S, U S → 0 ≤ b ∧ b ≤ ld k l S) : Srch k l U b o b o := .inl ⟨rfl, rfl, h⟩
theorem Srch.congr {k : Nat} {l : List Int} {U V : List Int → Prop} {b b1 : Int} {o o1 : List Int} (h : Srch k l U b o b1 o1) (e : ∀ S, U S ↔ V S) : Srch k l V b o b1 o1 := by
  have : U = V := funext fun S => propext (e S)
  subst this
  exact h
/-- The whole search. -/
theorem Srch.first {k : Nat} {l : List Int} {b : Int} {o o0 : List Int} (hk : 0 < k) (h : Srch k l (fun S => S.length = l.length ∧ Can k 0 S) (-1) o0 b o) : First k l o ∧ b = ld k l o := by
  rcases h with ⟨_, _, h⟩ | ⟨h1, h2, h3, h4⟩
  · obtain ⟨f, g, hr, h1, _⟩ := canon (k : Int) (List.replicate l.length 0) 0 (Int.le_refl 0) (fun x hx => by have := List.eq_of_mem_replicate hx; omega)
    exact absurd (h _ ⟨by simp, h1⟩).1 (by omega)
  · refine ⟨⟨⟨h1.1, h1.2.val⟩, fun S hS => ?_⟩, h2⟩
    obtain ⟨f, g, hr, c1, c2⟩ := canon (k : Int) S 0 (Int.le_refl 0) hS.2
    have h5 := h4 (S.map f) ⟨by simp [hS.1], c1⟩
    rw [ld_map hr hS.2, h2] at h5
    refine ⟨h5.1, fun e => ?_⟩
    rcases h5.2 e with h6 | h6
    · rcases c2 with c2 | c2
      · exact .inl (c2.symm.trans h6)
      · exact .inr (by rw [← h6]; exact c2)
    · rcases c2 with c2 | c2
      · exact .inr (by rw [← c2]; exact h6)
      · exact .inr (lx_trans h6 c2)
end Go.Proofs.Ytpfbdpeohlohoaa.M
namespace Go.Proofs.Ytpfbdpeohlohoaa.M
set_option linter.unusedVariables false
set_option linter.unusedSimpArgs false
def dsort (l : List Int) : List Int := l.mergeSort (fun a b => decide (b ≤ a))
theorem dsort_perm (l : List Int) : (dsort l).Perm l := List.mergeSort_perm l _
theorem dsort_length (l : List Int) : (dsort l).length = l.length := (dsort_perm l).length_eq
theorem dsort_desc (l : List Int) : (dsort l).Pairwise (fun a b => b ≤ a) := by
  have h := List.pairwise_mergeSort (le := fun a b : Int => decide (b ≤ a)) (fun a b c h1 h2 => by simp only [decide_eq_true_iff] at *; omega) (fun a b => by simp only [Bool.or_eq_true, decide_eq_true_iff]; omega) l
  exact h.imp (fun {a b} h => of_decide_eq_true h)
theorem dsort_unique {xs ys : List Int} (hp : ys.Perm xs) (hs : ys.Pairwise (fun a b => b ≤ a)) : dsort xs = ys := by
  refine List.Perm.eq_of_pairwise (le := fun a b => b ≤ a) ?_ (dsort_desc xs) hs ((dsort_perm xs).trans hp.symm)
  intro a b _ _ h1 h2
  omega
theorem dsort_congr {xs ys : List Int} (hp : xs.Perm ys) : dsort xs = dsort ys := dsort_unique ((dsort_perm ys).trans hp.symm) (dsort_desc ys)
theorem dsort_scale {t : Int} (ht : 0 < t) (l : List Int) : dsort (l.map (t * ·)) = (dsort l).map (t * ·) := by
  refine dsort_unique ((dsort_perm l).map _) ?_
  rw [List.pairwise_map]
  exact (dsort_desc l).imp (fun {a b} h => Int.mul_le_mul_of_nonneg_left h (by omega))
/-- The result of differencing: n rounds. -/
def kvf : Nat → List Int → Int
  | 0, l => l.headD 0
  | n + 1, l => match dsort l with
    | a :: b :: r => kvf n ((a - b) :: r)
    | _ => l.headD 0
theorem kvf_perm : ∀ (n : Nat) {l l' : List Int}, l.Perm l' → l.length = n + 1 → kvf n l = kvf n l'
  | 0, l, l', hp, hl => by
    match l, l', hl, hp with
    | [a], l', _, hp =>
      have := List.perm_singleton.1 hp.symm
      rw [this]
  | n + 1, l, l', hp, hl => by
    have hd := dsort_length l
    unfold kvf
    rw [← dsort_congr hp]
    match h : dsort l with
    | [] => rw [h] at hd; simp at hd; omega
    | [_] => rw [h] at hd; simp at hd; omega
    | a :: b :: r => rfl
theorem kvf_scale {t : Int} (ht : 0 < t) : ∀ (n : Nat) (l : List Int), l.length = n + 1 → kvf n (l.map (t * ·)) = t * kvf n l
  | 0, l, hl => by
    match l, hl with
    | [a], _ => rfl
  | n + 1, l, hl => by
    have hd := dsort_length l
    unfold kvf
    rw [dsort_scale ht]
    match h : dsort l with
    | [] => rw [h] at hd; simp at hd; omega
    | [_] => rw [h] at hd; simp at hd; omega
    | a :: b :: r =>
      have e : (t * a - t * b) :: r.map (t * ·) = ((a - b) :: r).map (t * ·) := by rw [List.map_cons, Int.mul_sub]
      simp only [List.map_cons]
      rw [e]
      exact kvf_scale ht n _ (by rw [h] at hd; simp at hd ⊢; omega)
theorem kv1 (x y : Int) : kvf 1 [x, y] = ab (x - y) := by
  unfold ab
  by_cases h : y ≤ x
  · have e : dsort [x, y] = [x, y] := dsort_unique (List.Perm.refl _) (by simp [h])
    rw [if_neg (by omega)]
    simp [kvf, e]
  · have e : dsort [x, y] = [y, x] := dsort_unique (List.Perm.swap _ _ _) (by simp; omega)
    simp only [kvf, e, List.headD_cons]
    split <;> omega
theorem kv2 {x r s : Int} (h : s ≤ r) : kvf 2 [x, r, s] = if r ≤ x then ab (x - r - s) else if s ≤ x then ab (r - x - s) else ab (r - s - x) := by
  by_cases h1 : r ≤ x
  · have e : dsort [x, r, s] = [x, r, s] := dsort_unique (List.Perm.refl _) (by simp; omega)
    rw [if_pos h1, ← kv1 (x - r) s]
    rw [kvf]
    simp only [e]
  · rw [if_neg h1]
    by_cases h2 : s ≤ x
    · have e : dsort [x, r, s] = [r, x, s] := dsort_unique (List.Perm.swap _ _ _) (by simp; omega)
      rw [if_pos h2, ← kv1 (r - x) s]
      rw [kvf]
      simp only [e]
    · have e : dsort [x, r, s] = [r, s, x] := dsort_unique ((List.Perm.cons r (List.Perm.swap _ _ _)).trans (List.Perm.swap _ _ _)) (by simp; omega)
      rw [if_neg h2, ← kv1 (r - s) x]
      rw [kvf]
      simp only [e]
theorem kv_desc (n : Nat) {a b : Int} {r : List Int} (h : (a :: b :: r).Pairwise (fun a b => b ≤ a)) : kvf (n + 1) (a :: b :: r) = kvf n ((a - b) :: r) := by
  rw [kvf]
  simp only [dsort_unique (List.Perm.refl _) h]
/-- With at most four pulls no signed sum is less. -/
theorem kv_le : ∀ (n : Nat) (S : List Int), S.length = n + 1 → n ≤ 3 → (∀ p ∈ S, 0 ≤ p) → S.Pairwise (fun a b => b ≤ a) → ∀ a c, Reach S a c → kvf n S ≤ ab a
  | 0, S, hl, _, hp, hd, a, c, hr => by
    match S, hl with
    | [p], _ =>
      have := hp p (by simp)
      simp only [kvf, List.headD_cons]
      unfold ab
      cases hr with
      | plus _ h => cases h; split <;> omega
      | minus _ h => cases h; split <;> omega
  | 1, S, hl, _, hp, hd, a, c, hr => by
    match S, hl with
    | [p, q], _ =>
      have h1 := hp p (by simp)
      have h2 := hp q (by simp)
      have h3 : q ≤ p := by simpa using hd
      rw [kv1]
      unfold ab
      cases hr with
      | plus _ h =>
        cases h with
        | plus _ h => cases h; split <;> split <;> omega
        | minus _ h => cases h; split <;> split <;> omega
      | minus _ h =>
        cases h with
        | plus _ h => cases h; split <;> split <;> omega
        | minus _ h => cases h; split <;> split <;> omega
  | 2, S, hl, _, hp, hd, a, c, hr => by
    match S, hl with
    | [p, q, r], _ =>
      have h1 := hp p (by simp)
      have h2 := hp q (by simp)
      have h4 := hp r (by simp)
      have h3 : (q ≤ p ∧ r ≤ p) ∧ r ≤ q := by simpa using hd
      rw [kv_desc 1 hd, kv1]
      unfold ab
      cases hr with
      | plus _ h =>
        cases h with
        | plus _ h =>
          cases h with
          | plus _ h => cases h; split <;> split <;> omega
          | minus _ h => cases h; split <;> split <;> omega
        | minus _ h =>
          cases h with
          | plus _ h => cases h; split <;> split <;> omega
          | minus _ h => cases h; split <;> split <;> omega
      | minus _ h =>
        cases h with
        | plus _ h =>
          cases h with
          | plus _ h => cases h; split <;> split <;> omega
          | minus _ h => cases h; split <;> split <;> omega
        | minus _ h =>
          cases h with
          | plus _ h => cases h; split <;> split <;> omega
          | minus _ h => cases h; split <;> split <;> omega
  | 3, S, hl, _, hp, hd, a, c, hr => by
    match S, hl with
    | [p, q, r, s], _ =>
      have h1 := hp p (by simp)
      have h2 := hp q (by simp)
      have h4 := hp r (by simp)
      have h5 := hp s (by simp)
      have h3 : q ≤ p ∧ r ≤ q ∧ s ≤ r := by
        have h6 := List.pairwise_iff_getElem.1 hd
        have a1 := h6 0 1 (by simp) (by simp) (by omega)
        have a2 := h6 1 2 (by simp) (by simp) (by omega)
        have a3 := h6 2 3 (by simp) (by simp) (by omega)
        simp at a1 a2 a3
        exact ⟨a1, a2, a3⟩
      rw [kv_desc 2 hd, kv2 h3.2.2]
      have key : ∀ e1 e2 e3 e4 : Int, (e1 = 1 ∨ e1 = -1) → (e2 = 1 ∨ e2 = -1) → (e3 = 1 ∨ e3 = -1) → (e4 = 1 ∨ e4 = -1) → (if r ≤ p - q then ab (p - q - r - s) else if s ≤ p - q then ab (r - (p - q) - s) else ab (r - s - (p - q))) ≤ ab (p * e1 + q * e2 + r * e3 + s * e4) := by
        rintro e1 e2 e3 e4 (rfl | rfl) (rfl | rfl) (rfl | rfl) (rfl | rfl) <;> (unfold ab; (repeat' split) <;> omega)
      have sgn : ∀ {l : List Int} {x : Int} {a c : Int}, Reach (x :: l) a c → ∃ e b d, (e = 1 ∨ e = -1) ∧ a = b + x * e ∧ Reach l b d := by
        intro l x a c h
        cases h with
        | plus _ h => exact ⟨1, _, _, .inl rfl, by omega, h⟩
        | minus _ h => exact ⟨-1, _, _, .inr rfl, by omega, h⟩
      obtain ⟨e1, b1, _, g1, rfl, r1⟩ := sgn hr
      obtain ⟨e2, b2, _, g2, rfl, r2⟩ := sgn r1
      obtain ⟨e3, b3, _, g3, rfl, r3⟩ := sgn r2
      obtain ⟨e4, b4, _, g4, rfl, r4⟩ := sgn r3
      cases r4
      have := key e1 e2 e3 e4 g1 g2 g3 g4
      have e : 0 + s * e4 + r * e3 + q * e2 + p * e1 = p * e1 + q * e2 + r * e3 + s * e4 := by omega
      rw [e]
      exact this
  | n + 4, S, hl, h, _, _, _, _, _ => absurd h (by omega)
end Go.Proofs.Ytpfbdpeohlohoaa.M
