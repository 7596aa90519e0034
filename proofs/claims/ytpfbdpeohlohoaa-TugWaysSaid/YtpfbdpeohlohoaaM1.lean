/- Plain: sides of pulls, and the signed sums that they reach: what is true of them for whatever pulls. No condition. -/
namespace Go.Proofs.Ytpfbdpeohlohoaa.M
set_option linter.unusedVariables false
set_option linter.unusedSimpArgs false
/-- The signed sum of pulls by sides. -/
def sg : List Int → List Int → Int
  | p :: l, x :: s => p * (1 - 2 * x) + sg l s
  | _, _ => 0
/-- How many more are on side 0 than on side 1. -/
def cnt : List Int → Int
  | [] => 0
  | x :: s => (1 - 2 * x) + cnt s
def Bin (s : List Int) : Prop := ∀ x ∈ s, x = 0 ∨ x = 1
def ab (x : Int) : Int := if x < 0 then -x else x
def dif (l s : List Int) : Int := ab (sg l s)
def lsum : List Int → Int
  | [] => 0
  | p :: l => p + lsum l
inductive Reach : List Int → Int → Int → Prop
  | nil : Reach [] 0 0
  | plus {l : List Int} {s c : Int} (p : Int) : Reach l s c → Reach (p :: l) (s + p) (c + 1)
  | minus {l : List Int} {s c : Int} (p : Int) : Reach l s c → Reach (p :: l) (s - p) (c - 1)
theorem Reach.to {l : List Int} {s c s' c' : Int} (h : Reach l s c) (e1 : s = s') (e2 : c = c') : Reach l s' c' := by subst e1; subst e2; exact h
theorem reach_of : ∀ (l s : List Int), Bin s → s.length = l.length → Reach l (sg l s) (cnt s)
  | [], [], _, _ => Reach.nil
  | p :: l, x :: s, hb, hl => by
    have ih := reach_of l s (fun y hy => hb y (List.mem_cons_of_mem _ hy)) (by simpa using hl)
    rcases hb x (List.mem_cons_self) with rfl | rfl
    · exact (Reach.plus p ih).to (by simp [sg]; omega) (by simp [cnt]; omega)
    · exact (Reach.minus p ih).to (by simp [sg]; omega) (by simp [cnt]; omega)
theorem Reach.sides {l : List Int} {a c : Int} (h : Reach l a c) : ∃ s, Bin s ∧ s.length = l.length ∧ sg l s = a ∧ cnt s = c := by
  induction h with
  | nil => exact ⟨[], fun _ h => by simp at h, rfl, rfl, rfl⟩
  | plus p _ ih =>
    obtain ⟨s, h1, h2, h3, h4⟩ := ih
    exact ⟨0 :: s, fun y hy => by rcases List.mem_cons.1 hy with rfl | hy; exact .inl rfl; exact h1 y hy, by simp [h2], by simp [sg]; omega, by simp [cnt]; omega⟩
  | minus p _ ih =>
    obtain ⟨s, h1, h2, h3, h4⟩ := ih
    exact ⟨1 :: s, fun y hy => by rcases List.mem_cons.1 hy with rfl | hy; exact .inr rfl; exact h1 y hy, by simp [h2], by simp [sg]; omega, by simp [cnt]; omega⟩
theorem Reach.neg {l : List Int} {a c : Int} (h : Reach l a c) : Reach l (-a) (-c) := by
  induction h with
  | nil => exact Reach.nil
  | plus p _ ih => exact (Reach.minus p ih).to (by omega) (by omega)
  | minus p _ ih => exact (Reach.plus p ih).to (by omega) (by omega)
/-- .. with the first pull on side 0, the sum or its opposite. -/
theorem Reach.first {p : Int} {l : List Int} {a c : Int} (h : Reach (p :: l) a c) : ∃ s, Bin s ∧ s.length = l.length ∧ ((sg (p :: l) (0 :: s) = a ∧ cnt (0 :: s) = c) ∨ (sg (p :: l) (0 :: s) = -a ∧ cnt (0 :: s) = -c)) := by
  cases h with
  | plus _ h =>
    obtain ⟨s, h1, h2, h3, h4⟩ := h.sides
    exact ⟨s, h1, h2, .inl ⟨by simp [sg]; omega, by simp [cnt]; omega⟩⟩
  | minus _ h =>
    obtain ⟨s, h1, h2, h3, h4⟩ := h.neg.sides
    exact ⟨s, h1, h2, .inr ⟨by simp [sg]; omega, by simp [cnt]; omega⟩⟩
theorem Reach.perm {l l' : List Int} (hp : l.Perm l') : ∀ {a c : Int}, Reach l a c → Reach l' a c := by
  induction hp with
  | nil => exact fun h => h
  | cons x _ ih =>
    intro a c h
    cases h with
    | plus _ h => exact Reach.plus x (ih h)
    | minus _ h => exact Reach.minus x (ih h)
  | swap x y l =>
    intro a c h
    cases h with
    | plus _ h =>
      cases h with
      | plus _ h => exact (Reach.plus x (Reach.plus y h)).to (by omega) (by omega)
      | minus _ h => exact (Reach.minus x (Reach.plus y h)).to (by omega) (by omega)
    | minus _ h =>
      cases h with
      | plus _ h => exact (Reach.plus x (Reach.minus y h)).to (by omega) (by omega)
      | minus _ h => exact (Reach.minus x (Reach.minus y h)).to (by omega) (by omega)
  | trans _ _ ih1 ih2 => exact fun h => ih2 (ih1 h)
theorem Reach.scale (t : Int) {l : List Int} {a c : Int} (h : Reach l a c) : Reach (l.map (t * ·)) (t * a) c := by
  induction h with
  | nil => exact Reach.nil.to (by simp) rfl
  | plus p _ ih => exact (Reach.plus (t * p) ih).to (by rw [Int.mul_add]) rfl
  | minus p _ ih => exact (Reach.minus (t * p) ih).to (by rw [Int.mul_sub]) rfl
theorem Reach.unscale (t : Int) : ∀ {l : List Int} {b c : Int}, Reach (l.map (t * ·)) b c → ∃ a, b = t * a ∧ Reach l a c
  | [], _, _, h => by cases h; exact ⟨0, by simp, Reach.nil⟩
  | p :: l, _, _, h => by
    cases h with
    | plus _ h =>
      obtain ⟨a, rfl, h2⟩ := Reach.unscale t h
      exact ⟨a + p, by rw [Int.mul_add], Reach.plus p h2⟩
    | minus _ h =>
      obtain ⟨a, rfl, h2⟩ := Reach.unscale t h
      exact ⟨a - p, by rw [Int.mul_sub], Reach.minus p h2⟩
theorem Reach.snoc {l : List Int} {p a c : Int} (h : Reach (l ++ [p]) a c) : ∃ b d, Reach l b d ∧ ((a = b + p ∧ c = d + 1) ∨ (a = b - p ∧ c = d - 1)) := by
  have h2 := h.perm (List.perm_append_comm : (l ++ [p]).Perm ([p] ++ l))
  cases h2 with
  | plus _ h3 => exact ⟨_, _, h3, .inl ⟨rfl, rfl⟩⟩
  | minus _ h3 => exact ⟨_, _, h3, .inr ⟨rfl, rfl⟩⟩
theorem Reach.snocp {l : List Int} {b d : Int} (p : Int) (h : Reach l b d) : Reach (l ++ [p]) (b + p) (d + 1) :=
  (Reach.plus p h).perm (List.perm_append_comm : ([p] ++ l).Perm (l ++ [p]))
theorem Reach.snocm {l : List Int} {b d : Int} (p : Int) (h : Reach l b d) : Reach (l ++ [p]) (b - p) (d - 1) :=
  (Reach.minus p h).perm (List.perm_append_comm : ([p] ++ l).Perm (l ++ [p]))
theorem lsum_append : ∀ (a b : List Int), lsum (a ++ b) = lsum a + lsum b
  | [], b => by simp [lsum]
  | x :: a, b => by simp [lsum, lsum_append a b]; omega
/-- All signed sums have the parity of the sum, and are no greater. -/
theorem Reach.parity {l : List Int} {a c : Int} (h : Reach l a c) : (lsum l - a) % 2 = 0 := by
  induction h with
  | nil => rfl
  | plus p _ ih => simp only [lsum]; omega
  | minus p _ ih => simp only [lsum]; omega
theorem Reach.bound {l : List Int} {a c : Int} (h : Reach l a c) (hp : ∀ p ∈ l, 0 ≤ p) : -lsum l ≤ a ∧ a ≤ lsum l := by
  induction h with
  | nil => simp [lsum]
  | plus p _ ih =>
    have h1 := ih (fun q hq => hp q (List.mem_cons_of_mem _ hq))
    have h2 := hp p List.mem_cons_self
    simp only [lsum]
    omega
  | minus p _ ih =>
    have h1 := ih (fun q hq => hp q (List.mem_cons_of_mem _ hq))
    have h2 := hp p List.mem_cons_self
    simp only [lsum]
    omega
/-- Some sides are balanced. -/
theorem Reach.even : ∀ (l : List Int), ∃ a c, Reach l a c ∧ (c = 0 ∨ c = 1 ∨ c = -1)
  | [] => ⟨0, 0, Reach.nil, .inl rfl⟩
  | p :: l => by
    obtain ⟨a, c, h, hc⟩ := Reach.even l
    by_cases h1 : c = 1
    · exact ⟨_, _, Reach.minus p h, by omega⟩
    · exact ⟨_, _, Reach.plus p h, by omega⟩
/-! ### Sides by their number -/
def bnr : Nat → Nat → List Int
  | 0, _ => []
  | n + 1, m => ((m / 2 ^ n % 2 : Nat) : Int) :: bnr n m
theorem bnr_length : ∀ n m, (bnr n m).length = n
  | 0, _ => rfl
  | n + 1, m => by simp [bnr, bnr_length n m]
theorem bnr_bin : ∀ n m, Bin (bnr n m)
  | 0, _ => fun _ h => by simp [bnr] at h
  | n + 1, m => fun x hx => by
    rcases List.mem_cons.1 hx with rfl | hx
    · omega
    · exact bnr_bin n m x hx
theorem bnr_add : ∀ (n m q : Nat), bnr n (m + 2 ^ n * q) = bnr n m
  | 0, _, _ => rfl
  | n + 1, m, q => by
    have e : m + 2 ^ (n + 1) * q = m + 2 ^ n * (2 * q) := by rw [Nat.pow_succ, Nat.mul_assoc]
    rw [e]
    simp only [bnr]
    rw [bnr_add n m (2 * q), Nat.add_mul_div_left _ _ (Nat.two_pow_pos n)]
    congr 2
    omega
theorem bnr_surj : ∀ (s : List Int), Bin s → ∃ m, m < 2 ^ s.length ∧ bnr s.length m = s
  | [], _ => ⟨0, by simp, rfl⟩
  | x :: s, hb => by
    obtain ⟨m, h1, h2⟩ := bnr_surj s (fun y hy => hb y (List.mem_cons_of_mem _ hy))
    rcases hb x List.mem_cons_self with rfl | rfl
    · refine ⟨m, by simp [Nat.pow_succ]; omega, ?_⟩
      simp only [List.length_cons, bnr, h2]
      rw [Nat.div_eq_of_lt h1]
      rfl
    · refine ⟨m + 2 ^ s.length * 1, by simp [Nat.pow_succ]; omega, ?_⟩
      simp only [List.length_cons, bnr]
      rw [bnr_add, h2, Nat.add_mul_div_left _ _ (Nat.two_pow_pos _), Nat.div_eq_of_lt h1]
      rfl
theorem bnr_first (n m : Nat) (h : m < 2 ^ n) : bnr (n + 1) m = 0 :: bnr n m := by
  simp only [bnr]
  rw [Nat.div_eq_of_lt h]
  rfl
/-! ### The least difference, and the first sides with it -/
def scan (p : List Int → Bool) (l : List Int) : Nat → Option (Int × List Int)
  | 0 => none
  | m + 1 => match scan p l m with
    | none => if p (bnr l.length m) = true then some (dif l (bnr l.length m), bnr l.length m) else none
    | some (d, s) => if p (bnr l.length m) = true ∧ dif l (bnr l.length m) < d then some (dif l (bnr l.length m), bnr l.length m) else some (d, s)
theorem scan_spec (p : List Int → Bool) (l : List Int) : ∀ m, match scan p l m with
    | none => ∀ i, i < m → p (bnr l.length i) = false
    | some (d, s) => (∃ i, i < m ∧ s = bnr l.length i) ∧ p s = true ∧ d = dif l s ∧ ∀ j, j < m → p (bnr l.length j) = true → d ≤ dif l (bnr l.length j)
  | 0 => fun i hi => absurd hi (Nat.not_lt_zero i)
  | m + 1 => by
    have ih := scan_spec p l m
    unfold scan
    revert ih
    cases scan p l m with
    | none =>
      intro ih
      dsimp only at ih ⊢
      by_cases hp : p (bnr l.length m) = true
      · rw [if_pos hp]
        refine ⟨⟨m, by omega, rfl⟩, hp, rfl, fun j hj hpj => ?_⟩
        by_cases e : j = m
        · subst e; exact Int.le_refl _
        · rw [ih j (by omega)] at hpj; exact absurd hpj (by simp)
      · rw [if_neg hp]
        intro i hi
        by_cases e : i = m
        · subst e; simpa using hp
        · exact ih i (by omega)
    | some r =>
      obtain ⟨d, s⟩ := r
      intro ih
      dsimp only at ih ⊢
      obtain ⟨⟨i, hi, hs⟩, h2, h3, h4⟩ := ih
      by_cases hp : p (bnr l.length m) = true ∧ dif l (bnr l.length m) < d
      · rw [if_pos hp]
        refine ⟨⟨m, by omega, rfl⟩, hp.1, rfl, fun j hj hpj => ?_⟩
        by_cases e : j = m
        · subst e; exact Int.le_refl _
        · have := h4 j (by omega) hpj; omega
      · rw [if_neg hp]
        refine ⟨⟨i, by omega, hs⟩, h2, h3, fun j hj hpj => ?_⟩
        by_cases e : j = m
        · subst e
          have : ¬ dif l (bnr l.length j) < d := fun h => hp ⟨hpj, h⟩
          omega
        · exact h4 j (by omega) hpj
/-- What is asked of the least difference: over all signs. 'ev': only balanced ones. -/
def okc (ev : Bool) (c : Int) : Prop := ev = true → (c = 0 ∨ c = 1 ∨ c = -1)
def Least (ev : Bool) (l : List Int) (d : Int) : Prop := (∃ a c, Reach l a c ∧ okc ev c ∧ ab a = d) ∧ ∀ a c, Reach l a c → okc ev c → d ≤ ab a
theorem Least.unique {ev : Bool} {l : List Int} {d e : Int} (h : Least ev l d) (k : Least ev l e) : d = e := by
  obtain ⟨⟨a, c, h1, h2, h3⟩, h4⟩ := h
  obtain ⟨⟨a', c', k1, k2, k3⟩, k4⟩ := k
  have := h4 _ _ k1 k2
  have := k4 _ _ h1 h2
  omega
theorem Least.perm {ev : Bool} {l l' : List Int} {d : Int} (hp : l.Perm l') (h : Least ev l d) : Least ev l' d := by
  obtain ⟨⟨a, c, h1, h2, h3⟩, h4⟩ := h
  exact ⟨⟨a, c, h1.perm hp, h2, h3⟩, fun a c k1 k2 => h4 a c (k1.perm hp.symm) k2⟩
theorem ab_mul {t a : Int} (ht : 0 < t) : ab (t * a) = t * ab a := by
  unfold ab
  by_cases h : a < 0
  · have h2 : t * a < 0 := Int.mul_neg_of_pos_of_neg ht h
    rw [if_pos h, if_pos h2, Int.mul_neg]
  · have h2 : 0 ≤ t * a := Int.mul_nonneg (by omega) (by omega)
    rw [if_neg h, if_neg (by omega)]
theorem Least.scale {ev : Bool} {l : List Int} {d t : Int} (ht : 0 < t) (h : Least ev l d) : Least ev (l.map (t * ·)) (t * d) := by
  obtain ⟨⟨a, c, h1, h2, h3⟩, h4⟩ := h
  refine ⟨⟨t * a, c, h1.scale t, h2, by rw [ab_mul ht, h3]⟩, fun b c k1 k2 => ?_⟩
  obtain ⟨a', rfl, k3⟩ := k1.unscale t
  rw [ab_mul ht]
  exact Int.mul_le_mul_of_nonneg_left (h4 _ _ k3 k2) (by omega)
/-- A pull more changes the least difference by at most that pull. -/
theorem Least.more {l : List Int} {d e p : Int} (hp : 0 ≤ p) (h : Least false l d) (k : Least false (l ++ [p]) e) : d - e ≤ p ∧ e - d ≤ p := by
  obtain ⟨⟨a, c, h1, h2, h3⟩, h4⟩ := h
  obtain ⟨⟨b, f, k1, k2, k3⟩, k4⟩ := k
  have q1 := k4 _ _ (h1.snocp p) (fun h => by simp at h)
  obtain ⟨b', f', k5, k6⟩ := k1.snoc
  have q2 := h4 _ _ k5 (fun h => by simp at h)
  unfold ab at *
  split at h3 <;> split at k3 <;> split at q1 <;> split at q2 <;> omega
/-- What the scan over all numbers finds is the least one. -/
theorem scan_least (ev : Bool) (p : List Int → Bool) (l : List Int) (hl : 0 < l.length) (hpe : ∀ s, Bin s → (p s = true ↔ okc ev (cnt s))) : ∃ d s, scan p l (2 ^ (l.length - 1)) = some (d, s) ∧ Least ev l d ∧ d = dif l s ∧ Bin s ∧ s.length = l.length ∧ s.head? = some 0 ∧ okc ev (cnt s) := by
  obtain ⟨q, l', rfl⟩ : ∃ q l', l = q :: l' := by cases l with | nil => simp at hl | cons q l' => exact ⟨q, l', rfl⟩
  have hs := scan_spec p (q :: l') (2 ^ ((q :: l').length - 1))
  simp only [List.length_cons, Nat.add_sub_cancel] at hs ⊢
  have hall : ∀ a c, Reach (q :: l') a c → okc ev c → ∃ m, m < 2 ^ l'.length ∧ p (bnr (l'.length + 1) m) = true ∧ dif (q :: l') (bnr (l'.length + 1) m) = ab a := by
    intro a c h1 h2
    obtain ⟨s, h3, h4, h5⟩ := h1.first
    obtain ⟨m, h6, h7⟩ := bnr_surj s h3
    rw [h4] at h6 h7
    refine ⟨m, h6, ?_⟩
    rw [bnr_first _ _ h6, h7]
    refine ⟨(hpe _ (fun x hx => by rcases List.mem_cons.1 hx with rfl | hx; exact .inl rfl; exact h3 x hx)).2 ?_, ?_⟩
    · intro hev
      have := h2 hev
      rcases h5 with h5 | h5 <;> omega
    · unfold dif
      rcases h5 with h5 | h5
      · rw [h5.1]
      · rw [h5.1]; unfold ab; split <;> split <;> omega
  revert hs
  cases hsc : scan p (q :: l') (2 ^ l'.length) with
  | none =>
    intro hs
    dsimp only at hs
    exfalso
    obtain ⟨a, c, h1, h2⟩ := Reach.even (q :: l')
    obtain ⟨m, h3, h4, _⟩ := hall a c h1 (fun _ => h2)
    rw [hs m h3] at h4
    exact absurd h4 (by simp)
  | some r =>
    obtain ⟨d, s⟩ := r
    intro hs
    dsimp only at hs
    obtain ⟨⟨i, hi, rfl⟩, h2, rfl, h4⟩ := hs
    have hb := bnr_bin (l'.length + 1) i
    have hc := (hpe _ hb).1 h2
    refine ⟨_, _, rfl, ⟨⟨_, _, reach_of (q :: l') _ hb (bnr_length _ _), hc, rfl⟩, fun a c k1 k2 => ?_⟩, rfl, hb, bnr_length _ _, ?_, hc⟩
    · obtain ⟨m, h5, h6, h7⟩ := hall a c k1 k2
      rw [← h7]
      exact h4 m h5 h6
    · rw [bnr_first _ _ hi]; rfl
/-- A sum over two sides, told by the whole sum. -/
theorem lsum_nonneg : ∀ (l : List Int), (∀ p ∈ l, 0 ≤ p) → 0 ≤ lsum l
  | [], _ => Int.le_refl 0
  | p :: l, h => by
    have h1 := lsum_nonneg l (fun q hq => h q (List.mem_cons_of_mem _ hq))
    have h2 := h p List.mem_cons_self
    simp only [lsum]
    omega
theorem lsum_perm {l l' : List Int} (h : l.Perm l') : lsum l = lsum l' := by
  induction h with
  | nil => rfl
  | cons x _ ih => simp only [lsum]; omega
  | swap x y l => simp only [lsum]; omega
  | trans _ _ ih1 ih2 => omega
theorem lsum_scale (t : Int) : ∀ l : List Int, lsum (l.map (t * ·)) = t * lsum l
  | [] => by simp [lsum]
  | p :: l => by simp only [List.map_cons, lsum, lsum_scale t l, Int.mul_add]
end Go.Proofs.Ytpfbdpeohlohoaa.M
