/- Plain: the first teams (in lexicographic order) with the least load: counted one by one, and by trying only teams that never leave out a team before a later one. No condition. -/
import Derived.Test.YtpfbdpeohlohoaaM2
namespace Go.Proofs.Ytpfbdpeohlohoaa.M
set_option linter.unusedVariables false
set_option linter.unusedSimpArgs false
/-- Before, in lexicographic order. -/
def lx : List Int → List Int → Prop
  | a :: s, b :: t => a < b ∨ (a = b ∧ lx s t)
  | _, _ => False
theorem lx_irrefl : ∀ s, ¬ lx s s
  | [] => fun h => h
  | a :: s => fun h => by
    rcases h with h | ⟨_, h⟩
    · omega
    · exact lx_irrefl s h
theorem lx_trans : ∀ {r s t : List Int}, lx r s → lx s t → lx r t
  | [], _, _, h, _ => absurd h (by simp [lx])
  | _ :: _, [], _, h, _ => absurd h (by simp [lx])
  | _ :: _, _ :: _, [], _, h => absurd h (by simp [lx])
  | a :: r, b :: s, c :: t, h, g => by
    simp only [lx] at h g ⊢
    rcases h with h | ⟨h1, h2⟩
    · rcases g with g | ⟨g1, g2⟩
      · exact .inl (by omega)
      · exact .inl (by omega)
    · rcases g with g | ⟨g1, g2⟩
      · exact .inl (by omega)
      · exact .inr ⟨by omega, lx_trans h2 g2⟩
theorem lx_total : ∀ {s t : List Int}, s.length = t.length → s = t ∨ lx s t ∨ lx t s
  | [], [], _ => .inl rfl
  | [], _ :: _, h => absurd h (by simp)
  | _ :: _, [], h => absurd h (by simp)
  | a :: s, b :: t, h => by
    simp only [lx]
    rcases Int.lt_trichotomy a b with h1 | h1 | h1
    · exact .inr (.inl (.inl h1))
    · subst h1
      rcases lx_total (s := s) (t := t) (by simpa using h) with h2 | h2 | h2
      · exact .inl (by rw [h2])
      · exact .inr (.inl (.inr ⟨rfl, h2⟩))
      · exact .inr (.inr (.inr ⟨rfl, h2⟩))
    · exact .inr (.inr (.inl h1))
/-- The first teams with the least load. -/
def First (k : Nat) (l T : List Int) : Prop := Val k l T ∧ ∀ S, Val k l S → ld k l T ≤ ld k l S ∧ (ld k l S = ld k l T → S = T ∨ lx T S)
theorem First.unique {k : Nat} {l T S : List Int} (h : First k l T) (g : First k l S) : T = S := by
  have h1 := h.2 S g.1
  have g1 := g.2 T h.1
  have e : ld k l S = ld k l T := by omega
  rcases h1.2 e with h2 | h2
  · exact h2.symm
  · rcases g1.2 e.symm with g2 | g2
    · exact g2
    · exact absurd (lx_trans h2 g2) (lx_irrefl _)
theorem First.least {k : Nat} {l T : List Int} (h : First k l T) : LL k l (ld k l T) := ⟨⟨T, h.1, rfl⟩, fun S hS => (h.2 S hS).1⟩
/-! ### Counted one by one -/
def nxt (k : Int) : List Int → Option (List Int)
  | [] => none
  | a :: s => match nxt k s with
    | some s' => some (a :: s')
    | none => if a + 1 < k then some ((a + 1) :: List.replicate s.length 0) else none
theorem lx_zeros : ∀ (n : Nat) (u : List Int), (∀ x ∈ u, 0 ≤ x) → ¬ lx u (List.replicate n 0)
  | 0, [], _ => fun h => h
  | 0, _ :: _, _ => fun h => h
  | n + 1, [], _ => fun h => h
  | n + 1, x :: u, h => by
    rw [List.replicate_succ]
    simp only [lx]
    intro h2
    have := h x List.mem_cons_self
    rcases h2 with h2 | ⟨_, h2⟩
    · omega
    · exact lx_zeros n u (fun y hy => h y (List.mem_cons_of_mem _ hy)) h2
theorem nxt_none {k : Int} : ∀ {T : List Int}, nxt k T = none → ∀ S : List Int, S.length = T.length → (∀ x ∈ S, 0 ≤ x ∧ x < k) → S = T ∨ lx S T
  | [], _, S, hl, _ => .inl (List.length_eq_zero_iff.1 hl)
  | a :: s, h, [], hl, _ => absurd hl (by simp)
  | a :: s, h, b :: u, hl, hv => by
    unfold nxt at h
    revert h
    cases hn : nxt k s with
    | some s' => intro h; exact absurd h (by simp)
    | none =>
      intro h
      dsimp only at h
      have ha : ¬ a + 1 < k := fun h2 => by rw [if_pos h2] at h; exact absurd h (by simp)
      have hb := hv b List.mem_cons_self
      simp only [lx]
      by_cases e : b = a
      · subst e
        rcases nxt_none hn u (by simpa using hl) (fun x hx => hv x (List.mem_cons_of_mem _ hx)) with h1 | h1
        · exact .inl (by rw [h1])
        · exact .inr (.inr ⟨rfl, h1⟩)
      · exact .inr (.inl (by omega))
theorem nxt_some {k : Int} : ∀ {T T' : List Int}, nxt k T = some T' → (∀ x ∈ T, 0 ≤ x ∧ x < k) → T'.length = T.length ∧ (∀ x ∈ T', 0 ≤ x ∧ x < k) ∧ ∀ S : List Int, S.length = T.length → (∀ x ∈ S, 0 ≤ x ∧ x < k) → (lx S T' ↔ (S = T ∨ lx S T))
  | [], _, h, _ => absurd h (by simp [nxt])
  | a :: s, T', h, hT => by
    unfold nxt at h
    have hs : ∀ x ∈ s, 0 ≤ x ∧ x < k := fun x hx => hT x (List.mem_cons_of_mem _ hx)
    have ha := hT a List.mem_cons_self
    revert h
    cases hn : nxt k s with
    | some s' =>
      intro h
      dsimp only at h
      obtain rfl := Option.some.inj h
      obtain ⟨h1, h2, h3⟩ := nxt_some hn hs
      refine ⟨by simp [h1], fun x hx => by rcases List.mem_cons.1 hx with rfl | hx; exact ha; exact h2 x hx, fun S hl hv => ?_⟩
      cases S with
      | nil => exact absurd hl (by simp)
      | cons b u =>
        have := h3 u (by simpa using hl) (fun x hx => hv x (List.mem_cons_of_mem _ hx))
        simp only [lx, this, List.cons.injEq]
        constructor
        · rintro (h | ⟨h, h4 | h4⟩)
          · exact .inr (.inl h)
          · exact .inl ⟨h, h4⟩
          · exact .inr (.inr ⟨h, h4⟩)
        · rintro (⟨h, h4⟩ | h | ⟨h, h4⟩)
          · exact .inr ⟨h, .inl h4⟩
          · exact .inl h
          · exact .inr ⟨h, .inr h4⟩
    | none =>
      intro h
      dsimp only at h
      by_cases c : a + 1 < k
      · rw [if_pos c] at h
        obtain rfl := Option.some.inj h
        refine ⟨by simp, fun x hx => ?_, fun S hl hv => ?_⟩
        · rcases List.mem_cons.1 hx with rfl | hx
          · omega
          · have := List.eq_of_mem_replicate hx; omega
        · cases S with
          | nil => exact absurd hl (by simp)
          | cons b u =>
            have hu : ∀ x ∈ u, 0 ≤ x ∧ x < k := fun x hx => hv x (List.mem_cons_of_mem _ hx)
            have h1 := nxt_none hn u (by simpa using hl) hu
            have h2 := lx_zeros s.length u (fun x hx => (hu x hx).1)
            simp only [lx, List.cons.injEq]
            constructor
            · rintro (h | ⟨_, h⟩)
              · by_cases e : b = a
                · rcases h1 with h1 | h1
                  · exact .inl ⟨e, h1⟩
                  · exact .inr (.inr ⟨e, h1⟩)
                · exact .inr (.inl (by omega))
              · exact absurd h h2
            · rintro (⟨h, _⟩ | h | ⟨h, _⟩)
              · exact .inl (by omega)
              · exact .inl (by omega)
              · exact .inl (by omega)
      · rw [if_neg c] at h
        exact absurd h (by simp)
/-- What is known of the best one when all teams before T have been tried. -/
def Upto (k : Nat) (l T B : List Int) : Prop := Val k l B ∧ lx B T ∧ ∀ S, Val k l S → lx S T → ld k l B ≤ ld k l S ∧ (ld k l S = ld k l B → S = B ∨ lx B S)
def better (k : Nat) (l : List Int) (B : Option (List Int)) (T : List Int) : List Int := match B with
  | none => T
  | some b => if ld k l T < ld k l b then T else b
def UptoO (k : Nat) (l T : List Int) : Option (List Int) → Prop
  | none => ∀ S, Val k l S → ¬ lx S T
  | some b => Upto k l T b
theorem better_spec {k : Nat} {l T : List Int} {B : Option (List Int)} (hT : Val k l T) (h : UptoO k l T B) : Val k l (better k l B T) ∧ (better k l B T = T ∨ lx (better k l B T) T) ∧ ∀ S, Val k l S → (S = T ∨ lx S T) → ld k l (better k l B T) ≤ ld k l S ∧ (ld k l S = ld k l (better k l B T) → S = better k l B T ∨ lx (better k l B T) S) := by
  cases B with
  | none =>
    refine ⟨hT, .inl rfl, fun S hS hh => ?_⟩
    rcases hh with rfl | hh
    · exact ⟨Int.le_refl _, fun _ => .inl rfl⟩
    · exact absurd hh (h S hS)
  | some b =>
    obtain ⟨h1, h2, h3⟩ := h
    unfold better
    dsimp only
    by_cases c : ld k l T < ld k l b
    · rw [if_pos c]
      refine ⟨hT, .inl rfl, fun S hS hh => ?_⟩
      rcases hh with rfl | hh
      · exact ⟨Int.le_refl _, fun _ => .inl rfl⟩
      · have := (h3 S hS hh).1
        exact ⟨by omega, fun e => by omega⟩
    · rw [if_neg c]
      refine ⟨h1, .inr h2, fun S hS hh => ?_⟩
      rcases hh with rfl | hh
      · exact ⟨by omega, fun _ => .inr h2⟩
      · exact h3 S hS hh
theorem upto_next {k : Nat} {l T T' : List Int} {B : Option (List Int)} (hT : Val k l T) (h : UptoO k l T B) (hn : nxt k T = some T') : Val k l T' ∧ UptoO k l T' (some (better k l B T)) := by
  obtain ⟨h1, h2, h3⟩ := nxt_some hn hT.2
  obtain ⟨b1, b2, b3⟩ := better_spec hT h
  refine ⟨⟨h1.trans hT.1, h2⟩, b1, (h3 _ (b1.1.trans hT.1.symm) b1.2).2 b2, fun S hS hh => b3 S hS ((h3 S (hS.1.trans hT.1.symm) hS.2).1 hh)⟩
theorem upto_end {k : Nat} {l T : List Int} {B : Option (List Int)} (hT : Val k l T) (h : UptoO k l T B) (hn : nxt k T = none) : First k l (better k l B T) := by
  obtain ⟨b1, _, b3⟩ := better_spec hT h
  exact ⟨b1, fun S hS => b3 S hS (nxt_none hn S (hS.1.trans hT.1.symm) hS.2)⟩
/-- A number that falls by one at each step. -/
def top (k : Nat) : List Int → Nat
  | [] => 0
  | a :: s => (k - 1 - a.toNat) * k ^ s.length + top k s
theorem nxt_top {k : Nat} : ∀ {T T' : List Int}, nxt k T = some T' → (∀ x ∈ T, 0 ≤ x ∧ x < (k : Int)) → top k T' < top k T
  | [], _, h, _ => absurd h (by simp [nxt])
  | a :: s, T', h, hT => by
    have hs : ∀ x ∈ s, 0 ≤ x ∧ x < (k : Int) := fun x hx => hT x (List.mem_cons_of_mem _ hx)
    have ha := hT a List.mem_cons_self
    unfold nxt at h
    revert h
    cases hn : nxt k s with
    | some s' =>
      intro h
      dsimp only at h
      obtain rfl := Option.some.inj h
      have h1 := nxt_top hn hs
      have h2 := (nxt_some hn hs).1
      simp only [top, h2]
      omega
    | none =>
      intro h
      dsimp only at h
      by_cases c : a + 1 < (k : Int)
      · rw [if_pos c] at h
        obtain rfl := Option.some.inj h
        have hz : ∀ n : Nat, top k (List.replicate n 0) < k ^ n := by
          intro n
          induction n with
          | zero => simp [top]
          | succ n ih =>
            rw [List.replicate_succ]
            simp only [top, List.length_replicate, Int.toNat_zero, Nat.sub_zero]
            have hk : 0 < k := by omega
            rw [Nat.pow_succ, Nat.sub_mul, Nat.one_mul, Nat.mul_comm]
            have : k ^ n ≤ k ^ n * k := Nat.le_mul_of_pos_right _ hk
            omega
        have hz1 := hz s.length
        simp only [top, List.length_replicate]
        have e : k - 1 - a.toNat = (k - 1 - (a + 1).toNat) + 1 := by omega
        rw [e, Nat.add_mul, Nat.one_mul]
        omega
      · rw [if_neg c] at h
        exact absurd h (by simp)
theorem zeros_start (k : Nat) (l : List Int) (hk : 0 < k) : Val k l (List.replicate l.length 0) ∧ UptoO k l (List.replicate l.length 0) none :=
  ⟨⟨by simp, fun x hx => by have := List.eq_of_mem_replicate hx; omega⟩, fun S hS => lx_zeros _ S (fun x hx => (hS.2 x hx).1)⟩
/-! ### Teams that never leave out a team -/
def Can (k : Int) : Int → List Int → Prop
  | _, [] => True
  | u, t :: T => 0 ≤ t ∧ t ≤ u ∧ t < k ∧ Can k (if u < t + 1 then t + 1 else u) T
theorem Can.val {k : Int} : ∀ {T : List Int} {u : Int}, Can k u T → ∀ x ∈ T, 0 ≤ x ∧ x < k
  | [], _, _ => fun x hx => by simp at hx
  | t :: T, u, h => fun x hx => by
    rcases List.mem_cons.1 hx with rfl | hx
    · exact ⟨h.1, h.2.2.1⟩
    · exact Can.val h.2.2.2 x hx
def sw (a b x : Int) : Int := if x = a then b else if x = b then a else x
theorem sw_sw (a b x : Int) : sw a b (sw a b x) = x := by
  unfold sw
  by_cases h1 : x = a
  · rw [if_pos h1]
    by_cases h2 : b = a
    · rw [if_pos h2]; omega
    · rw [if_neg h2, if_pos rfl]; omega
  · rw [if_neg h1]
    by_cases h2 : x = b
    · rw [if_pos h2, if_pos rfl]; omega
    · rw [if_neg h2, if_neg h1, if_neg h2]
structure Rel (k u : Int) (f g : Int → Int) : Prop where
  f0 : ∀ x, 0 ≤ x → x < k → 0 ≤ f x ∧ f x < k
  g0 : ∀ x, 0 ≤ x → x < k → 0 ≤ g x ∧ g x < k
  gf : ∀ x, 0 ≤ x → x < k → g (f x) = x
  fg : ∀ x, 0 ≤ x → x < k → f (g x) = x
  fu : ∀ x, 0 ≤ x → x < u → f x = x
/-- Renaming the teams by their first pulls: never later, in lexicographic order. -/
theorem canon (k : Int) : ∀ (T : List Int) (u : Int), 0 ≤ u → (∀ x ∈ T, 0 ≤ x ∧ x < k) → ∃ f g, Rel k u f g ∧ Can k u (T.map f) ∧ (T.map f = T ∨ lx (T.map f) T)
  | [], u, _, _ => ⟨id, id, ⟨fun _ h1 h2 => ⟨h1, h2⟩, fun _ h1 h2 => ⟨h1, h2⟩, fun _ _ _ => rfl, fun _ _ _ => rfl, fun _ _ _ => rfl⟩, trivial, .inl rfl⟩
  | t :: T, u, hu, hv => by
    have ht := hv t List.mem_cons_self
    have hT : ∀ x ∈ T, 0 ≤ x ∧ x < k := fun x hx => hv x (List.mem_cons_of_mem _ hx)
    by_cases c : t ≤ u
    · obtain ⟨f, g, hr, h1, h2⟩ := canon k T (if u < t + 1 then t + 1 else u) (by split <;> omega) hT
      have ft : f t = t := hr.fu t ht.1 (by split <;> omega)
      refine ⟨f, g, ⟨hr.f0, hr.g0, hr.gf, hr.fg, fun x h3 h4 => hr.fu x h3 (by split <;> omega)⟩, ?_, ?_⟩
      · rw [List.map_cons, ft]
        exact ⟨ht.1, c, ht.2, h1⟩
      · rw [List.map_cons, ft]
        rcases h2 with h2 | h2
        · exact .inl (by rw [h2])
        · exact .inr (.inr ⟨rfl, h2⟩)
    · have hs : ∀ x, 0 ≤ x → x < k → 0 ≤ sw t u x ∧ sw t u x < k := fun x h1 h2 => by unfold sw; split <;> (try split) <;> omega
      obtain ⟨f, g, hr, h1, h2⟩ := canon k (T.map (sw t u)) (u + 1) (by omega) (fun x hx => by
        obtain ⟨y, hy, rfl⟩ := List.mem_map.1 hx
        exact hs y (hT y hy).1 (hT y hy).2)
      have ft : f (sw t u t) = u := by
        have : sw t u t = u := by unfold sw; rw [if_pos rfl]
        rw [this]
        exact hr.fu u hu (by omega)
      refine ⟨fun x => f (sw t u x), fun x => sw t u (g x), ⟨fun x h3 h4 => ?_, fun x h3 h4 => ?_, fun x h3 h4 => ?_, fun x h3 h4 => ?_, fun x h3 h4 => ?_⟩, ?_, ?_⟩
      · have := hs x h3 h4; exact hr.f0 _ this.1 this.2
      · have := hr.g0 x h3 h4; exact hs _ this.1 this.2
      · have := hs x h3 h4
        show sw t u (g (f (sw t u x))) = x
        rw [hr.gf _ this.1 this.2, sw_sw]
      · show f (sw t u (sw t u (g x))) = x
        rw [sw_sw, hr.fg x h3 h4]
      · show f (sw t u x) = x
        have : sw t u x = x := by unfold sw; rw [if_neg (by omega), if_neg (by omega)]
        rw [this]
        exact hr.fu x h3 (by omega)
      · rw [List.map_cons]
        show Can k u (f (sw t u t) :: _)
        rw [ft]
        refine ⟨hu, Int.le_refl _, by omega, ?_⟩
        rw [if_pos (by omega)]
        rw [List.map_map] at h1
        exact h1
      · rw [List.map_cons]
        right
        show lx (f (sw t u t) :: _) _
        rw [ft]
        exact .inl (by omega)
termination_by T => T.length
decreasing_by all_goals simp
theorem tl_map {k : Int} {f g : Int → Int} {u : Int} (hr : Rel k u f g) : ∀ {l T : List Int} {t : Int}, (∀ x ∈ T, 0 ≤ x ∧ x < k) → 0 ≤ t → t < k → tl l (T.map f) (f t) = tl l T t
  | [], T, _, _, _, _ => by simp [tl]
  | _ :: _, [], _, _, _, _ => by simp [tl]
  | p :: l, x :: T, t, h, h1, h2 => by
    have hx := h x List.mem_cons_self
    simp only [List.map_cons, tl, tl_map hr (l := l) (T := T) (fun y hy => h y (List.mem_cons_of_mem _ hy)) h1 h2]
    by_cases e : x = t
    · rw [if_pos e, if_pos (by rw [e])]
    · rw [if_neg e, if_neg (fun e2 => e (by rw [← hr.gf x hx.1 hx.2, e2, hr.gf t h1 h2]))]
theorem ld_map {k : Nat} {f g : Int → Int} {u : Int} (hr : Rel k u f g) {l T : List Int} (h : ∀ x ∈ T, 0 ≤ x ∧ x < (k : Int)) : ld k l (T.map f) = ld k l T := by
  have h1 : ld k l T ≤ ld k l (T.map f) := mxk_least (mxk_nonneg _ _) (fun t ht => by
    have h2 := hr.f0 (t : Int) (by omega) (by omega)
    rw [← tl_map hr h (t := (t : Int)) (by omega) (by omega)]
    obtain ⟨n, hn⟩ : ∃ n : Nat, f (t : Int) = (n : Int) := ⟨(f t).toNat, by omega⟩
    rw [hn]
    exact mxk_le (f := fun t : Nat => tl l (T.map f) (t : Int)) (by omega))
  have h2 : ld k l (T.map f) ≤ ld k l T := mxk_least (mxk_nonneg _ _) (fun t ht => by
    have h2 := hr.g0 (t : Int) (by omega) (by omega)
    have h3 := tl_map hr (l := l) h h2.1 h2.2
    rw [hr.fg (t : Int) (by omega) (by omega)] at h3
    rw [h3]
    obtain ⟨n, hn⟩ : ∃ n : Nat, g (t : Int) = (n : Int) := ⟨(g t).toNat, by omega⟩
    rw [hn]
    exact mxk_le (f := fun t : Nat => tl l T (t : Int)) (by omega))
  omega
/-- What one part of the search comes to: the best one so far, against all teams of the part. -/
def Srch (k : Nat) (l : List Int) (U : List Int → Prop) (b : Int) (o : List Int) (b' : Int) (o' : List Int) : Prop :=
  (b' = b ∧ o' = o ∧ ∀ S, U S → 0 ≤ b ∧ b ≤ ld k l S) ∨ (U o' ∧ b' = ld k l o' ∧ (b < 0 ∨ b' < b) ∧ ∀ S, U S → b' ≤ ld k l S ∧ (ld k l S = b' → S = o' ∨ lx o' S))
theorem Srch.seq {k : Nat} {l : List Int} {U V : List Int → Prop} {b b1 b2 : Int} {o o1 o2 : List Int} (h : Srch k l U b o b1 o1) (g : Srch k l V b1 o1 b2 o2) (hUV : ∀ S T, U S → V T → lx S T) : Srch k l (fun S => U S ∨ V S) b o b2 o2 := by
  rcases h with ⟨rfl, rfl, h⟩ | ⟨h1, h2, h3, h4⟩
  · rcases g with ⟨rfl, rfl, g⟩ | ⟨g1, g2, g3, g4⟩
    · exact .inl ⟨rfl, rfl, fun S hS => hS.elim (h S) (g S)⟩
    · refine .inr ⟨.inr g1, g2, g3, fun S hS => hS.elim (fun hS => ?_) (g4 S)⟩
      have := h S hS
      exact ⟨by omega, fun e => by omega⟩
  · have h0 : 0 ≤ b1 := by rw [h2]; exact mxk_nonneg _ _
    rcases g with ⟨rfl, rfl, g⟩ | ⟨g1, g2, g3, g4⟩
    · exact .inr ⟨.inl h1, h2, h3, fun S hS => hS.elim (h4 S) (fun hS => ⟨(g S hS).2, fun _ => .inr (hUV _ _ h1 hS)⟩)⟩
    · refine .inr ⟨.inr g1, g2, by omega, fun S hS => hS.elim (fun hS => ?_) (g4 S)⟩
      have := (h4 S hS).1
      exact ⟨by omega, fun e => by omega⟩
theorem Srch.skip {k : Nat} {l : List Int} {U : List Int → Prop} {b : Int} {o : List Int} (h : ∀ S, U S → 0 ≤ b ∧ b ≤ ld k l S) : Srch k l U b o b o := .inl ⟨rfl, rfl, h⟩
theorem Srch.congr {k : Nat} {l : List Int} {U V : List Int → Prop} {b b1 : Int} {o o1 : List Int} (h : Srch k l U b o b1 o1) (e : ∀ S, U S ↔ V S) : Srch k l V b o b1 o1 := by
  have : U = V := funext fun S => propext (e S)
  subst this
  exact h
/-- The whole search. -/
theorem Srch.first {k : Nat} {l : List Int} {b : Int} {o o0 : List Int} (hk : 0 < k) (h : Srch k l (fun S => S.length = l.length ∧ Can k 0 S) (-1) o0 b o) : First k l o ∧ b = ld k l o := by
  rcases h with ⟨_, _, h⟩ | ⟨h1, h2, h3, h4⟩
  · obtain ⟨f, g, hr, h1, _⟩ := canon (k : Int) (List.replicate l.length 0) 0 (Int.le_refl 0) (fun x hx => by have := List.eq_of_mem_replicate hx; omega)
    exact absurd (h _ ⟨by simp, h1⟩).1 (by omega)
  · refine ⟨⟨⟨h1.1, h1.2.val⟩, fun S hS => ?_⟩, h2⟩
    obtain ⟨f, g, hr, c1, c2⟩ := canon (k : Int) S 0 (Int.le_refl 0) hS.2
    have h5 := h4 (S.map f) ⟨by simp [hS.1], c1⟩
    rw [ld_map hr hS.2, h2] at h5
    refine ⟨h5.1, fun e => ?_⟩
    rcases h5.2 e with h6 | h6
    · rcases c2 with c2 | c2
      · exact .inl (c2.symm.trans h6)
      · exact .inr (by rw [← h6]; exact c2)
    · rcases c2 with c2 | c2
      · exact .inr (by rw [← c2]; exact h6)
      · exact .inr (lx_trans h6 c2)
end Go.Proofs.Ytpfbdpeohlohoaa.M
