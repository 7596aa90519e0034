/- What the printed functions of layer 5 come to, from some number of rounds on: the checks, sides, differences, the scans. No condition. -/
import Derived.Test.YtpfbdpeohlohoaaGa1
import Derived.Test.YtpfbdpeohlohoaaGa2
import Derived.Test.YtpfbdpeohlohoaaGa3
import Derived.Test.YtpfbdpeohlohoaaGa5
import Derived.Test.YtpfbdpeohlohoaaHSplit
import Derived.Test.YtpfbdpeohlohoaaM1
namespace Go.Proofs.Ytpfbdpeohlohoaa.S
open Go.Proofs.Ytpfbdpeohlohoaa.Ga Go.Proofs.Ytpfbdpeohlohoaa.H Go.Proofs.Ytpfbdpeohlohoaa.M
open Go.RowKit Go.Proofs.YtpfbdpeohlohoaaW.PrintWords Go.Proofs.YtpfbdpeohlohoaaW.PrintLast Go.Proofs.YtpfbdpeohlohoaaW.PrintMore
set_option linter.unusedVariables false
set_option linter.unusedSimpArgs false
theorem w64 {x : Int} (h : -9223372036854775808 ≤ x) (h2 : x ≤ 9223372036854775807) : wrap64 x = x := by unfold wrap64; omega
theorem rd_at (l : List Int) (i : Nat) (h : i < l.length) : rd l (i : Int) = l[i] := by
  unfold rd
  rw [Int.toNat_natCast, List.getD_eq_getElem?_getD, List.getElem?_eq_getElem h]
  rfl
theorem rd_getD (l : List Int) (i : Nat) : rd l (i : Int) = l.getD i 0 := by
  unfold rd
  rw [Int.toNat_natCast]
theorem drop_at (l : List Int) (i : Nat) (h : i < l.length) : l.drop i = l[i] :: l.drop (i + 1) := List.drop_eq_getElem_cons h
theorem drop_end (l : List Int) (i : Nat) (h : l.length ≤ i) : l.drop i = [] := List.drop_eq_nil_of_le h
/-! ### The greatest and the least of a slice -/
theorem foldl_mx : ∀ (l : List Int) (m : Int), (l.foldl mx m = m ∨ l.foldl mx m ∈ l) ∧ m ≤ l.foldl mx m ∧ ∀ x ∈ l, x ≤ l.foldl mx m
  | [], m => ⟨.inl rfl, Int.le_refl _, fun x hx => by simp at hx⟩
  | y :: l, m => by
    obtain ⟨h1, h2, h3⟩ := foldl_mx l (mx m y)
    rw [List.foldl_cons]
    have e : mx m y = m ∨ mx m y = y := by unfold mx; split <;> simp
    have e1 : m ≤ mx m y ∧ y ≤ mx m y := by unfold mx; split <;> omega
    refine ⟨?_, by omega, fun x hx => ?_⟩
    · rcases h1 with h1 | h1
      · rcases e with e | e
        · exact .inl (by rw [h1, e])
        · exact .inr (by rw [h1, e]; exact List.mem_cons_self)
      · exact .inr (List.mem_cons_of_mem _ h1)
    · rcases List.mem_cons.1 hx with rfl | hx
      · omega
      · exact h3 x hx
theorem foldl_mn : ∀ (l : List Int) (m : Int), (l.foldl mn m = m ∨ l.foldl mn m ∈ l) ∧ l.foldl mn m ≤ m ∧ ∀ x ∈ l, l.foldl mn m ≤ x
  | [], m => ⟨.inl rfl, Int.le_refl _, fun x hx => by simp at hx⟩
  | y :: l, m => by
    obtain ⟨h1, h2, h3⟩ := foldl_mn l (mn m y)
    rw [List.foldl_cons]
    have e : mn m y = m ∨ mn m y = y := by unfold mn; split <;> simp
    have e1 : mn m y ≤ m ∧ mn m y ≤ y := by unfold mn; split <;> omega
    refine ⟨?_, by omega, fun x hx => ?_⟩
    · rcases h1 with h1 | h1
      · rcases e with e | e
        · exact .inl (by rw [h1, e])
        · exact .inr (by rw [h1, e]; exact List.mem_cons_self)
      · exact .inr (List.mem_cons_of_mem _ h1)
    · rcases List.mem_cons.1 hx with rfl | hx
      · omega
      · exact h3 x hx
theorem max_loop (l : List Int) (hl : l.length < 1000000) : ∀ (d i : Nat) (m : Int), i + d = l.length → Ev (fun k => slices_Max_int_int.l0 k l m (i : Int)) ((l.drop i).foldl mx m)
  | 0, i, m, h => by
    rw [drop_end l i (by omega)]
    exact Ev.step (f := fun _ => some m) (fun k => by simp only [slices_Max_int_int.l0]; rw [if_neg (by omega)]) (Ev.now _)
  | d + 1, i, m, h => by
    rw [drop_at l i (by omega), List.foldl_cons]
    refine Ev.step (fun k => ?_) (max_loop l hl d (i + 1) (mx m l[i]) (by omega))
    simp only [slices_Max_int_int.l0]
    rw [if_pos (by omega), if_pos (by omega), w64 (by omega) (by omega), rd_at l i (by omega)]
    rfl
theorem min_loop (l : List Int) (hl : l.length < 1000000) : ∀ (d i : Nat) (m : Int), i + d = l.length → Ev (fun k => slices_Min_int_int.l0 k l m (i : Int)) ((l.drop i).foldl mn m)
  | 0, i, m, h => by
    rw [drop_end l i (by omega)]
    exact Ev.step (f := fun _ => some m) (fun k => by simp only [slices_Min_int_int.l0]; rw [if_neg (by omega)]) (Ev.now _)
  | d + 1, i, m, h => by
    rw [drop_at l i (by omega), List.foldl_cons]
    refine Ev.step (fun k => ?_) (min_loop l hl d (i + 1) (mn m l[i]) (by omega))
    simp only [slices_Min_int_int.l0]
    rw [if_pos (by omega), if_pos (by omega), w64 (by omega) (by omega), rd_at l i (by omega)]
    rfl
theorem max_ev (l : List Int) (h0 : 0 < l.length) (hl : l.length < 1000000) : ∃ m, Ev (fun k => slices_Max_int_int.f k l) m ∧ m ∈ l ∧ ∀ x ∈ l, x ≤ m := by
  obtain ⟨h1, h2, h3⟩ := foldl_mx (l.drop 1) l[0]
  refine ⟨_, Ev.congr (fun k => ?_) (max_loop l hl (l.length - 1) 1 l[0] (by omega)), ?_, fun x hx => ?_⟩
  · simp only [slices_Max_int_int.f]
    rw [if_neg (by omega), if_pos (by omega)]
    exact congrArg (fun z => slices_Max_int_int.l0 k l z 1) (rd_at l 0 h0)
  · rcases h1 with h1 | h1
    · rw [h1]; exact List.getElem_mem h0
    · exact List.mem_of_mem_drop h1
  · have e : l = l[0] :: l.drop 1 := by have := drop_at l 0 h0; simpa using this
    rw [e] at hx
    rcases List.mem_cons.1 hx with rfl | hx
    · exact h2
    · exact h3 x hx
theorem min_ev (l : List Int) (h0 : 0 < l.length) (hl : l.length < 1000000) : ∃ m, Ev (fun k => slices_Min_int_int.f k l) m ∧ m ∈ l ∧ ∀ x ∈ l, m ≤ x := by
  obtain ⟨h1, h2, h3⟩ := foldl_mn (l.drop 1) l[0]
  refine ⟨_, Ev.congr (fun k => ?_) (min_loop l hl (l.length - 1) 1 l[0] (by omega)), ?_, fun x hx => ?_⟩
  · simp only [slices_Min_int_int.f]
    rw [if_neg (by omega), if_pos (by omega)]
    exact congrArg (fun z => slices_Min_int_int.l0 k l z 1) (rd_at l 0 h0)
  · rcases h1 with h1 | h1
    · rw [h1]; exact List.getElem_mem h0
    · exact List.mem_of_mem_drop h1
  · have e : l = l[0] :: l.drop 1 := by have := drop_at l 0 h0; simpa using this
    rw [e] at hx
    rcases List.mem_cons.1 hx with rfl | hx
    · exact h2
    · exact h3 x hx
/-! ### The error of pulls -/
def Ok (l : List Int) : Prop := 0 < l.length ∧ ∀ p ∈ l, 1 ≤ p ∧ p ≤ 1000000
instance (l : List Int) : Decidable (Ok l) := inferInstanceAs (Decidable (_ ∧ _))
def bad (l : List Int) (most : Int) : Int := if (l.length : Int) > most then 3 else if Ok l then 0 else 1
theorem bad_ok {l : List Int} {most : Int} : bad l most = 0 ↔ ((l.length : Int) ≤ most ∧ Ok l) := by
  unfold bad
  by_cases h : (l.length : Int) > most
  · rw [if_pos h]; constructor
    · intro h2; omega
    · intro h2; omega
  · rw [if_neg h]
    by_cases h2 : Ok l
    · rw [if_pos h2]; exact ⟨fun _ => ⟨by omega, h2⟩, fun _ => rfl⟩
    · rw [if_neg h2]; exact ⟨fun h => by omega, fun h => absurd h.2 h2⟩
theorem check_ev (l : List Int) (most : Int) (hl : l.length < 1000000) : Ev (fun k => tug_check.f k l most) (bad l most) := by
  unfold bad tug_check.f
  by_cases h : (l.length : Int) > most
  · rw [if_pos h]
    exact Ev.congr (fun k => by rw [if_pos h]) (Ev.now _)
  · rw [if_neg h]
    by_cases h0 : l.length = 0
    · rw [if_neg (show ¬ Ok l from fun h2 => by have := h2.1; omega)]
      exact Ev.congr (fun k => by rw [if_neg h, if_pos (by omega)]) (Ev.now _)
    · obtain ⟨a, ha, ha2, ha3⟩ := min_ev l (by omega) hl
      obtain ⟨b, hb, hb2, hb3⟩ := max_ev l (by omega) hl
      refine Ev.congr (f := fun k => (slices_Min_int_int.f k l).bind fun t105 => (if t105 < 1 then (some 1) else ((slices_Max_int_int.f k l).bind fun t106 => (if t106 > 1000000 then (some 1) else (some 0))))) (fun k => by rw [if_neg h, if_neg (by omega)]) (Ev.bind ha ?_)
      by_cases c : a < 1
      · rw [if_neg (show ¬ Ok l from fun h2 => by have := h2.2 a ha2; omega)]
        exact Ev.congr (fun k => by rw [if_pos c]) (Ev.now _)
      · refine Ev.congr (fun k => by rw [if_neg c]) (Ev.bind hb ?_)
        by_cases c2 : b > 1000000
        · rw [if_neg (show ¬ Ok l from fun h2 => by have := h2.2 b hb2; omega)]
          exact Ev.congr (fun k => by rw [if_pos c2]) (Ev.now _)
        · rw [if_pos (show Ok l from ⟨by omega, fun p hp => ⟨by have := ha3 p hp; omega, by have := hb3 p hp; omega⟩⟩)]
          exact Ev.congr (fun k => by rw [if_neg c2]) (Ev.now _)
theorem in_is (a b c : Int) : woggleref05_in.f a b c = some (decide (b ≤ a ∧ a ≤ c)) := by
  unfold woggleref05_in.f
  by_cases h : a ≥ b
  · rw [if_pos h]
    by_cases h2 : a ≤ c
    · rw [decide_eq_true h2, decide_eq_true ⟨h, h2⟩]
    · rw [decide_eq_false h2, decide_eq_false (fun h3 => h2 h3.2)]
  · rw [if_neg h, decide_eq_false (fun h3 => h h3.1)]
theorem pulls_loop (l : List Int) (hl : l.length < 1000000) : ∀ (d i : Nat), i + d = l.length → Ev (fun k => woggleref05_Pulls.l0 k l (i : Int)) (if (0 < l.length ∧ ∀ p ∈ l.drop i, 1 ≤ p ∧ p ≤ 1000000) then 0 else 1)
  | 0, i, h => by
    rw [drop_end l i (by omega)]
    by_cases c : l.length = 0
    · rw [if_neg (by omega)]
      exact Ev.step (f := fun _ => some 1) (fun k => by simp only [woggleref05_Pulls.l0]; rw [if_neg (by omega), if_pos (by omega)]) (Ev.now _)
    · rw [if_pos ⟨by omega, fun p hp => by simp at hp⟩]
      exact Ev.step (f := fun _ => some 0) (fun k => by simp only [woggleref05_Pulls.l0]; rw [if_neg (by omega), if_neg (by omega)]) (Ev.now _)
  | d + 1, i, h => by
    have ih := pulls_loop l hl d (i + 1) (by omega)
    rw [drop_at l i (by omega)]
    by_cases c : 1 ≤ l[i] ∧ l[i] ≤ 1000000
    · have e : (0 < l.length ∧ ∀ p ∈ l[i] :: l.drop (i + 1), 1 ≤ p ∧ p ≤ 1000000) ↔ (0 < l.length ∧ ∀ p ∈ l.drop (i + 1), 1 ≤ p ∧ p ≤ 1000000) :=
        ⟨fun h => ⟨h.1, fun p hp => h.2 p (List.mem_cons_of_mem _ hp)⟩, fun h => ⟨h.1, fun p hp => by rcases List.mem_cons.1 hp with rfl | hp; exact c; exact h.2 p hp⟩⟩
      simp only [e]
      refine Ev.step (fun k => ?_) ih
      simp only [woggleref05_Pulls.l0]
      rw [if_pos (by omega), if_pos (by omega), in_is, Option.bind_some, rd_at l i (by omega), decide_eq_true c, if_pos rfl, w64 (by omega) (by omega)]
      rfl
    · rw [if_neg (fun h => c (h.2 _ List.mem_cons_self))]
      refine Ev.step (f := fun _ => some 1) (fun k => ?_) (Ev.now _)
      simp only [woggleref05_Pulls.l0]
      rw [if_pos (by omega), if_pos (by omega), in_is, Option.bind_some, rd_at l i (by omega), decide_eq_false c, if_neg (by simp)]
theorem pulls_ev (l : List Int) (most : Int) (hl : l.length < 1000000) : Ev (fun k => woggleref05_Pulls.f k l most) (bad l most) := by
  unfold bad
  by_cases h : (l.length : Int) > most
  · rw [if_pos h]
    exact Ev.congr (fun k => by simp only [woggleref05_Pulls.f]; rw [if_pos h]) (Ev.now _)
  · rw [if_neg h]
    refine Ev.congr (fun k => ?_) (pulls_loop l hl l.length 0 (by omega))
    simp only [woggleref05_Pulls.f]
    rw [if_neg h]
    rfl
/-! ### Sides -/
end Go.Proofs.Ytpfbdpeohlohoaa.S
