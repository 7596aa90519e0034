/- What woggleref05.Teams comes to: the first teams with the least load. No condition. -/
import Derived.Test.YtpfbdpeohlohoaaS4
import Derived.Test.YtpfbdpeohlohoaaHRTeams
namespace Go.Proofs.Ytpfbdpeohlohoaa.S
open Go.Proofs.Ytpfbdpeohlohoaa.Ga Go.Proofs.Ytpfbdpeohlohoaa.H Go.Proofs.Ytpfbdpeohlohoaa.M
open Go.RowKit Go.Proofs.YtpfbdpeohlohoaaW.PrintWords Go.Proofs.YtpfbdpeohlohoaaW.PrintLast Go.Proofs.YtpfbdpeohlohoaaW.PrintMore
set_option linter.unusedVariables false
set_option linter.unusedSimpArgs false
theorem nxt_append {k : Int} {s s' : List Int} (h : nxt k s = some s') : ∀ A : List Int, nxt k (A ++ s) = some (A ++ s')
  | [] => h
  | a :: A => by
    have := nxt_append h A
    simp only [List.cons_append, nxt, this]
theorem nxt_at {k : Int} (A : List Int) (x : Int) (s : List Int) (h : nxt k s = none) (hx : x + 1 < k) : nxt k (A ++ x :: s) = some (A ++ (x + 1) :: List.replicate s.length 0) :=
  nxt_append (by simp only [nxt, h, if_pos hx]) A
theorem nxt_cons_none {k x : Int} {s : List Int} (h : nxt k s = none) (hx : ¬ x + 1 < k) : nxt k (x :: s) = none := by simp only [nxt, h, if_neg hx]
/-- The inner loop: from place i down. -/
theorem rt_inner (l T : List Int) (K : Nat) (b : List Int) (least : Int) (R : List Int) (hT : Val K l T) (hl : l.length < 1000) (hK : 0 < K) (hK2 : K < 1000)
    (hend : nxt (K : Int) T = none → R = b) (hnext : ∀ T', nxt (K : Int) T = some T' → Ev (fun k => ref_Teams0.l0 k l (K : Int) b least T') R) :
    ∀ (c : Nat), c ≤ l.length → nxt (K : Int) (T.drop c) = none → Ev (fun k => ref_Teams0.l1 k l (K : Int) b least (T.take c ++ List.replicate (l.length - c) 0) ((c : Int) - 1)) R
  | 0, hc, hn => by
    rw [List.drop_zero] at hn
    rw [hend hn]
    refine Ev.step (f := fun _ => some b) (fun k => ?_) (Ev.now _)
    simp only [ref_Teams0.l1]
    rw [if_neg (by omega), if_pos (by omega)]
  | c + 1, hc, hn => by
    have hTl := hT.1
    have hcl : c < T.length := by omega
    have hx := hT.2 T[c] (List.getElem_mem hcl)
    have e0 : ((c + 1 : Nat) : Int) - 1 = (c : Int) := by omega
    rw [e0]
    have elen : (T.take (c + 1) ++ List.replicate (l.length - (c + 1)) 0).length = l.length := by rw [List.length_append, List.length_take, List.length_replicate]; omega
    have eget : rd (T.take (c + 1) ++ List.replicate (l.length - (c + 1)) 0) (c : Int) = T[c] := by
      rw [rd_at _ c (by omega), List.getElem_append_left (by rw [List.length_take]; omega)]
      exact List.getElem_take
    have eset : ∀ y : Int, (T.take (c + 1) ++ List.replicate (l.length - (c + 1)) 0).set c y = T.take c ++ y :: List.replicate (l.length - (c + 1)) 0 := by
      intro y
      rw [List.set_append_left _ _ (by rw [List.length_take]; omega), List.take_succ_eq_append_getElem hcl, List.set_append_right _ _ (by rw [List.length_take]; omega), List.length_take, Nat.min_eq_left (by omega), Nat.sub_self, List.set_cons_zero, List.append_assoc]
      rfl
    have hdrop : T.drop c = T[c] :: T.drop (c + 1) := List.drop_eq_getElem_cons hcl
    by_cases c1 : T[c] + 1 < (K : Int)
    · have hsucc : nxt (K : Int) T = some (T.take c ++ (T[c] + 1) :: List.replicate (l.length - (c + 1)) 0) := by
        have h1 := nxt_at (k := (K : Int)) (T.take c) T[c] (T.drop (c + 1)) hn c1
        rw [← hdrop, List.take_append_drop, List.length_drop, hTl] at h1
        exact h1
      refine Ev.step (fun k => ?_) (hnext _ hsucc)
      simp only [ref_Teams0.l1]
      rw [if_pos (by omega), if_pos (by omega), if_pos (by omega), eget, w64 (x := (K : Int) - 1) (by omega) (by omega), if_neg (by omega), if_neg (by omega), w64 (x := T[c] + 1) (by omega) (by omega), Int.toNat_natCast, eset]
    · have hz : T.take c ++ (0 : Int) :: List.replicate (l.length - (c + 1)) 0 = T.take c ++ List.replicate (l.length - c) 0 := by
        rw [show l.length - c = (l.length - (c + 1)) + 1 by omega, List.replicate_succ]
      refine Ev.step (fun k => ?_) (rt_inner l T K b least R hT hl hK hK2 hend hnext c (by omega) (by rw [hdrop]; exact nxt_cons_none hn c1))
      simp only [ref_Teams0.l1]
      rw [if_pos (by omega), if_pos (by omega), if_pos (by omega), eget, w64 (x := (K : Int) - 1) (by omega) (by omega), if_pos (by omega), Int.toNat_natCast, eset, hz, w64 (by omega) (by omega)]
def encB (K : Nat) (l : List Int) : Option (List Int) → List Int × Int
  | none => ([], 0)
  | some b => (b, ld K l b)
theorem rt_loop (l : List Int) (K : Nat) (hl : Sz l) (hl0 : 0 < l.length) (hK : 0 < K) (hK2 : K < 1000) : ∀ (n : Nat) (T : List Int) (B : Option (List Int)), top K T < n → Val K l T → UptoO K l T B →
    ∃ R, Ev (fun k => ref_Teams0.l0 k l (K : Int) (encB K l B).1 (encB K l B).2 T) R ∧ First K l R
  | 0, _, _, h, _, _ => absurd h (Nat.not_lt_zero _)
  | n + 1, T, B, h, hT, hU => by
    have hlen := hl.1
    have hTl := hT.1
    obtain ⟨R, hend, hnext, hF⟩ : ∃ R, (nxt (K : Int) T = none → R = better K l B T) ∧ (∀ T', nxt (K : Int) T = some T' → Ev (fun k => ref_Teams0.l0 k l (K : Int) (better K l B T) (ld K l (better K l B T)) T') R) ∧ First K l R := by
      cases hn : nxt (K : Int) T with
      | none => exact ⟨better K l B T, fun _ => rfl, fun T' h2 => by simp at h2, upto_end hT hU hn⟩
      | some T' =>
        obtain ⟨u1, u2⟩ := upto_next hT hU hn
        have := nxt_top hn hT.2
        obtain ⟨R, r1, r2⟩ := rt_loop l K hl hl0 hK hK2 n T' (some (better K l B T)) (by omega) u1 u2
        exact ⟨R, fun h2 => by simp at h2, fun T2 h2 => by obtain rfl := Option.some.inj h2; exact r1, r2⟩
    refine ⟨R, ?_, hF⟩
    have hin := rt_inner l T K (better K l B T) (ld K l (better K l B T)) R hT hlen hK hK2 hend hnext l.length (Nat.le_refl _) (by rw [drop_end T _ (by omega)]; rfl)
    rw [Nat.sub_self, List.replicate_zero, List.append_nil, List.take_of_length_le (by omega)] at hin
    have hj2 : Ev (fun k => ref_Teams0.j2 k l (K : Int) (better K l B T) (ld K l (better K l B T)) T) R := by
      refine Ev.step (fun k => ?_) hin
      simp only [ref_Teams0.j2]
      rw [w64 (by omega) (by omega)]
    have hjt : better K l B T = T → Ev (fun k => ref_Teams0.j1 k l (K : Int) (encB K l B).1 (encB K l B).2 T (ld K l T) true) R := fun e => by
      rw [e] at hj2
      refine Ev.step (fun k => ?_) hj2
      simp only [ref_Teams0.j1]
      rw [if_pos trivial, Option.bind_some, if_pos (by simp; omega)]
      rfl
    refine Ev.step (f := fun k => (woggleref05_Load.f k l T (K : Int)).bind fun t110 => (if ((encB K l B).1.length : Int) = 0 then (ref_Teams0.j1 k l (K : Int) (encB K l B).1 (encB K l B).2 T t110 true) else (ref_Teams0.j1 k l (K : Int) (encB K l B).1 (encB K l B).2 T t110 (decide (t110 < (encB K l B).2))))) (fun k => by simp only [ref_Teams0.l0]) ?_
    refine Ev.bind (load_ev l T K hl hT hK2) ?_
    cases B with
    | none => exact Ev.congr (fun k => by rw [if_pos (by simp [encB])]) (hjt rfl)
    | some b =>
      have hbl := hU.1.1
      refine Ev.congr (fun k => by rw [if_neg (by show ¬ (b.length : Int) = 0; omega)]) ?_
      by_cases c : ld K l T < ld K l b
      · have e : better K l (some b) T = T := by simp only [better, if_pos c]
        exact Ev.congr (fun k => by rw [show decide (ld K l T < (encB K l (some b)).2) = true from decide_eq_true c]) (hjt e)
      · have e : better K l (some b) T = b := by simp only [better, if_neg c]
        rw [e] at hj2
        refine Ev.step (fun k => ?_) hj2
        simp only [ref_Teams0.j1]
        rw [show decide (ld K l T < (encB K l (some b)).2) = false from decide_eq_false c, if_neg (by simp)]
        rfl
theorem rTeams_ev (l : List Int) (K : Nat) (hl : Sz l) (hl0 : 0 < l.length) (hK : 0 < K) (hK2 : K < 1000) : ∃ R, Ev (fun k => ref_Teams.f k l (K : Int)) R ∧ First K l R := by
  obtain ⟨z1, z2⟩ := zeros_start K l hK
  obtain ⟨R, r1, r2⟩ := rt_loop l K hl hl0 hK hK2 (top K (List.replicate l.length 0) + 1) (List.replicate l.length 0) none (by omega) z1 z2
  refine ⟨R, Ev.congr (fun k => ?_) r1, r2⟩
  have := hl.1
  simp only [ref_Teams.f, ref_Teams0.f]
  rw [if_pos hl0, if_pos (by omega), Int.toNat_natCast, if_pos (by omega)]
  rfl
end Go.Proofs.Ytpfbdpeohlohoaa.S
