/- The walk of (Ideal).few. -/
import Derived.Test.YtmekcfkfkpbfeaaHRefRad
namespace Go.Proofs.Ytmekcfkfkpbfeaa.H
open Go.RowKit Go.Proofs.YtmekcfkfkpbfeaaW.PrintWords Go.Proofs.YtmekcfkfkpbfeaaW.PrintLast Go.Proofs.YtmekcfkfkpbfeaaW.PrintMore
open Go.Proofs.Ytmekcfkfkpbfeaa.Ga Go.Proofs.Ytmekcfkfkpbfeaa.S Go.Proofs.Ytmekcfkfkpbfeaa.M
attribute [local go_sem] max2_int min2_int max_two min_two max_three min_three max_four min_four
set_option linter.unusedVariables false
set_option linter.unusedSimpArgs false
set_option maxRecDepth 100000 in
set_option maxHeartbeats 8000000 in
theorem few_calls (n : Int) (A : Option Addr) (c : Nat) (xs : List (List Int)) (w : World) (hr : Kd.C KL w A xs.length xs) (hc : xs.length ≤ c) (K : Nat) (ys : List (List Int)) (hK : wogglelaw04_lists.f K xs = some ys) :
    Calls Try.prog 21 #[.agg #[.int .i64 n, .slice A xs.length c]] w fun e w' => ∃ A1 c1, e = .returned (.tuple #[.int .i64 n, .slice A1 ys.length c1]) ∧ ys.length ≤ c1 ∧ Kd.C KL w' A1 ys.length ys ∧ Below w.heap.size w w' := by
  have HR := Aside0.mk hr
  have HC := Aside0.mk hc
  have HK := Aside0.mk hK
  clear hr hc hK
  have HB := Aside0.mk (below_alloc (Below.refl w.heap.size w) (.cells #[.int .i64 n, .slice A xs.length c] 40))
  have HP := Aside0.mk (heap_alloc_new w (.cells #[.int .i64 n, .slice A xs.length c] 40))
  have q0 := (blk_cell HP.out 0).trans rfl
  have q1 := (blk_cell HP.out 1).trans rfl
  go_enter Try.func21, Try.ntmps21
  go_wp2
  go_region_held3 (fun w' => w'.cell? ⟨w.heap.size, 0, none⟩ = some (.int .i64 n) ∧ w'.cell? ⟨w.heap.size, 1, none⟩ = some (.slice A xs.length c)) (first | (exact ⟨pw_cell_below (below_undrew hb1) q0, pw_cell_below (below_undrew hb1) q1⟩) | go_keep | (exact ⟨q0, q1⟩)) (first | (go_at_call 34; refine (wogglelaw04_lists.calls K A c xs ys _ (Kd.C_drew (Kd.C_alloc HR.out _)) HC.out HK.out).mono ?_; rintro e w1 ⟨v, rfl, ho, hb1⟩))
  all_goals
    have HB2 := Aside0.mk (below_step HB.out (below_undrew hb1))
    obtain ⟨A1, c1, e1, hc1, hC1⟩ := Kd.S_reads ho
    subst e1
    go_wp2
    go_ret2
    exact ⟨_, _, rfl, hc1, hC1, HB2.out⟩
end Go.Proofs.Ytmekcfkfkpbfeaa.H
