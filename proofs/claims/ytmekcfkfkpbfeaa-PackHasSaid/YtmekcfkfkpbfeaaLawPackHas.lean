-- The row of PackHas: opened by hand (genrow.py), walked in S7.
import Derived.Test.YtmekcfkfkpbfeaaRows
import Derived.Test.YtmekcfkfkpbfeaaS7
import Derived.Test.YtmekcfkfkpbfeaaHOpen
import Derived.Test.YtmekcfkfkpbfeaaHOpenR
import Derived.Test.YtmekcfkfkpbfeaaHOpenN
import Derived.WalkKit
import Derived.ProofKit
import Derived.OpenShut
import Derived.ShutString
import Derived.ChangeOld
import Derived.Below
import Derived.SizedLaws
import Derived.Carry
import Derived.Test.YtmekcfkfkpbfeaaWSized
namespace Go.Proofs.Ytmekcfkfkpbfeaa.packHas
open Go.ChangeShapes Go.WideShapes Go.ChangeAt Go.RowKit
open Go.Proofs.Ytmekcfkfkpbfeaa.H Go.Proofs.YtmekcfkfkpbfeaaW.PrintWords
set_option linter.unusedVariables false
theorem own : ownKnob Try.prog.godebug = none := by kernel_rfl
theorem laidOut : laidOutB Try.prog = true := by kernel_rfl
set_option maxRecDepth 100000 in
theorem lifted (os : Os) (started : os.Started) (H : Type) (enc : TypeId × Value → H) :
    ReturnsInHanded {} Try.checked os 8 .any (Rows.packHasSpec.pre6 enc Try.prog Try.f8 Rows.packHasRow.domain false) (Rows.packHasSpec.post enc Try.prog Try.f8 false true false false) := by
  refine returnsInHanded_of_change_sized (C := Try.checked) own started (by kernel_rfl) Try.func8
    (ChangeSpec.witness6 (enc := enc) (C := Try.checked) false ⟨#[], #[.agg #[.int .i64 0, .slice none 0 0], .slice none 0 0], []⟩ 8 (by kernel_rfl) (by kernel_rfl) (by kernel_rfl) (by kernel_rfl)) ?_
  intro W base args ds gs before hval0 hW hcnd hsz0 _
  have hsz : (DataW.weightsEach Try.prog (Try.f8.params.toList ++ Rows.packHasSpec.plain.varTypes Try.prog) (ds ++ gs)).all (· ≤ reachBytes) = true := hsz0
  have hval : ∀ (j : Nat) t v, Try.f8.params[j]? = some t → args[j]? = some v → Value.okWide Try.prog W .any base t v := hval0
  have hW' := hW
  obtain ⟨p, q, hA0, hV, rfl, hfz, hnd⟩ := hW
  have hA : DataW.TrodAll enc Try.prog W 0 (fun _ => true) true Try.f8.params.toList args.toList ds p := hA0
  rw [Try.params8] at hA hval hsz
  obtain ⟨v0, vs0, d0, ds0, p0, q0, hargs, rfl, rfl, h0, r0⟩ := trodAll_cons hA
  obtain ⟨v1, vs1, d1, ds1, p1, q1, rfl, rfl, rfl, h1, r1⟩ := trodAll_cons r0
  obtain ⟨rfl, rfl, rfl⟩ := trodAll_nil r1
  obtain rfl : args = #[v0, v1] := by cases args; simp_all
  obtain ⟨rfl, rfl⟩ := trodVars_none hV
  have k0 := h0
  have lt0 : ∀ x ∈ p0, x.block < W.heap.size := by obtain ⟨m, hm⟩ := k0; exact DataW.trod_lt m _ _ _ hm
  obtain ⟨n0, a0, cap0, x0, e0, le0, z0⟩ : ∃ n A c xs, v0 = .agg #[.int .i64 n, .slice A xs.length c] ∧ xs.length ≤ c ∧ Kd.C KL W A xs.length xs := by
    obtain ⟨cs, rfl, hs⟩ := okWide_struct Try.underlying40 (hval 0 40 v0 rfl rfl)
    obtain ⟨fuel, hf⟩ := h0
    obtain ⟨n, A, c, xs, rfl, hl, hC⟩ := open_ideal (hs.trans (by kernel_rfl)) (by simpa [Value.cells] using hf)
    exact ⟨n, A, c, xs, rfl, hl, hC⟩
  subst e0
  have k1 := h1
  have lt1 : ∀ x ∈ p1, x.block < W.heap.size := by obtain ⟨m, hm⟩ := k1; exact DataW.trod_lt m _ _ _ hm
  obtain ⟨a1, cap1, x1, e1, le1, z1⟩ : ∃ A c xs, v1 = .slice A xs.length c ∧ xs.length ≤ c ∧ Kd.C KI W A xs.length xs := by
    obtain ⟨a, len, cap, rfl⟩ := okWide_slice Try.underlying27 (hval 1 27 v1 rfl rfl)
    obtain ⟨fuel, hf⟩ := h1
    obtain ⟨A, c, xs, e, hl, hC⟩ := open_nums hf
    simp [Value.cells] at e
    obtain ⟨rfl, rfl, rfl⟩ := e
    exact ⟨a, cap, xs, rfl, hl, hC⟩
  subst e1
  clear hA0 hval0 hsz0 hsz
  refine (S.has_law n0 a0 cap0 x0 a1 cap1 x1 W z0 le0 z1 le1).mono fun e W' ⟨he, bel⟩ => ?_
  subst he
  exact ⟨_, rfl, _, _, _, [], _, [], hW', trodAll_mk1 (shut_bool Try.underlying4 _), (trodAll_cons_mk (Below.trod laidOut (by kernel_rfl) (of_decide_eq_true (by kernel_rfl)) k0 bel lt0) (trodAll_cons_mk (Below.trod laidOut (by kernel_rfl) (of_decide_eq_true (by kernel_rfl)) k1 bel lt1) trodAll_mk0)), rfl, bel.frame _, fun h => by cases h⟩
theorem over : Rows.packHasRow.holds Try.pinned (OpenSpec.ofChange Rows.packHasSpec) :=
  OpenClaim.holds_of_wide 8 Try.f8 rfl rfl rfl rfl rfl rfl rfl ⟨rfl, rfl, rfl, rfl, rfl⟩ rfl rfl rfl rfl rfl (by kernel_rfl) Try.func8 (by kernel_rfl)
    (of_decide_eq_true (by kernel_rfl)) (by unfold Func.isWrapper; first | (rw [if_pos (by decide +kernel)]; kernel_rfl) | (rw [if_neg (by decide +kernel)]; exact ⟨rfl, rfl⟩))
    (fun os started H enc _ => lifted os started H enc)
theorem proved : Rows.PackHasSaid := over
#print axioms proved
end Go.Proofs.Ytmekcfkfkpbfeaa.packHas
namespace Go.Proofs.Ytmekcfkfkpbfeaa
/-- The row, under a short name, for the claim. -/
theorem packHas_holds : Rows.PackHasSaid := packHas.proved
end Go.Proofs.Ytmekcfkfkpbfeaa
