/- What the printed functions of layer 5 come to: differences, ways, the least differences. No condition. -/
import Derived.Test.YtpfbdpeohlohoaaS1
namespace Go.Proofs.Ytpfbdpeohlohoaa.S
open Go.Proofs.Ytpfbdpeohlohoaa.Ga Go.Proofs.Ytpfbdpeohlohoaa.H Go.Proofs.Ytpfbdpeohlohoaa.M
open Go.RowKit Go.Proofs.YtpfbdpeohlohoaaW.PrintWords Go.Proofs.YtpfbdpeohlohoaaW.PrintLast Go.Proofs.YtpfbdpeohlohoaaW.PrintMore
set_option linter.unusedVariables false
set_option linter.unusedSimpArgs false
/-- Pulls of a size at which no sum wraps. -/
structure Sm (l : List Int) : Prop where
  len : l.length < 1000
  le : ∀ p ∈ l, 0 ≤ p ∧ p ≤ 1000000
theorem Sm.at {l : List Int} (h : Sm l) (i : Nat) (hi : i < l.length) : 0 ≤ l[i] ∧ l[i] ≤ 1000000 := h.le _ (List.getElem_mem hi)
theorem Ok.sm {l : List Int} (h : Ok l) (hl : l.length < 1000) : Sm l := ⟨hl, fun p hp => ⟨by have := h.2 p hp; omega, (h.2 p hp).2⟩⟩
/-! ### How many sides have a difference -/
/-! ### The least difference -/
/-! ### .. by the reference -/
end Go.Proofs.Ytpfbdpeohlohoaa.S
