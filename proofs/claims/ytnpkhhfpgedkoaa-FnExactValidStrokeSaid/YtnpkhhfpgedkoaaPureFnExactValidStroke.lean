/- The plain law of FnExactValidStroke. -/
import Derived.Test.YtnpkhhfpgedkoaaPureB
set_option linter.unusedVariables false
set_option maxRecDepth 100000
set_option maxHeartbeats 1600000
namespace Go.Proofs.Ytnpkhhfpgedkoaa
open Go
theorem pure_FnExactValidStroke (x0 : ((List Int) × (List Int) × Int)) (g0 : ((x0.1.length = 2 ∧ ∀ e ∈ x0.1, (IntKind.i16.min ≤ e ∧ e ≤ IntKind.i16.max)) ∧ ((x0.2.1.length = 2 ∧ ∀ e ∈ x0.2.1, (IntKind.i16.min ≤ e ∧ e ≤ IntKind.i16.max)) ∧ (IntKind.i8.min ≤ x0.2.2 ∧ x0.2.2 ≤ IntKind.i8.max)))) : laws_FnExactValidStroke x0 = some true := by
  unfold laws_FnExactValidStroke spec_ValidStroke
  simp only [toStroke_eq g0.1.1 g0.2.1.1, specOk_eq, validStroke_eq, Option.bind_some]
  simp
end Go.Proofs.Ytnpkhhfpgedkoaa
