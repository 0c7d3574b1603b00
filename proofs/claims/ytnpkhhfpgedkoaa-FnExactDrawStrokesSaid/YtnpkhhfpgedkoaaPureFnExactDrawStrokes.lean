/- The plain law of DrawStrokes: both sides draw the same sheet. -/
import Derived.Test.YtnpkhhfpgedkoaaPureD
set_option linter.unusedVariables false
set_option maxRecDepth 100000
set_option maxHeartbeats 1600000
namespace Go.Proofs.Ytnpkhhfpgedkoaa
open Go
theorem pure_FnExactDrawStrokes (x0 : (List Int)) (x1 : (List ((List Int) × (List Int) × Int))) (g0 : (x0.length = 64 ∧ ∀ e ∈ x0, (IntKind.u64.min ≤ e ∧ e ≤ IntKind.u64.max)))
    (g1 : (x1.length ≤ 9223372036854775807 ∧ ∀ e ∈ x1, ((e.1.length = 2 ∧ ∀ e1 ∈ e.1, (IntKind.i16.min ≤ e1 ∧ e1 ≤ IntKind.i16.max)) ∧ ((e.2.1.length = 2 ∧ ∀ e1 ∈ e.2.1, (IntKind.i16.min ≤ e1 ∧ e1 ≤ IntKind.i16.max)) ∧ (IntKind.i8.min ≤ e.2.2 ∧ e.2.2 ≤ IntKind.i8.max))))) : laws_FnExactDrawStrokes x0 x1 = some true := by
  obtain ⟨v, hv, hl⟩ := szStrokeS_eq g1.1
  have h2 : ∀ s ∈ x1, s.1.length = 2 ∧ s.2.1.length = 2 := fun s hs => ⟨(g1.2 s hs).1.1, (g1.2 s hs).2.1.1⟩
  unfold laws_FnExactDrawStrokes
  rw [hv]
  simp only [Option.bind_some]
  by_cases h : v < 0
  · simp [h]
  · have hl := hl (by omega)
    obtain ⟨y, hy, e1, e2⟩ := draws_eq (x := x0) h2 g0.1 (by omega)
    simp [h, toSheet_eq g0.1, toStrokeS_eq h2 hl, e1, e2, eqSheet_self hy, eqStrokeS_self h2 (by omega)]
end Go.Proofs.Ytnpkhhfpgedkoaa
