/- The plain law of FnExactIsDrawn. -/
import Derived.Test.YtnpkhhfpgedkoaaPureA
set_option linter.unusedVariables false
set_option maxRecDepth 100000
set_option maxHeartbeats 1600000
namespace Go.Proofs.Ytnpkhhfpgedkoaa
open Go
theorem pure_FnExactIsDrawn (x0 : Int) (x1 : Int) (g0 : (IntKind.i8.min ≤ x0 ∧ x0 ≤ IntKind.i8.max)) (g1 : (IntKind.i64.min ≤ x1 ∧ x1 ≤ IntKind.i64.max)) : laws_FnExactIsDrawn x0 x1 = some true := by
  have e : spec_IsDrawn x0 x1 = impl_IsDrawn x0 x1 := by
    unfold spec_IsDrawn impl_IsDrawn spec_l06Drawn
    by_cases h : 0 ≤ x1
    · simp only [h, decide_true, if_true, show ¬ x1 < 0 by omega, decide_false, Bool.false_eq_true, if_false]
      (repeat' split) <;> rfl
    · simp [h, show x1 < 0 by omega]
  unfold laws_FnExactIsDrawn
  rw [e]
  obtain ⟨b, hb⟩ : ∃ b, impl_IsDrawn x0 x1 = some b := by
    unfold impl_IsDrawn
    (repeat' split) <;> exact ⟨_, rfl⟩
  rw [hb]
  simp
end Go.Proofs.Ytnpkhhfpgedkoaa
