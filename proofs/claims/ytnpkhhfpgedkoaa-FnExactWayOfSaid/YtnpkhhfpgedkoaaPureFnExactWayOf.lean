/- The plain law of WayOf: both sides tell the same way. -/
import Derived.Test.YtnpkhhfpgedkoaaPureW
set_option linter.unusedVariables false
set_option maxRecDepth 100000
set_option maxHeartbeats 1600000
namespace Go.Proofs.Ytnpkhhfpgedkoaa
open Go
theorem pure_FnExactWayOf (x0 : (List ((List Int) × (List Int) × Int))) (x1 : (List Int)) (x2 : (List Bool)) (x3 : (List Int))
    (g0 : (x0.length ≤ 9223372036854775807 ∧ ∀ e ∈ x0, ((e.1.length = 2 ∧ ∀ e1 ∈ e.1, (IntKind.i16.min ≤ e1 ∧ e1 ≤ IntKind.i16.max)) ∧ ((e.2.1.length = 2 ∧ ∀ e1 ∈ e.2.1, (IntKind.i16.min ≤ e1 ∧ e1 ≤ IntKind.i16.max)) ∧ (IntKind.i8.min ≤ e.2.2 ∧ e.2.2 ≤ IntKind.i8.max)))))
    (g1 : (x1.length ≤ 9223372036854775807 ∧ ∀ e ∈ x1, (IntKind.i64.min ≤ e ∧ e ≤ IntKind.i64.max))) (g2 : (x2.length ≤ 9223372036854775807 ∧ ∀ e ∈ x2, True)) (g3 : (x3.length = 2 ∧ ∀ e ∈ x3, (IntKind.i16.min ≤ e ∧ e ≤ IntKind.i16.max))) : laws_FnExactWayOf x0 x1 x2 x3 = some true := by
  have h2 : ∀ s ∈ x0, s.1.length = 2 ∧ s.2.1.length = 2 := fun s hs => ⟨(g0.2 s hs).1.1, (g0.2 s hs).2.1.1⟩
  unfold laws_FnExactWayOf
  by_cases l1 : 1048576 < (x1.length : Int)
  · simp [l1]
  · by_cases l2 : 1048576 < (x2.length : Int)
    · simp [l1, l2]
    · obtain ⟨v, hv, hl⟩ := szStrokeS_eq g0.1
      simp only [l1, l2, decide_false, Bool.false_eq_true, if_false, hv, Option.bind_some]
      by_cases h : v < 0
      · simp [h]
      · have hl := hl (by omega)
        obtain ⟨y, e1, e2⟩ := way_eq (xs := x0) (o := x1) (t := x2) (s := x3) (by omega) (by omega)
        simp [h, toMark_eq g3.1, toStrokeS_eq h2 hl, toInt64S_eq (xs := x1) (by omega), toBoolS_eq (xs := x2) (by omega), e1, e2, eqStrokeS_self h2 (by omega), eqInt64S_self (xs := x1) (by omega), eqBoolS_self (xs := x2) (by omega)]
end Go.Proofs.Ytnpkhhfpgedkoaa
