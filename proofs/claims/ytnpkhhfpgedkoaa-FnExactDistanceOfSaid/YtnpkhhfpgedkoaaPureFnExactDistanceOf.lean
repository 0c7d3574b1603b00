/- The plain law of FnExactDistanceOf. -/
import Derived.Test.YtnpkhhfpgedkoaaPureA
set_option linter.unusedVariables false
set_option maxRecDepth 100000
set_option maxHeartbeats 1600000
namespace Go.Proofs.Ytnpkhhfpgedkoaa
open Go
theorem i16_rng {n : Int} (h : IntKind.i16.min ≤ n ∧ n ≤ IntKind.i16.max) : -32768 ≤ n ∧ n ≤ 32767 := by
  have h1 : IntKind.i16.min = -32768 := by decide
  have h2 : IntKind.i16.max = 32767 := by decide
  omega
theorem pure_FnExactDistanceOf (x0 : (List Int)) (x1 : (List Int)) (g0 : (x0.length = 2 ∧ ∀ e ∈ x0, (IntKind.i16.min ≤ e ∧ e ≤ IntKind.i16.max))) (g1 : (x1.length = 2 ∧ ∀ e ∈ x1, (IntKind.i16.min ≤ e ∧ e ≤ IntKind.i16.max))) : laws_FnExactDistanceOf x0 x1 = some true := by
  unfold laws_FnExactDistanceOf spec_DistanceOf spec_l06Distance spec_l06Far spec_l00Max impl_DistanceOf
  simp only [toMark_eq g0.1, toMark_eq g1.1, Option.bind_some]
  have a0 := i16_rng (g0.2 _ (nth_mem (i := 0) (by omega)))
  have a1 := i16_rng (g0.2 _ (nth_mem (i := 1) (by omega)))
  have b0 := i16_rng (g1.2 _ (nth_mem (i := 0) (by omega)))
  have b1 := i16_rng (g1.2 _ (nth_mem (i := 1) (by omega)))
  generalize nth x0 0 = a at *
  generalize nth x0 1 = b at *
  generalize nth x1 0 = c at *
  generalize nth x1 1 = d at *
  rw [wrap64 (n := a - c) (by omega) (by omega), wrap64 (n := b - d) (by omega) (by omega), wrap64 (n := 0 - (a - c)) (by omega) (by omega), wrap64 (n := 0 - (b - d)) (by omega) (by omega)]
  by_cases h1 : a - c < 0 <;> by_cases h2 : b - d < 0 <;> simp only [h1, h2, decide_true, decide_false, if_true, Option.bind_some, Bool.false_eq_true, if_false]
  all_goals (split <;> simp only [Option.bind_some] <;> rename_i h3 <;> simp only [decide_eq_true_eq] at h3)
  all_goals rw [if_neg (by simp only [decide_eq_true_eq, Int.max_def]; (repeat' split) <;> omega)]
end Go.Proofs.Ytnpkhhfpgedkoaa
