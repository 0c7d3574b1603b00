/- The plain law of HasInk. -/
import Derived.Test.YtnpkhhfpgedkoaaFA
import Derived.Test.YtnpkhhfpgedkoaaWords
set_option linter.unusedVariables false
namespace Go.Proofs.Ytnpkhhfpgedkoaa
open Go
theorem toSheet_eq {x : List Int} (h : x.length = 64) : laws_toSheet x = some x := by
  unfold laws_toSheet
  rw [copy_loop (m := 64) (x := x) (by decide) h (by simp) (fun i a r hi hr ha => ?_) (fun r => ?_)]
  · rfl
  · unfold laws_toSheet_l1
    simp only
    rw [if_pos (by simp; omega), idx_nat ha]
    simp only [Option.bind_some]
    rw [idx_nat (List.getElem?_eq_getElem (show i < r.length by omega))]
    simp only [Option.bind_some]
    rw [wrap64 (by omega) (by omega)]
    simp
  · rfl
theorem toMark_eq {x : List Int} (h : x.length = 2) : laws_toMark x = some x := by
  unfold laws_toMark
  rw [copy_loop (m := 2) (x := x) (by decide) h (by simp) (fun i a r hi hr ha => ?_) (fun r => ?_)]
  · rfl
  · unfold laws_toMark_l1
    simp only
    rw [if_pos (by simp; omega), idx_nat ha]
    simp only [Option.bind_some]
    rw [idx_nat (List.getElem?_eq_getElem (show i < r.length by omega))]
    simp only [Option.bind_some]
    rw [wrap64 (by omega) (by omega)]
    simp
  · rfl
theorem within_eq (a : Int) : impl_within a 0 63 = some (decide (0 ≤ a ∧ a < 64)) := by
  unfold impl_within
  congr 1
  rw [Bool.eq_iff_iff]
  simp
  omega
theorem impl_isOn_eq (x : List Int) : impl_isOn x = some (decide (0 ≤ nth x 0 ∧ nth x 0 < 64 ∧ 0 ≤ nth x 1 ∧ nth x 1 < 64)) := by
  unfold impl_isOn
  simp only [within_eq, Option.bind_some]
  by_cases h : (0 ≤ nth x 0 ∧ nth x 0 < 64)
  · simp [h]
  · rw [if_neg (by simpa using h), decide_eq_false (fun k => h ⟨k.1, k.2.1⟩)]; rfl
theorem spec_isOn_eq (x : List Int) : spec_l06On x = some (decide (0 ≤ nth x 0 ∧ nth x 0 < 64 ∧ 0 ≤ nth x 1 ∧ nth x 1 < 64)) := by
  unfold spec_l06On
  simp [Bool.and_assoc]
theorem pure_FnExactHasInk (x0 : (List Int)) (x1 : (List Int)) (g0 : (x0.length = 64 ∧ ∀ e ∈ x0, (IntKind.u64.min ≤ e ∧ e ≤ IntKind.u64.max))) (g1 : (x1.length = 2 ∧ ∀ e ∈ x1, (IntKind.i16.min ≤ e ∧ e ≤ IntKind.i16.max))) : laws_FnExactHasInk x0 x1 = some true := by
  unfold laws_FnExactHasInk spec_HasInk impl_HasInk
  simp only [toSheet_eq g0.1, toMark_eq g1.1, Option.bind_some, impl_isOn_eq, spec_isOn_eq]
  by_cases h : (0 ≤ nth x1 0 ∧ nth x1 0 < 64 ∧ 0 ≤ nth x1 1 ∧ nth x1 1 < 64)
  · rw [idx_in h.2.2.1 (by omega), wrap_in .u64 (n := nth x1 0) (by have := h.1; simp [IntKind.min, IntKind.signed]; exact this) (by simp [IntKind.max, IntKind.signed, IntKind.bits]; omega)]
    simp [h, need]
  · simp [h]
end Go.Proofs.Ytnpkhhfpgedkoaa
