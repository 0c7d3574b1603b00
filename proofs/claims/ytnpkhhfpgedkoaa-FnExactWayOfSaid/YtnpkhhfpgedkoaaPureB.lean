/- The plain law of B. -/
import Derived.Test.YtnpkhhfpgedkoaaPureA
set_option linter.unusedVariables false
set_option maxRecDepth 100000
set_option maxHeartbeats 1600000
namespace Go.Proofs.Ytnpkhhfpgedkoaa
open Go
theorem toStroke_eq {x : List Int × List Int × Int} (h0 : x.1.length = 2) (h1 : x.2.1.length = 2) : laws_toStroke x = some x := by
  unfold laws_toStroke
  rw [toMark_eq h0, toMark_eq h1]
  rfl
/-- A mark's numbers are in reach. -/
def markOk (x : List Int) : Bool := decide (-500 ≤ nth x 0 ∧ nth x 0 ≤ 500 ∧ -500 ≤ nth x 1 ∧ nth x 1 ≤ 500)
theorem spec_mark_eq (x : List Int) : spec_l06Mark x = some (markOk x) := by
  unfold spec_l06Mark spec_l00In markOk
  simp only [Option.bind_some]
  by_cases h : (-500 ≤ nth x 0 ∧ nth x 0 ≤ 500)
  · simp [h]
  · rw [if_neg (by simpa using h), decide_eq_false (fun k => h ⟨k.1, k.2.1⟩)]; rfl
theorem impl_c1_eq (x : List Int) : impl_areMarks_c1 x = some (!markOk x) := by
  unfold impl_areMarks_c1 impl_within markOk
  simp only [Option.bind_some]
  by_cases h : (-500 ≤ nth x 0 ∧ nth x 0 ≤ 500)
  · simp [h]
  · rw [if_pos (by simp; omega), decide_eq_false (fun k => h ⟨k.1, k.2.1⟩)]; rfl
theorem areMarks_eq {xs : List (List Int)} (h : xs.length ≤ 9223372036854775807) : impl_areMarks xs = some (xs.all markOk) := by
  have e : slices_ContainsFunc_Mark_Mark xs impl_areMarks_c1 = some (xs.any fun x => !markOk x) := containsOf h fun x _ => impl_c1_eq x
  unfold impl_areMarks
  rw [e]
  simp [List.not_any_eq_all_not]
theorem isDash_eq (x : Int) : impl_isDash x = some (decide (0 ≤ x ∧ x ≤ 3)) := by
  unfold impl_isDash impl_within
  simp
theorem specDash_eq (x : Int) : spec_l06Dash x = some (decide (0 ≤ x ∧ x ≤ 3)) := by
  unfold spec_l06Dash
  simp
def strokeOk (x : List Int × List Int × Int) : Bool := markOk x.1 && markOk x.2.1 && decide (0 ≤ x.2.2 ∧ x.2.2 ≤ 3)
theorem specOk_eq (x : List Int × List Int × Int) : spec_l06Ok x = some (strokeOk x) := by
  unfold spec_l06Ok strokeOk
  simp only [spec_mark_eq, specDash_eq, Option.bind_some]
  cases markOk x.1 <;> cases markOk x.2.1 <;> simp
theorem validStroke_eq (x : List Int × List Int × Int) : impl_ValidStroke x = some (strokeOk x) := by
  unfold impl_ValidStroke strokeOk
  simp only [areMarks_eq (xs := [x.1, x.2.1]) (by simp), isDash_eq, Option.bind_some, List.all_cons, List.all_nil, Bool.and_true]
  cases markOk x.1 <;> cases markOk x.2.1 <;> simp
theorem within_eq (a : Int) : impl_within a 0 63 = some (decide (0 ≤ a ∧ a < 64)) := by
  unfold impl_within
  congr 1
  rw [Bool.eq_iff_iff]
  simp
  omega
theorem impl_isOn_eq (x : List Int) : impl_isOn x = some (decide (0 ≤ nth x 0 ∧ nth x 0 < 64 ∧ 0 ≤ nth x 1 ∧ nth x 1 < 64)) := by
  unfold impl_isOn
  simp only [within_eq, Option.bind_some]
  by_cases h : (0 ≤ nth x 0 ∧ nth x 0 < 64)
  · simp [h]
  · rw [if_neg (by simpa using h), decide_eq_false (fun k => h ⟨k.1, k.2.1⟩)]; rfl
theorem spec_isOn_eq (x : List Int) : spec_l06On x = some (decide (0 ≤ nth x 0 ∧ nth x 0 < 64 ∧ 0 ≤ nth x 1 ∧ nth x 1 < 64)) := by
  unfold spec_l06On
  simp [Bool.and_assoc]
end Go.Proofs.Ytnpkhhfpgedkoaa
