/- The plain law of DrawStroke: both sides draw the same sheet. -/
import Derived.Test.YtnpkhhfpgedkoaaPureD
import Derived.Test.YtnpkhhfpgedkoaaFC
set_option linter.unusedVariables false
set_option maxRecDepth 100000
set_option maxHeartbeats 1600000
namespace Go.Proofs.Ytnpkhhfpgedkoaa
open Go
theorem pure_FnExactDrawStroke (x0 : (List Int)) (x1 : ((List Int) × (List Int) × Int)) (g0 : (x0.length = 64 ∧ ∀ e ∈ x0, (IntKind.u64.min ≤ e ∧ e ≤ IntKind.u64.max)))
    (g1 : ((x1.1.length = 2 ∧ ∀ e ∈ x1.1, (IntKind.i16.min ≤ e ∧ e ≤ IntKind.i16.max)) ∧ ((x1.2.1.length = 2 ∧ ∀ e ∈ x1.2.1, (IntKind.i16.min ≤ e ∧ e ≤ IntKind.i16.max)) ∧ (IntKind.i8.min ≤ x1.2.2 ∧ x1.2.2 ≤ IntKind.i8.max)))) : laws_FnExactDrawStroke x0 x1 = some true := by
  have h2 : ∀ s ∈ [x1], s.1.length = 2 ∧ s.2.1.length = 2 := fun s hs => by simp at hs; subst hs; exact ⟨g1.1.1, g1.2.1.1⟩
  unfold laws_FnExactDrawStroke spec_DrawStroke impl_DrawStroke impl_DrawStrokes
  simp only [toSheet_eq g0.1, toStroke_eq g1.1.1 g1.2.1.1, Option.bind_some, implCode_eq (xs := [x1]) (by simp), specOk_eq]
  by_cases h : strokeOk x1 = true
  · have hs : strokeIs x1 := ⟨g1.1.1, g1.2.1.1, h⟩
    obtain ⟨e1, e2⟩ := specStroke_eq hs g0.1
    have k2 := fold_loop (f := impl_DrawStrokes_l1 [x1]) (n := 1) (r0 := x0) (fun i r => drawOn x1 r) (fun r => r.length = 64) (by omega) g0.1 (fun i r hi hr => ⟨by
      have : i = 0 := by omega
      subst this
      unfold impl_DrawStrokes_l1
      simp [idx, implDraw_eq hs hr]
      rfl, (specStroke_eq hs hr).2⟩) (fun r hr => by unfold impl_DrawStrokes_l1; simp)
    have e3 : codeI [x1] = 0 := by simp [codeI, h]
    simp [h, e1, e3, k2.1, fold, eqSheet_self e2]
  · have e3 : codeI [x1] = 1 := by simp [codeI, h]
    have hf : strokeOk x1 = false := by simpa using h
    have e4 := eqSheet_self (x := List.replicate 64 0) List.length_replicate
    simp only [hf, e3, Bool.not_false, if_true, Option.bind_some, ne_eq, decide_true, e4, Int.reduceEq, not_false_eq_true]
    rfl
end Go.Proofs.Ytnpkhhfpgedkoaa
