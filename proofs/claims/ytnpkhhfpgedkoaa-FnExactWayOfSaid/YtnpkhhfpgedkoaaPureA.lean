/- Plain laws: what the sheets' copies are. -/
import Derived.Test.YtnpkhhfpgedkoaaFA
import Derived.Test.YtnpkhhfpgedkoaaWords
set_option linter.unusedVariables false
namespace Go.Proofs.Ytnpkhhfpgedkoaa
open Go
theorem toSheet_eq {x : List Int} (h : x.length = 64) : laws_toSheet x = some x := by
  unfold laws_toSheet
  rw [copy_loop (m := 64) (x := x) (by decide) h (by simp) (fun i a r hi hr ha => ?_) (fun r => ?_)]
  · rfl
  · unfold laws_toSheet_l1
    simp only
    rw [if_pos (by simp; omega), idx_nat ha]
    simp only [Option.bind_some]
    rw [idx_nat (List.getElem?_eq_getElem (show i < r.length by omega))]
    simp only [Option.bind_some]
    rw [wrap64 (by omega) (by omega)]
    simp
  · rfl
theorem toMark_eq {x : List Int} (h : x.length = 2) : laws_toMark x = some x := by
  unfold laws_toMark
  rw [copy_loop (m := 2) (x := x) (by decide) h (by simp) (fun i a r hi hr ha => ?_) (fun r => ?_)]
  · rfl
  · unfold laws_toMark_l1
    simp only
    rw [if_pos (by simp; omega), idx_nat ha]
    simp only [Option.bind_some]
    rw [idx_nat (List.getElem?_eq_getElem (show i < r.length by omega))]
    simp only [Option.bind_some]
    rw [wrap64 (by omega) (by omega)]
    simp
  · rfl
end Go.Proofs.Ytnpkhhfpgedkoaa
