/-
  What the functions compute, as plain functions.
-/
import Derived.Test.YtnpkhhfpgedkoaaFB
set_option linter.unusedVariables false
set_option maxHeartbeats 1600000
set_option maxRecDepth 100000
namespace Go.Proofs.Ytnpkhhfpgedkoaa
open Go
def spec_DrawStroke (x0 : (List Int)) (x1 : ((List Int) × (List Int) × Int)) : Option ((List Int) × Int) := (spec_l06Ok x1).bind fun x6 => (if (!x6) = true then some (((List.replicate 64 0) : (List Int)), 1) else (spec_l06Stroke x0 x1).bind fun x9 => some (x9, 0))
def impl_DrawStroke (x0 : (List Int)) (x1 : ((List Int) × (List Int) × Int)) : Option ((List Int) × Int) := (impl_DrawStrokes x0 ([x1] : List ((List Int) × (List Int) × Int))).bind fun x9 => some (x9.1, x9.2)
def laws_FnExactDrawStroke (x0 : (List Int)) (x1 : ((List Int) × (List Int) × Int)) : Option Bool := (laws_toSheet x0).bind fun x11 => (laws_toStroke x1).bind fun x13 => (spec_DrawStroke x11 x13).bind fun x14 => (laws_toSheet x0).bind fun x19 => (laws_toStroke x1).bind fun x21 => (impl_DrawStroke x19 x21).bind fun x22 => (laws_eqSheet x22.1 x14.1).bind fun x27 => (if ((!x27) || (decide (x22.2 ≠ x14.2))) = true then some false else some true)
end Go.Proofs.Ytnpkhhfpgedkoaa
