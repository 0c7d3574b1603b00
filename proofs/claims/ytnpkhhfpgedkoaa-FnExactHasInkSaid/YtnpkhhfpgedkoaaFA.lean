/-
  What the functions compute, as plain functions.
-/
import Derived.Test.YtnpkhhfpgedkoaaPure
set_option linter.unusedVariables false
set_option maxHeartbeats 1600000
set_option maxRecDepth 100000
namespace Go.Proofs.Ytnpkhhfpgedkoaa
open Go
def laws_toSheet_l1 (x0 : (List Int)) : (Int × (List Int)) → Option ((Int × (List Int)) ⊕ (Int × (List Int))) := fun (s4, sr2) => (if (decide (s4 < 64)) = true then (idx x0 s4).bind fun x11 => (idx sr2 s4).bind fun x13 => some (.inl ((IntKind.i64.wrap (s4 + 1)), (sr2.set s4.toNat x11))) else some (.inr (s4, sr2)))
def laws_toSheet (x0 : (List Int)) : Option (List Int) := (loopN rounds (laws_toSheet_l1 x0) (0, (List.replicate 64 0))).bind fun (o4, or2) => some or2
def laws_toMark_l1 (x0 : (List Int)) : (Int × (List Int)) → Option ((Int × (List Int)) ⊕ (Int × (List Int))) := fun (s4, sr2) => (if (decide (s4 < 2)) = true then (idx x0 s4).bind fun x11 => (idx sr2 s4).bind fun x13 => some (.inl ((IntKind.i64.wrap (s4 + 1)), (sr2.set s4.toNat x11))) else some (.inr (s4, sr2)))
def laws_toMark (x0 : (List Int)) : Option (List Int) := (loopN rounds (laws_toMark_l1 x0) (0, (List.replicate 2 0))).bind fun (o4, or2) => some or2
def spec_l06On (x0 : (List Int)) : Option Bool := some ((((decide (0 ≤ (nth x0 0))) && (decide ((nth x0 0) < 64))) && (decide (0 ≤ (nth x0 1)))) && (decide ((nth x0 1) < 64)))
def spec_HasInk (x0 : (List Int)) (x1 : (List Int)) : Option Bool := (spec_l06On x1).bind fun x6 => ((if x6 = true then (idx x0 (nth x1 1)).bind fun x10 => some (decide ((bitop .and .u64 (Int.fdiv x10 (2 ^ (min (IntKind.u64.wrap (nth x1 0)).toNat IntKind.u64.bits))) 1) = 1)) else some false)).bind fun x18 => some x18
def impl_within (x0 : Int) (x1 : Int) (x2 : Int) : Option Bool := some ((decide (x1 ≤ x0)) && (decide (x0 ≤ x2)))
def impl_isOn (x0 : (List Int)) : Option Bool := (impl_within (nth x0 0) 0 63).bind fun x6 => ((if x6 = true then (impl_within (nth x0 1) 0 63).bind fun x11 => some x11 else some false)).bind fun x12 => some x12
def impl_HasInk (x0 : (List Int)) (x1 : (List Int)) : Option Bool := (impl_isOn x1).bind fun x6 => ((if x6 = true then (idx x0 (nth x1 1)).bind fun x10 => (need (decide (0 ≤ (nth x1 0)))).bind fun _u14 => some (decide ((bitop .and .u64 (Int.fdiv x10 (2 ^ (min (nth x1 0).toNat IntKind.u64.bits))) 1) = 1)) else some false)).bind fun x17 => some x17
def laws_FnExactHasInk (x0 : (List Int)) (x1 : (List Int)) : Option Bool := (laws_toSheet x0).bind fun x8 => (laws_toMark x1).bind fun x10 => (spec_HasInk x8 x10).bind fun x11 => (laws_toSheet x0).bind fun x13 => (laws_toMark x1).bind fun x15 => (impl_HasInk x13 x15).bind fun x16 => (if (x16 != x11) = true then some false else some true)
end Go.Proofs.Ytnpkhhfpgedkoaa
