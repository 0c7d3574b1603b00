/-
  What the functions compute, as plain functions.
-/
import Derived.Test.YtnpkhhfpgedkoaaPure
set_option linter.unusedVariables false
set_option maxHeartbeats 1600000
set_option maxRecDepth 100000
namespace Go.Proofs.Ytnpkhhfpgedkoaa
open Go
def laws_toSpot_l1 (x0 : (List Nat)) : (Int × (List Nat)) → Option ((Int × (List Nat)) ⊕ (Int × (List Nat))) := fun (s4, sr2) => (if (decide (s4 < 2)) = true then (idx x0 s4).bind fun x11 => (idx sr2 s4).bind fun x13 => some (.inl ((IntKind.i64.wrap (s4 + 1)), (sr2.set s4.toNat x11))) else some (.inr (s4, sr2)))
def laws_toSpot (x0 : (List Nat)) : Option (List Nat) := (loopN rounds (laws_toSpot_l1 x0) (0, (List.replicate 2 0))).bind fun (o4, or2) => some or2
def spec_l01Plain (x0 : Nat) : Option Bool := some ((fgeq .f32 x0 3379831808) && (fleq .f32 x0 1232348160))
def spec_IsPlain (x0 : Nat) : Option Bool := (spec_l01Plain x0).bind fun x4 => some x4
def math_Floor (x0 : Nat) : Option Nat := some (ffloor x0)
def spec_l06Rounded (x0 : Nat) : Option Int := (fconv .f32 .f64 x0).bind fun x5 => (math_Floor x5).bind fun x6 => (if (fgtr .f64 x6 4666723172467343360) = true then some 10000 else (if (flss .f64 x6 13890095209322119168) = true then some (-10000) else (ftoI .f64 .i64 x6).bind fun x12 => some x12))
def spec_l00Min (x0 : Int) (x1 : Int) : Option Int := (if (decide (x0 < x1)) = true then some x0 else some x1)
def spec_l00Max (x0 : Int) (x1 : Int) : Option Int := (if (decide (x1 < x0)) = true then some x0 else some x1)
def spec_l06MarkOf (x0 : (List Nat)) (x1 : Nat) : Option (List Int) := (spec_l06Rounded (fadd .f32 (fmul .f32 (nth x0 0) x1) 1056964608)).bind fun x12 => (spec_l06Rounded (fadd .f32 (fmul .f32 (nth x0 1) x1) 1056964608)).bind fun x19 => (spec_l00Min 500 (IntKind.i64.wrap (32 + x12))).bind fun x22 => (spec_l00Max (-500) x22).bind fun x23 => (spec_l00Min 500 (IntKind.i64.wrap (32 - x19))).bind fun x26 => (spec_l00Max (-500) x26).bind fun x27 => some ([(IntKind.i16.wrap x23), (IntKind.i16.wrap x27)] : (List Int))
def spec_MarkOf (x0 : (List Nat)) (x1 : Nat) : Option ((List Int) × Int) := (spec_IsPlain (nth x0 0)).bind fun x8 => ((if (!x8) = true then some true else (spec_IsPlain (nth x0 1)).bind fun x13 => some (!x13))).bind fun x15 => ((if x15 = true then some true else (spec_IsPlain x1).bind fun x18 => some (!x18))).bind fun x20 => (if x20 = true then some (((List.replicate 2 0) : (List Int)), 1) else (spec_l06MarkOf x0 x1).bind fun x24 => some (x24, 0))
def slices_IndexFunc_Spot_Spot_l1 (x0 : (List (List Nat))) (x1 : ((List Nat) → Option Bool)) : Int → Option (Int ⊕ (Int ⊕ Int)) := fun s8 => (if (decide (s8 < (x0.length : Int))) = true then (idx x0 s8).bind fun x14 => (x1 x14).bind fun x16 => (if x16 = true then some (.inr (.inr s8)) else some (.inl (IntKind.i64.wrap (s8 + 1)))) else some (.inr (.inl s8)))
def slices_IndexFunc_Spot_Spot (x0 : (List (List Nat))) (x1 : ((List Nat) → Option Bool)) : Option Int := (loopN rounds (slices_IndexFunc_Spot_Spot_l1 x0 x1) 0).bind fun yl3 => (match yl3 with | .inl o8 => some (-1) | .inr rr => some rr)
def slices_ContainsFunc_Spot_Spot (x0 : (List (List Nat))) (x1 : ((List Nat) → Option Bool)) : Option Bool := (slices_IndexFunc_Spot_Spot x0 x1).bind fun x7 => some (decide (0 ≤ x7))
def slices_IndexFunc_float32_float32_l1 (x0 : (List Nat)) (x1 : (Nat → Option Bool)) : Int → Option (Int ⊕ (Int ⊕ Int)) := fun s8 => (if (decide (s8 < (x0.length : Int))) = true then (idx x0 s8).bind fun x14 => (x1 x14).bind fun x16 => (if x16 = true then some (.inr (.inr s8)) else some (.inl (IntKind.i64.wrap (s8 + 1)))) else some (.inr (.inl s8)))
def slices_IndexFunc_float32_float32 (x0 : (List Nat)) (x1 : (Nat → Option Bool)) : Option Int := (loopN rounds (slices_IndexFunc_float32_float32_l1 x0 x1) 0).bind fun yl3 => (match yl3 with | .inl o8 => some (-1) | .inr rr => some rr)
def slices_ContainsFunc_float32_float32 (x0 : (List Nat)) (x1 : (Nat → Option Bool)) : Option Bool := (slices_IndexFunc_float32_float32 x0 x1).bind fun x7 => some (decide (0 ≤ x7))
def impl_IsPlain (x0 : Nat) : Option Bool := some ((fgeq .f32 x0 3379831808) && (fleq .f32 x0 1232348160))
def impl_arePlain_c1 (x0 : Nat) : Option Bool := (impl_IsPlain x0).bind fun x4 => some (!x4)
def impl_arePlain (x0 : (List Nat)) : Option Bool := (slices_ContainsFunc_float32_float32 x0 impl_arePlain_c1).bind fun x4 => some (!x4)
def impl_areSpots_c1 (x0 : (List Nat)) : Option Bool := (impl_arePlain x0).bind fun x4 => some (!x4)
def impl_areSpots (x0 : (List (List Nat))) : Option Bool := (slices_ContainsFunc_Spot_Spot x0 impl_areSpots_c1).bind fun x4 => some (!x4)
def impl_markOf_c1 (x0 : Nat) (x1 : Nat) : Option Int := (fconv .f32 .f64 (fadd .f32 (fmul .f32 x0 x1) 1056964608)).bind fun x8 => (math_Floor x8).bind fun x9 => (ftoI .f64 .i64 x9).bind fun x10 => some x10
def impl_markOf_c2 (x0 : Int) : Option Int := some (IntKind.i16.wrap (min (max x0 (-500)) 500))
def impl_markOf (x0 : (List Nat)) (x1 : Nat) : Option (List Int) := ((fun (a0 : Nat) => impl_markOf_c1 a0 x1) (nth x0 0)).bind fun x12 => (impl_markOf_c2 (IntKind.i64.wrap (32 + x12))).bind fun x14 => ((fun (a0 : Nat) => impl_markOf_c1 a0 x1) (nth x0 1)).bind fun x19 => (impl_markOf_c2 (IntKind.i64.wrap (32 - x19))).bind fun x21 => some ([x14, x21] : (List Int))
def impl_MarkOf (x0 : (List Nat)) (x1 : Nat) : Option ((List Int) × Int) := (impl_areSpots ([x0] : List (List Nat))).bind fun x8 => ((if (!x8) = true then some true else (impl_IsPlain x1).bind fun x12 => some (!x12))).bind fun x14 => (if x14 = true then some (((List.replicate 2 0) : (List Int)), 1) else (impl_markOf x0 x1).bind fun x18 => some (x18, 0))
def laws_eqMark_l1 (x0 : (List Int)) (x1 : (List Int)) : Int → Option (Int ⊕ (Int ⊕ Bool)) := fun s5 => (if (decide (s5 < 2)) = true then (idx x0 s5).bind fun x11 => (idx x1 s5).bind fun x14 => (if (decide (x11 ≠ x14)) = true then some (.inr (.inr false)) else some (.inl (IntKind.i64.wrap (s5 + 1)))) else some (.inr (.inl s5)))
def laws_eqMark (x0 : (List Int)) (x1 : (List Int)) : Option Bool := (loopN rounds (laws_eqMark_l1 x0 x1) 0).bind fun yl3 => (match yl3 with | .inl o5 => some true | .inr rr => some rr)
def laws_FnExactMarkOf (x0 : (List Nat)) (x1 : Nat) : Option Bool := (laws_toSpot x0).bind fun x11 => (spec_MarkOf x11 x1).bind fun x13 => (laws_toSpot x0).bind fun x18 => (impl_MarkOf x18 x1).bind fun x20 => (laws_eqMark x20.1 x13.1).bind fun x25 => (if ((!x25) || (decide (x20.2 ≠ x13.2))) = true then some false else some true)
end Go.Proofs.Ytnpkhhfpgedkoaa
