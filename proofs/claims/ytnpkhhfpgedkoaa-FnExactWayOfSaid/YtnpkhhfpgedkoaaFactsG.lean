/-
  Facts of the program that the walks lean on, each by running the kernel.
-/
import Derived.Test.YtnpkhhfpgedkoaaFactsE
set_option linter.unusedVariables false
set_option maxHeartbeats 1600000
set_option maxRecDepth 100000
namespace Go.Proofs.Ytnpkhhfpgedkoaa
open Go
theorem i2 : (Try.prog.info? 2).map (fun i => (i.zero, i.size, i.bytes)) = some (some (pack (TI .i64).agg ([.int .i64 0])), (TI .i64).n, 8) := by kernel_rfl
abbrev Y79 : Ty (List Bool) := TSl TB
theorem u79 : Try.prog.underlying 79 = some (.slice 4) := by kernel_rfl
theorem i4 : (Try.prog.info? 4).map (fun i => (i.zero, i.size, i.bytes)) = some (some (pack TB.agg ([.bool false])), TB.n, 1) := by kernel_rfl
theorem zc4 : ZeroC TB ([.bool false]) (false : Bool) := z_TB
theorem z4 : ZeroIs Try.prog 4 (pack TB.agg ([.bool false])) := fun w => by kernel_rfl
theorem y4 : TyIs Try.prog 4 TB.n TB.agg := ⟨fun w => by kernel_rfl, fun w => by kernel_rfl⟩
theorem fn121 : FnIs Try.prog 121 := fun args w => by kernel_rfl
theorem fn91 : FnIs Try.prog 91 := fun args w => by kernel_rfl
theorem fn92 : FnIs Try.prog 92 := fun args w => by kernel_rfl
theorem fn122 : FnIs Try.prog 122 := fun args w => by kernel_rfl
theorem fn123 : FnIs Try.prog 123 := fun args w => by kernel_rfl
theorem fn93 : FnIs Try.prog 93 := fun args w => by kernel_rfl
theorem fn94 : FnIs Try.prog 94 := fun args w => by kernel_rfl
theorem fn51 : FnIs Try.prog 51 := fun args w => by kernel_rfl
theorem fn52 : FnIs Try.prog 52 := fun args w => by kernel_rfl
theorem fn49 : FnIs Try.prog 49 := fun args w => by kernel_rfl
theorem fn53 : FnIs Try.prog 53 := fun args w => by kernel_rfl
theorem fn55 : FnIs Try.prog 55 := fun args w => by kernel_rfl
theorem fn56 : FnIs Try.prog 56 := fun args w => by kernel_rfl
theorem ce2 : Try.prog.cellsOf 2 = (TI .i64).n := by kernel_rfl
theorem op78 {H : Type} {enc : TypeId × Value → H} {W : World} : Opens enc Try.prog W 78 Y78 := o_sl u78 ce2 op2
theorem ce4 : Try.prog.cellsOf 4 = TB.n := by kernel_rfl
theorem op4 {H : Type} {enc : TypeId × Value → H} {W : World} : Opens enc Try.prog W 4 TB := o_bool u4
theorem op79 {H : Type} {enc : TypeId × Value → H} {W : World} : Opens enc Try.prog W 79 Y79 := o_sl u79 ce4 op4
end Go.Proofs.Ytnpkhhfpgedkoaa
