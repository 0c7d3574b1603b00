/-
  Facts of the program that the walks lean on, each by running the kernel.
-/
import Derived.Test.YtnpkhhfpgedkoaaOpen
import Derived.Test.YtnpkhhfpgedkoaaChecked
set_option linter.unusedVariables false
set_option maxHeartbeats 1600000
set_option maxRecDepth 100000
namespace Go.Proofs.Ytnpkhhfpgedkoaa
open Go
theorem mix : Try.prog.follows .mixedOrders = true := by kernel_rfl
abbrev Y57 : Ty (List Nat) := TArr 2 (TF .f32)
theorem zc60 : ZeroC Y57 ((List.replicate 2 [.float .f32 0]).flatten) ((List.replicate 2 0) : (List Nat)) := (z_arr (z_TF _))
theorem z60 : ZeroIs Try.prog 60 (pack Y57.agg ((List.replicate 2 [.float .f32 0]).flatten)) := fun w => by kernel_rfl
theorem y60 : TyIs Try.prog 60 Y57.n Y57.agg := ⟨fun w => by kernel_rfl, fun w => by kernel_rfl⟩
theorem u57 : Try.prog.underlying 57 = some (.array 2 45) := by kernel_rfl
theorem y45 : TyIs Try.prog 45 (TF .f32).n (TF .f32).agg := ⟨fun w => by kernel_rfl, fun w => by kernel_rfl⟩
theorem u60 : Try.prog.underlying 60 = some (.array 2 45) := by kernel_rfl
theorem fn107 : FnIs Try.prog 107 := fun args w => by kernel_rfl
theorem ex130 : ExtIs Try.prog 130 (Extern.MathFloor.toIntegral "math.archFloor" .down) := fun args w => run_callFunc_extern Try.func130 (by kernel_rfl) (by kernel_rfl) (by kernel_rfl) (by kernel_rfl) args w
theorem u45 : Try.prog.underlying 45 = some (.float .f32) := by kernel_rfl
theorem u109 : Try.prog.underlying 109 = some (.float .f64) := by kernel_rfl
theorem fn114 : FnIs Try.prog 114 := fun args w => by kernel_rfl
theorem u2 : Try.prog.underlying 2 = some (.int .i64) := by kernel_rfl
abbrev Y25 : Ty (List Int) := TArr 2 (TI .i16)
theorem zc29 : ZeroC Y25 ((List.replicate 2 [.int .i16 0]).flatten) ((List.replicate 2 0) : (List Int)) := (z_arr (z_TI _))
theorem z29 : ZeroIs Try.prog 29 (pack Y25.agg ((List.replicate 2 [.int .i16 0]).flatten)) := fun w => by kernel_rfl
theorem fn108 : FnIs Try.prog 108 := fun args w => by kernel_rfl
theorem fn109 : FnIs Try.prog 109 := fun args w => by kernel_rfl
theorem fn99 : FnIs Try.prog 99 := fun args w => by kernel_rfl
theorem u24 : Try.prog.underlying 24 = some (.int .i16) := by kernel_rfl
theorem u29 : Try.prog.underlying 29 = some (.array 2 24) := by kernel_rfl
theorem y24 : TyIs Try.prog 24 (TI .i16).n (TI .i16).agg := ⟨fun w => by kernel_rfl, fun w => by kernel_rfl⟩
theorem y29 : TyIs Try.prog 29 Y25.n Y25.agg := ⟨fun w => by kernel_rfl, fun w => by kernel_rfl⟩
theorem fn77 : FnIs Try.prog 77 := fun args w => by kernel_rfl
theorem fn78 : FnIs Try.prog 78 := fun args w => by kernel_rfl
abbrev Y132 : Ty (List (List Nat)) := TSl Y57
theorem u132 : Try.prog.underlying 132 = some (.slice 60) := by kernel_rfl
theorem fn127 : FnIs Try.prog 127 := fun args w => by kernel_rfl
abbrev Y135 : Ty (List Nat) := TSl (TF .f32)
theorem u135 : Try.prog.underlying 135 = some (.slice 45) := by kernel_rfl
theorem fn133 : FnIs Try.prog 133 := fun args w => by kernel_rfl
theorem fn80 : FnIs Try.prog 80 := fun args w => by kernel_rfl
theorem fn129 : FnIs Try.prog 129 := fun args w => by kernel_rfl
theorem fn128 : FnIs Try.prog 128 := fun args w => by kernel_rfl
theorem fn112 : FnIs Try.prog 112 := fun args w => by kernel_rfl
theorem fn111 : FnIs Try.prog 111 := fun args w => by kernel_rfl
theorem fn110 : FnIs Try.prog 110 := fun args w => by kernel_rfl
theorem fn113 : FnIs Try.prog 113 := fun args w => by kernel_rfl
theorem fn115 : FnIs Try.prog 115 := fun args w => by kernel_rfl
theorem fn79 : FnIs Try.prog 79 := fun args w => by kernel_rfl
theorem fn81 : FnIs Try.prog 81 := fun args w => by kernel_rfl
theorem y57 : TyIs Try.prog 57 Y57.n Y57.agg := ⟨fun w => by kernel_rfl, fun w => by kernel_rfl⟩
theorem fn34 : FnIs Try.prog 34 := fun args w => by kernel_rfl
theorem fn33 : FnIs Try.prog 33 := fun args w => by kernel_rfl
theorem fn35 : FnIs Try.prog 35 := fun args w => by kernel_rfl
theorem fn36 : FnIs Try.prog 36 := fun args w => by kernel_rfl
theorem ce57 : Try.prog.cellsOf 57 = Y57.n := by kernel_rfl
theorem ce45 : Try.prog.cellsOf 45 = (TF .f32).n := by kernel_rfl
theorem op45 {H : Type} {enc : TypeId × Value → H} {W : World} : Opens enc Try.prog W 45 (TF .f32) := o_float u45
theorem op57 {H : Type} {enc : TypeId × Value → H} {W : World} : Opens enc Try.prog W 57 Y57 := o_arr u57 ce57 ce45 op45
theorem u4 : Try.prog.underlying 4 = some .bool := by kernel_rfl
end Go.Proofs.Ytnpkhhfpgedkoaa
