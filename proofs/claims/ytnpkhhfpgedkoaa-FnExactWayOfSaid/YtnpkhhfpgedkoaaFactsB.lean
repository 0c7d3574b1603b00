/-
  Facts of the program that the walks lean on, each by running the kernel.
-/
import Derived.Test.YtnpkhhfpgedkoaaFactsA
set_option linter.unusedVariables false
set_option maxHeartbeats 1600000
set_option maxRecDepth 100000
namespace Go.Proofs.Ytnpkhhfpgedkoaa
open Go
abbrev Y77 : Ty (List ((List Int) × (List Int) × Int)) := TSl Y36
theorem u77 : Try.prog.underlying 77 = some (.slice 37) := by kernel_rfl
theorem i40 : (Try.prog.info? 40).map (fun i => (i.zero, i.size, i.bytes)) = some (some (pack Y36.agg (((List.replicate 2 [.int .i16 0]).flatten ++ ((List.replicate 2 [.int .i16 0]).flatten ++ [.int .i8 0])))), Y36.n, 10) := by kernel_rfl
theorem u83 : Try.prog.underlying 83 = some (.slice 40) := by kernel_rfl
theorem i29 : (Try.prog.info? 29).map (fun i => (i.zero, i.size, i.bytes)) = some (some (pack Y25.agg ((List.replicate 2 [.int .i16 0]).flatten)), Y25.n, 4) := by kernel_rfl
theorem fn116 : FnIs Try.prog 116 := fun args w => by kernel_rfl
theorem fn82 : FnIs Try.prog 82 := fun args w => by kernel_rfl
theorem fn120 : FnIs Try.prog 120 := fun args w => by kernel_rfl
theorem fn95 : FnIs Try.prog 95 := fun args w => by kernel_rfl
theorem fn90 : FnIs Try.prog 90 := fun args w => by kernel_rfl
theorem fn132 : FnIs Try.prog 132 := fun args w => by kernel_rfl
abbrev Y78 : Ty (List Int) := TSl (TI .i64)
theorem u78 : Try.prog.underlying 78 = some (.slice 2) := by kernel_rfl
theorem y2 : TyIs Try.prog 2 (TI .i64).n (TI .i64).agg := ⟨fun w => by kernel_rfl, fun w => by kernel_rfl⟩
theorem fn125 : FnIs Try.prog 125 := fun args w => by kernel_rfl
theorem fn124 : FnIs Try.prog 124 := fun args w => by kernel_rfl
theorem fn87 : FnIs Try.prog 87 := fun args w => by kernel_rfl
theorem zc2 : ZeroC (TI .i64) ([.int .i64 0]) (0 : Int) := (z_TI _)
theorem z2 : ZeroIs Try.prog 2 (pack (TI .i64).agg ([.int .i64 0])) := fun w => by kernel_rfl
theorem fn86 : FnIs Try.prog 86 := fun args w => by kernel_rfl
theorem fn117 : FnIs Try.prog 117 := fun args w => by kernel_rfl
theorem fn83 : FnIs Try.prog 83 := fun args w => by kernel_rfl
theorem fn126 : FnIs Try.prog 126 := fun args w => by kernel_rfl
theorem fn96 : FnIs Try.prog 96 := fun args w => by kernel_rfl
theorem fn97 : FnIs Try.prog 97 := fun args w => by kernel_rfl
theorem fn36 : FnIs Try.prog 36 := fun args w => by kernel_rfl
theorem fn44 : FnIs Try.prog 44 := fun args w => by kernel_rfl
theorem fn48 : FnIs Try.prog 48 := fun args w => by kernel_rfl
theorem fn50 : FnIs Try.prog 50 := fun args w => by kernel_rfl
theorem fn57 : FnIs Try.prog 57 := fun args w => by kernel_rfl
theorem fn58 : FnIs Try.prog 58 := fun args w => by kernel_rfl
theorem fn47 : FnIs Try.prog 47 := fun args w => by kernel_rfl
theorem fn54 : FnIs Try.prog 54 := fun args w => by kernel_rfl
theorem op77 {H : Type} {enc : TypeId × Value → H} {W : World} : Opens enc Try.prog W 77 Y77 := o_sl u77 ce37 op37
end Go.Proofs.Ytnpkhhfpgedkoaa
