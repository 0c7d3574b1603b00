/-
  Facts of the program that the walks lean on, each by running the kernel.
-/
import Derived.Test.YtnpkhhfpgedkoaaFactsC
set_option linter.unusedVariables false
set_option maxHeartbeats 1600000
set_option maxRecDepth 100000
namespace Go.Proofs.Ytnpkhhfpgedkoaa
open Go
theorem fn37 : FnIs Try.prog 37 := fun args w => by kernel_rfl
theorem fn38 : FnIs Try.prog 38 := fun args w => by kernel_rfl
theorem fn39 : FnIs Try.prog 39 := fun args w => by kernel_rfl
theorem fn40 : FnIs Try.prog 40 := fun args w => by kernel_rfl
theorem fn41 : FnIs Try.prog 41 := fun args w => by kernel_rfl
end Go.Proofs.Ytnpkhhfpgedkoaa
