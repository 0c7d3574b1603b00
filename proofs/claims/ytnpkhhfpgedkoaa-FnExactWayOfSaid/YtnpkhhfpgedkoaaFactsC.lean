/-
  Facts of the program that the walks lean on, each by running the kernel.
-/
import Derived.Test.YtnpkhhfpgedkoaaFactsB
set_option linter.unusedVariables false
set_option maxHeartbeats 1600000
set_option maxRecDepth 100000
namespace Go.Proofs.Ytnpkhhfpgedkoaa
open Go
theorem fn45 : FnIs Try.prog 45 := fun args w => by kernel_rfl
theorem fn46 : FnIs Try.prog 46 := fun args w => by kernel_rfl
end Go.Proofs.Ytnpkhhfpgedkoaa
