/-
  Facts of the program that the walks lean on, each by running the kernel.
-/
import Derived.Test.YtjmlfdhddbhlpaaFactsA
set_option linter.unusedVariables false
set_option maxHeartbeats 1600000
set_option maxRecDepth 100000
namespace Go.Proofs.Ytjmlfdhddbhlpaa
open Go
theorem u43 : Try.prog.underlying 43 = some (.slice 24) := by kernel_rfl
abbrev Y42 : Ty (List Int) := TArr 64 (TI .u64)
theorem zc45 : ZeroC Y42 ((List.replicate 64 [.int .u64 0]).flatten) ((List.replicate 64 0) : (List Int)) := (z_arr (z_TI _))
theorem z45 : ZeroIs Try.prog 45 (pack Y42.agg ((List.replicate 64 [.int .u64 0]).flatten)) := fun w => by kernel_rfl
theorem y45 : TyIs Try.prog 45 Y42.n Y42.agg := ⟨fun w => by kernel_rfl, fun w => by kernel_rfl⟩
theorem u42 : Try.prog.underlying 42 = some (.array 64 41) := by kernel_rfl
theorem y41 : TyIs Try.prog 41 (TI .u64).n (TI .u64).agg := ⟨fun w => by kernel_rfl, fun w => by kernel_rfl⟩
theorem u45 : Try.prog.underlying 45 = some (.array 64 41) := by kernel_rfl
theorem i32 : (Try.prog.info? 32).map (fun i => (i.zero, i.size, i.bytes)) = some (some (pack Y24.agg ((List.replicate 2 [.int .i16 0]).flatten)), Y24.n, 4) := by kernel_rfl
theorem fn143 : FnIs Try.prog 143 := fun args w => by kernel_rfl
theorem u179 : Try.prog.underlying 179 = some (.int .u64) := by kernel_rfl
theorem fn99 : FnIs Try.prog 99 := fun args w => by kernel_rfl
theorem fn144 : FnIs Try.prog 144 := fun args w => by kernel_rfl
theorem fn118 : FnIs Try.prog 118 := fun args w => by kernel_rfl
theorem fn119 : FnIs Try.prog 119 := fun args w => by kernel_rfl
theorem fn117 : FnIs Try.prog 117 := fun args w => by kernel_rfl
theorem fn70 : FnIs Try.prog 70 := fun args w => by kernel_rfl
theorem fn71 : FnIs Try.prog 71 := fun args w => by kernel_rfl
theorem p84 : ∀ w, ((Try.prog.fieldsOf 84).mapM (m := Sem) fun f => do pure (f.offset, ← sizeOf f.type)).run Try.prog w = .ok #[(0, 2), (2, 2), (4, 1)] w := fun w => by kernel_rfl
theorem u84 : Try.prog.underlying 84 = some (.struct (Try.prog.fieldsOf 84)) := by kernel_rfl
theorem fn103 : FnIs Try.prog 103 := fun args w => by kernel_rfl
theorem fn145 : FnIs Try.prog 145 := fun args w => by kernel_rfl
theorem fn108 : FnIs Try.prog 108 := fun args w => by kernel_rfl
theorem fn104 : FnIs Try.prog 104 := fun args w => by kernel_rfl
theorem fn107 : FnIs Try.prog 107 := fun args w => by kernel_rfl
theorem fn146 : FnIs Try.prog 146 := fun args w => by kernel_rfl
theorem fn121 : FnIs Try.prog 121 := fun args w => by kernel_rfl
theorem fn102 : FnIs Try.prog 102 := fun args w => by kernel_rfl
theorem fn122 : FnIs Try.prog 122 := fun args w => by kernel_rfl
theorem fn120 : FnIs Try.prog 120 := fun args w => by kernel_rfl
theorem fn73 : FnIs Try.prog 73 := fun args w => by kernel_rfl
theorem fn23 : FnIs Try.prog 23 := fun args w => by kernel_rfl
theorem y42 : TyIs Try.prog 42 Y42.n Y42.agg := ⟨fun w => by kernel_rfl, fun w => by kernel_rfl⟩
theorem fn25 : FnIs Try.prog 25 := fun args w => by kernel_rfl
theorem fn26 : FnIs Try.prog 26 := fun args w => by kernel_rfl
theorem fn24 : FnIs Try.prog 24 := fun args w => by kernel_rfl
theorem fn27 : FnIs Try.prog 27 := fun args w => by kernel_rfl
theorem fn28 : FnIs Try.prog 28 := fun args w => by kernel_rfl
theorem fn29 : FnIs Try.prog 29 := fun args w => by kernel_rfl
theorem ce42 : Try.prog.cellsOf 42 = Y42.n := by kernel_rfl
theorem ce41 : Try.prog.cellsOf 41 = (TI .u64).n := by kernel_rfl
theorem u41 : Try.prog.underlying 41 = some (.int .u64) := by kernel_rfl
theorem op41 {H : Type} {enc : TypeId × Value → H} {W : World} : Opens enc Try.prog W 41 (TI .u64) := o_int u41
theorem op42 {H : Type} {enc : TypeId × Value → H} {W : World} : Opens enc Try.prog W 42 Y42 := o_arr u42 ce42 ce41 op41
theorem op43 {H : Type} {enc : TypeId × Value → H} {W : World} : Opens enc Try.prog W 43 Y49 := o_sl u43 ce24 op24
theorem op4 {H : Type} {enc : TypeId × Value → H} {W : World} : Opens enc Try.prog W 4 TB := o_bool u4
end Go.Proofs.Ytjmlfdhddbhlpaa
