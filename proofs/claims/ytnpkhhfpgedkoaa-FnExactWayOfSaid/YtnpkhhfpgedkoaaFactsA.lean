/-
  Facts of the program that the walks lean on, each by running the kernel.
-/
import Derived.Test.YtnpkhhfpgedkoaaOpen
import Derived.Test.YtnpkhhfpgedkoaaChecked
set_option linter.unusedVariables false
set_option maxHeartbeats 1600000
set_option maxRecDepth 100000
namespace Go.Proofs.Ytnpkhhfpgedkoaa
open Go
theorem mix : Try.prog.follows .mixedOrders = true := by kernel_rfl
abbrev Y23 : Ty (List Int) := TArr 64 (TI .u64)
theorem zc27 : ZeroC Y23 ((List.replicate 64 [.int .u64 0]).flatten) ((List.replicate 64 0) : (List Int)) := (z_arr (z_TI _))
theorem z27 : ZeroIs Try.prog 27 (pack Y23.agg ((List.replicate 64 [.int .u64 0]).flatten)) := fun w => by kernel_rfl
theorem y27 : TyIs Try.prog 27 Y23.n Y23.agg := ⟨fun w => by kernel_rfl, fun w => by kernel_rfl⟩
theorem u23 : Try.prog.underlying 23 = some (.array 64 22) := by kernel_rfl
theorem y22 : TyIs Try.prog 22 (TI .u64).n (TI .u64).agg := ⟨fun w => by kernel_rfl, fun w => by kernel_rfl⟩
theorem u27 : Try.prog.underlying 27 = some (.array 64 22) := by kernel_rfl
abbrev Y25 : Ty (List Int) := TArr 2 (TI .i16)
theorem zc29 : ZeroC Y25 ((List.replicate 2 [.int .i16 0]).flatten) ((List.replicate 2 0) : (List Int)) := (z_arr (z_TI _))
theorem z29 : ZeroIs Try.prog 29 (pack Y25.agg ((List.replicate 2 [.int .i16 0]).flatten)) := fun w => by kernel_rfl
theorem y29 : TyIs Try.prog 29 Y25.n Y25.agg := ⟨fun w => by kernel_rfl, fun w => by kernel_rfl⟩
theorem u25 : Try.prog.underlying 25 = some (.array 2 24) := by kernel_rfl
theorem y24 : TyIs Try.prog 24 (TI .i16).n (TI .i16).agg := ⟨fun w => by kernel_rfl, fun w => by kernel_rfl⟩
theorem u29 : Try.prog.underlying 29 = some (.array 2 24) := by kernel_rfl
theorem fn59 : FnIs Try.prog 59 := fun args w => by kernel_rfl
theorem u24 : Try.prog.underlying 24 = some (.int .i16) := by kernel_rfl
theorem u94 : Try.prog.underlying 94 = some (.int .u64) := by kernel_rfl
theorem u2 : Try.prog.underlying 2 = some (.int .i64) := by kernel_rfl
theorem fn98 : FnIs Try.prog 98 := fun args w => by kernel_rfl
theorem fn60 : FnIs Try.prog 60 := fun args w => by kernel_rfl
theorem y23 : TyIs Try.prog 23 Y23.n Y23.agg := ⟨fun w => by kernel_rfl, fun w => by kernel_rfl⟩
theorem fn16 : FnIs Try.prog 16 := fun args w => by kernel_rfl
theorem y25 : TyIs Try.prog 25 Y25.n Y25.agg := ⟨fun w => by kernel_rfl, fun w => by kernel_rfl⟩
theorem fn17 : FnIs Try.prog 17 := fun args w => by kernel_rfl
theorem fn15 : FnIs Try.prog 15 := fun args w => by kernel_rfl
theorem fn18 : FnIs Try.prog 18 := fun args w => by kernel_rfl
theorem u4 : Try.prog.underlying 4 = some .bool := by kernel_rfl
theorem fn100 : FnIs Try.prog 100 := fun args w => by kernel_rfl
theorem fn99 : FnIs Try.prog 99 := fun args w => by kernel_rfl
theorem fn61 : FnIs Try.prog 61 := fun args w => by kernel_rfl
theorem fn19 : FnIs Try.prog 19 := fun args w => by kernel_rfl
theorem fn20 : FnIs Try.prog 20 := fun args w => by kernel_rfl
theorem fn62 : FnIs Try.prog 62 := fun args w => by kernel_rfl
theorem fn21 : FnIs Try.prog 21 := fun args w => by kernel_rfl
theorem fn22 : FnIs Try.prog 22 := fun args w => by kernel_rfl
abbrev Y36 : Ty ((List Int) × (List Int) × Int) := TPair Y25 (TPair Y25 ((TI .i8)))
theorem zc40 : ZeroC Y36 (((List.replicate 2 [.int .i16 0]).flatten ++ ((List.replicate 2 [.int .i16 0]).flatten ++ [.int .i8 0]))) (((List.replicate 2 0), (List.replicate 2 0), 0) : ((List Int) × (List Int) × Int)) := (z_pair (z_arr (z_TI _)) (z_pair (z_arr (z_TI _)) (z_TI _)))
theorem z40 : ZeroIs Try.prog 40 (pack Y36.agg (((List.replicate 2 [.int .i16 0]).flatten ++ ((List.replicate 2 [.int .i16 0]).flatten ++ [.int .i8 0])))) := fun w => by kernel_rfl
theorem fa37_0 : FldIs Try.prog 37 0 0 := fun p w => by kernel_rfl
theorem fa40_0 : FldIs Try.prog 40 0 0 := fun p w => by kernel_rfl
theorem fa37_1 : FldIs Try.prog 37 1 2 := fun p w => by kernel_rfl
theorem fa40_1 : FldIs Try.prog 40 1 2 := fun p w => by kernel_rfl
theorem fa37_2 : FldIs Try.prog 37 2 4 := fun p w => by kernel_rfl
theorem y34 : TyIs Try.prog 34 (TI .i8).n (TI .i8).agg := ⟨fun w => by kernel_rfl, fun w => by kernel_rfl⟩
theorem fa40_2 : FldIs Try.prog 40 2 4 := fun p w => by kernel_rfl
theorem y40 : TyIs Try.prog 40 Y36.n Y36.agg := ⟨fun w => by kernel_rfl, fun w => by kernel_rfl⟩
theorem fn118 : FnIs Try.prog 118 := fun args w => by kernel_rfl
theorem fn84 : FnIs Try.prog 84 := fun args w => by kernel_rfl
theorem fn101 : FnIs Try.prog 101 := fun args w => by kernel_rfl
theorem fn63 : FnIs Try.prog 63 := fun args w => by kernel_rfl
abbrev Y64 : Ty (List (List Int)) := TSl Y25
theorem u64 : Try.prog.underlying 64 = some (.slice 29) := by kernel_rfl
theorem fn119 : FnIs Try.prog 119 := fun args w => by kernel_rfl
theorem fn103 : FnIs Try.prog 103 := fun args w => by kernel_rfl
theorem fn102 : FnIs Try.prog 102 := fun args w => by kernel_rfl
theorem u34 : Try.prog.underlying 34 = some (.int .i8) := by kernel_rfl
theorem fn64 : FnIs Try.prog 64 := fun args w => by kernel_rfl
theorem fn65 : FnIs Try.prog 65 := fun args w => by kernel_rfl
theorem y37 : TyIs Try.prog 37 Y36.n Y36.agg := ⟨fun w => by kernel_rfl, fun w => by kernel_rfl⟩
theorem fn24 : FnIs Try.prog 24 := fun args w => by kernel_rfl
theorem fn23 : FnIs Try.prog 23 := fun args w => by kernel_rfl
theorem fn25 : FnIs Try.prog 25 := fun args w => by kernel_rfl
theorem u22 : Try.prog.underlying 22 = some (.int .u64) := by kernel_rfl
theorem u3 : Try.prog.underlying 3 = some (.int .i64) := by kernel_rfl
theorem fn66 : FnIs Try.prog 66 := fun args w => by kernel_rfl
theorem fn26 : FnIs Try.prog 26 := fun args w => by kernel_rfl
theorem fn27 : FnIs Try.prog 27 := fun args w => by kernel_rfl
theorem ce23 : Try.prog.cellsOf 23 = Y23.n := by kernel_rfl
theorem ce22 : Try.prog.cellsOf 22 = (TI .u64).n := by kernel_rfl
theorem op22 {H : Type} {enc : TypeId × Value → H} {W : World} : Opens enc Try.prog W 22 (TI .u64) := o_int u22
theorem op23 {H : Type} {enc : TypeId × Value → H} {W : World} : Opens enc Try.prog W 23 Y23 := o_arr u23 ce23 ce22 op22
theorem ce25 : Try.prog.cellsOf 25 = Y25.n := by kernel_rfl
theorem ce24 : Try.prog.cellsOf 24 = (TI .i16).n := by kernel_rfl
theorem op24 {H : Type} {enc : TypeId × Value → H} {W : World} : Opens enc Try.prog W 24 (TI .i16) := o_int u24
theorem op25 {H : Type} {enc : TypeId × Value → H} {W : World} : Opens enc Try.prog W 25 Y25 := o_arr u25 ce25 ce24 op24
theorem op34 {H : Type} {enc : TypeId × Value → H} {W : World} : Opens enc Try.prog W 34 (TI .i8) := o_int u34
theorem op2 {H : Type} {enc : TypeId × Value → H} {W : World} : Opens enc Try.prog W 2 (TI .i64) := o_int u2
theorem u37 : Try.prog.underlying 37 = some (.struct (Try.prog.fieldsOf 37)) := by kernel_rfl
theorem ol37 : ((Try.prog.fieldsOf 37).toList.map fun f => (f.type, f.offset, Try.prog.cellsOf f.type)) = [(25, 0, Y25.n), (25, 2, Y25.n), (34, 4, (TI .i8).n)] := by kernel_rfl
theorem ce37 : Try.prog.cellsOf 37 = Y36.n := by kernel_rfl
theorem op37 {H : Type} {enc : TypeId × Value → H} {W : World} : Opens enc Try.prog W 37 Y36 := o_struct u37 ce37 ol37 (of_cons rfl op25 (of_cons rfl op25 (of_last op34)))
end Go.Proofs.Ytnpkhhfpgedkoaa
