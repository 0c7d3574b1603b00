/-
  Facts of the program that the walks lean on, each by running the kernel.
-/
import Derived.Test.YtnpkhhfpgedkoaaOpen
import Derived.Test.YtnpkhhfpgedkoaaChecked
set_option linter.unusedVariables false
set_option maxHeartbeats 1600000
set_option maxRecDepth 100000
namespace Go.Proofs.Ytnpkhhfpgedkoaa
open Go
theorem mix : Try.prog.follows .mixedOrders = true := by kernel_rfl
abbrev Y47 : Ty (List Int) := TSl (TI .i16)
theorem u47 : Try.prog.underlying 47 = some (.slice 24) := by kernel_rfl
abbrev Y46 : Ty (List Nat) := TArr 3 (TF .f32)
abbrev Y48 : Ty (Int × (List Nat) × Int × Int × Nat × (List Int)) := TPair (TI .i8) (TPair Y46 (TPair (TI .i64) (TPair (TI .i64) (TPair (TF .f32) Y47))))
theorem fa49_5 : FldIs Try.prog 49 5 7 := fun p w => by kernel_rfl
theorem y47 : TyIs Try.prog 47 Y47.n Y47.agg := ⟨fun w => by kernel_rfl, fun w => by kernel_rfl⟩
theorem fn67 : FnIs Try.prog 67 := fun args w => by kernel_rfl
theorem zc52 : ZeroC Y46 ((List.replicate 3 [.float .f32 0]).flatten) ((List.replicate 3 0) : (List Nat)) := (z_arr (z_TF _))
theorem z52 : ZeroIs Try.prog 52 (pack Y46.agg ((List.replicate 3 [.float .f32 0]).flatten)) := fun w => by kernel_rfl
theorem y52 : TyIs Try.prog 52 Y46.n Y46.agg := ⟨fun w => by kernel_rfl, fun w => by kernel_rfl⟩
theorem u46 : Try.prog.underlying 46 = some (.array 3 45) := by kernel_rfl
theorem y45 : TyIs Try.prog 45 (TF .f32).n (TF .f32).agg := ⟨fun w => by kernel_rfl, fun w => by kernel_rfl⟩
theorem u52 : Try.prog.underlying 52 = some (.array 3 45) := by kernel_rfl
theorem i24 : (Try.prog.info? 24).map (fun i => (i.zero, i.size, i.bytes)) = some (some (pack (TI .i16).agg ([.int .i16 0])), (TI .i16).n, 2) := by kernel_rfl
theorem zc24 : ZeroC (TI .i16) ([.int .i16 0]) (0 : Int) := (z_TI _)
theorem z24 : ZeroIs Try.prog 24 (pack (TI .i16).agg ([.int .i16 0])) := fun w => by kernel_rfl
theorem y24 : TyIs Try.prog 24 (TI .i16).n (TI .i16).agg := ⟨fun w => by kernel_rfl, fun w => by kernel_rfl⟩
theorem zc54 : ZeroC Y48 (([.int .i8 0] ++ ((List.replicate 3 [.float .f32 0]).flatten ++ ([.int .i64 0] ++ ([.int .i64 0] ++ ([.float .f32 0] ++ [.slice none 0 0])))))) ((0, (List.replicate 3 0), 0, 0, 0, []) : (Int × (List Nat) × Int × Int × Nat × (List Int))) := (z_pair (z_TI _) (z_pair (z_arr (z_TF _)) (z_pair (z_TI _) (z_pair (z_TI _) (z_pair (z_TF _) (z_TSl _))))))
theorem z54 : ZeroIs Try.prog 54 (pack Y48.agg (([.int .i8 0] ++ ((List.replicate 3 [.float .f32 0]).flatten ++ ([.int .i64 0] ++ ([.int .i64 0] ++ ([.float .f32 0] ++ [.slice none 0 0]))))))) := fun w => by kernel_rfl
theorem fa49_0 : FldIs Try.prog 49 0 0 := fun p w => by kernel_rfl
theorem y34 : TyIs Try.prog 34 (TI .i8).n (TI .i8).agg := ⟨fun w => by kernel_rfl, fun w => by kernel_rfl⟩
theorem fa54_0 : FldIs Try.prog 54 0 0 := fun p w => by kernel_rfl
theorem fa49_1 : FldIs Try.prog 49 1 1 := fun p w => by kernel_rfl
theorem y46 : TyIs Try.prog 46 Y46.n Y46.agg := ⟨fun w => by kernel_rfl, fun w => by kernel_rfl⟩
theorem fn69 : FnIs Try.prog 69 := fun args w => by kernel_rfl
theorem fa54_1 : FldIs Try.prog 54 1 1 := fun p w => by kernel_rfl
theorem fa49_2 : FldIs Try.prog 49 2 4 := fun p w => by kernel_rfl
theorem y2 : TyIs Try.prog 2 (TI .i64).n (TI .i64).agg := ⟨fun w => by kernel_rfl, fun w => by kernel_rfl⟩
theorem fa54_2 : FldIs Try.prog 54 2 4 := fun p w => by kernel_rfl
theorem fa49_3 : FldIs Try.prog 49 3 5 := fun p w => by kernel_rfl
theorem fa54_3 : FldIs Try.prog 54 3 5 := fun p w => by kernel_rfl
theorem fa49_4 : FldIs Try.prog 49 4 6 := fun p w => by kernel_rfl
theorem fa54_4 : FldIs Try.prog 54 4 6 := fun p w => by kernel_rfl
theorem fn70 : FnIs Try.prog 70 := fun args w => by kernel_rfl
theorem fa54_5 : FldIs Try.prog 54 5 7 := fun p w => by kernel_rfl
theorem y54 : TyIs Try.prog 54 Y48.n Y48.agg := ⟨fun w => by kernel_rfl, fun w => by kernel_rfl⟩
theorem ex106 : ExtIs Try.prog 106 Extern.MathFloatBits.float32bits := fun args w => run_callFunc_extern Try.func106 (by kernel_rfl) (by kernel_rfl) (by kernel_rfl) (by kernel_rfl) args w
theorem fn105 : FnIs Try.prog 105 := fun args w => by kernel_rfl
theorem fn104 : FnIs Try.prog 104 := fun args w => by kernel_rfl
theorem fn68 : FnIs Try.prog 68 := fun args w => by kernel_rfl
theorem fn72 : FnIs Try.prog 72 := fun args w => by kernel_rfl
theorem fn71 : FnIs Try.prog 71 := fun args w => by kernel_rfl
theorem fn73 : FnIs Try.prog 73 := fun args w => by kernel_rfl
theorem u4 : Try.prog.underlying 4 = some .bool := by kernel_rfl
theorem u45 : Try.prog.underlying 45 = some (.float .f32) := by kernel_rfl
theorem u109 : Try.prog.underlying 109 = some (.float .f64) := by kernel_rfl
theorem fn75 : FnIs Try.prog 75 := fun args w => by kernel_rfl
theorem fn74 : FnIs Try.prog 74 := fun args w => by kernel_rfl
theorem fn76 : FnIs Try.prog 76 := fun args w => by kernel_rfl
theorem y49 : TyIs Try.prog 49 Y48.n Y48.agg := ⟨fun w => by kernel_rfl, fun w => by kernel_rfl⟩
theorem fn28 : FnIs Try.prog 28 := fun args w => by kernel_rfl
theorem fn30 : FnIs Try.prog 30 := fun args w => by kernel_rfl
theorem fn29 : FnIs Try.prog 29 := fun args w => by kernel_rfl
theorem fn31 : FnIs Try.prog 31 := fun args w => by kernel_rfl
theorem fn32 : FnIs Try.prog 32 := fun args w => by kernel_rfl
theorem u49 : Try.prog.underlying 49 = some (.struct (Try.prog.fieldsOf 49)) := by kernel_rfl
theorem ce24 : Try.prog.cellsOf 24 = (TI .i16).n := by kernel_rfl
theorem u24 : Try.prog.underlying 24 = some (.int .i16) := by kernel_rfl
theorem op24 {H : Type} {enc : TypeId × Value → H} {W : World} : Opens enc Try.prog W 24 (TI .i16) := o_int u24
theorem op47 {H : Type} {enc : TypeId × Value → H} {W : World} : Opens enc Try.prog W 47 Y47 := o_sl u47 ce24 op24
theorem op45 {H : Type} {enc : TypeId × Value → H} {W : World} : Opens enc Try.prog W 45 (TF .f32) := o_float u45
theorem u2 : Try.prog.underlying 2 = some (.int .i64) := by kernel_rfl
theorem op2 {H : Type} {enc : TypeId × Value → H} {W : World} : Opens enc Try.prog W 2 (TI .i64) := o_int u2
theorem ce46 : Try.prog.cellsOf 46 = Y46.n := by kernel_rfl
theorem ce45 : Try.prog.cellsOf 45 = (TF .f32).n := by kernel_rfl
theorem op46 {H : Type} {enc : TypeId × Value → H} {W : World} : Opens enc Try.prog W 46 Y46 := o_arr u46 ce46 ce45 op45
theorem u34 : Try.prog.underlying 34 = some (.int .i8) := by kernel_rfl
theorem op34 {H : Type} {enc : TypeId × Value → H} {W : World} : Opens enc Try.prog W 34 (TI .i8) := o_int u34
theorem ol49 : ((Try.prog.fieldsOf 49).toList.map fun f => (f.type, f.offset, Try.prog.cellsOf f.type)) = [(34, 0, (TI .i8).n), (46, 1, Y46.n), (2, 4, (TI .i64).n), (2, 5, (TI .i64).n), (45, 6, (TF .f32).n), (47, 7, Y47.n)] := by kernel_rfl
theorem ce49 : Try.prog.cellsOf 49 = Y48.n := by kernel_rfl
theorem op49 {H : Type} {enc : TypeId × Value → H} {W : World} : Opens enc Try.prog W 49 Y48 := o_struct u49 ce49 ol49 (of_cons rfl op34 (of_cons rfl op46 (of_cons rfl op2 (of_cons rfl op2 (of_cons rfl op45 (of_last op47))))))
end Go.Proofs.Ytnpkhhfpgedkoaa
