/-
  Facts of the program that the walks lean on, each by running the kernel.
-/
import Derived.Test.YtjmlfdhddbhlpaaOpen
import Derived.Test.YtjmlfdhddbhlpaaChecked
set_option linter.unusedVariables false
set_option maxHeartbeats 1600000
set_option maxRecDepth 100000
namespace Go.Proofs.Ytjmlfdhddbhlpaa
open Go
theorem mix : Try.prog.follows .mixedOrders = true := by kernel_rfl
abbrev Y24 : Ty (List Int) := TArr 2 (TI .i16)
abbrev Y104 : Ty ((List Int) × (List Int) × Int) := TPair Y24 (TPair Y24 ((TI .i8)))
abbrev Y22 : Ty (List ((List Int) × (List Int) × Int)) := TSl Y104
theorem u22 : Try.prog.underlying 22 = some (.slice 105) := by kernel_rfl
theorem zc32 : ZeroC Y24 ((List.replicate 2 [.int .i16 0]).flatten) ((List.replicate 2 0) : (List Int)) := (z_arr (z_TI _))
theorem z32 : ZeroIs Try.prog 32 (pack Y24.agg ((List.replicate 2 [.int .i16 0]).flatten)) := fun w => by kernel_rfl
theorem y32 : TyIs Try.prog 32 Y24.n Y24.agg := ⟨fun w => by kernel_rfl, fun w => by kernel_rfl⟩
theorem u24 : Try.prog.underlying 24 = some (.array 2 23) := by kernel_rfl
theorem y23 : TyIs Try.prog 23 (TI .i16).n (TI .i16).agg := ⟨fun w => by kernel_rfl, fun w => by kernel_rfl⟩
theorem u32 : Try.prog.underlying 32 = some (.array 2 23) := by kernel_rfl
theorem zc84 : ZeroC Y104 (((List.replicate 2 [.int .i16 0]).flatten ++ ((List.replicate 2 [.int .i16 0]).flatten ++ [.int .i8 0]))) (((List.replicate 2 0), (List.replicate 2 0), 0) : ((List Int) × (List Int) × Int)) := (z_pair (z_arr (z_TI _)) (z_pair (z_arr (z_TI _)) (z_TI _)))
theorem z84 : ZeroIs Try.prog 84 (pack Y104.agg (((List.replicate 2 [.int .i16 0]).flatten ++ ((List.replicate 2 [.int .i16 0]).flatten ++ [.int .i8 0])))) := fun w => by kernel_rfl
theorem fa105_0 : FldIs Try.prog 105 0 0 := fun p w => by kernel_rfl
theorem y24 : TyIs Try.prog 24 Y24.n Y24.agg := ⟨fun w => by kernel_rfl, fun w => by kernel_rfl⟩
theorem fn13 : FnIs Try.prog 13 := fun args w => by kernel_rfl
theorem fa84_0 : FldIs Try.prog 84 0 0 := fun p w => by kernel_rfl
theorem fa105_1 : FldIs Try.prog 105 1 2 := fun p w => by kernel_rfl
theorem fa84_1 : FldIs Try.prog 84 1 2 := fun p w => by kernel_rfl
theorem fa105_2 : FldIs Try.prog 105 2 4 := fun p w => by kernel_rfl
theorem y82 : TyIs Try.prog 82 (TI .i8).n (TI .i8).agg := ⟨fun w => by kernel_rfl, fun w => by kernel_rfl⟩
theorem fa84_2 : FldIs Try.prog 84 2 4 := fun p w => by kernel_rfl
theorem y84 : TyIs Try.prog 84 Y104.n Y104.agg := ⟨fun w => by kernel_rfl, fun w => by kernel_rfl⟩
theorem i84 : (Try.prog.info? 84).map (fun i => (i.zero, i.size, i.bytes)) = some (some (pack Y104.agg (((List.replicate 2 [.int .i16 0]).flatten ++ ((List.replicate 2 [.int .i16 0]).flatten ++ [.int .i8 0])))), Y104.n, 10) := by kernel_rfl
theorem u30 : Try.prog.underlying 30 = some (.slice 84) := by kernel_rfl
theorem y105 : TyIs Try.prog 105 Y104.n Y104.agg := ⟨fun w => by kernel_rfl, fun w => by kernel_rfl⟩
theorem fn62 : FnIs Try.prog 62 := fun args w => by kernel_rfl
theorem u23 : Try.prog.underlying 23 = some (.int .i16) := by kernel_rfl
theorem u2 : Try.prog.underlying 2 = some (.int .i64) := by kernel_rfl
theorem fn85 : FnIs Try.prog 85 := fun args w => by kernel_rfl
theorem fn58 : FnIs Try.prog 58 := fun args w => by kernel_rfl
theorem fn98 : FnIs Try.prog 98 := fun args w => by kernel_rfl
theorem fn109 : FnIs Try.prog 109 := fun args w => by kernel_rfl
theorem fn111 : FnIs Try.prog 111 := fun args w => by kernel_rfl
theorem fn110 : FnIs Try.prog 110 := fun args w => by kernel_rfl
theorem fn57 : FnIs Try.prog 57 := fun args w => by kernel_rfl
theorem zc2 : ZeroC (TI .i64) ([.int .i64 0]) (0 : Int) := (z_TI _)
theorem z2 : ZeroIs Try.prog 2 (pack (TI .i64).agg ([.int .i64 0])) := fun w => by kernel_rfl
theorem u26 : Try.prog.underlying 26 = some (.slice 2) := by kernel_rfl
theorem y2 : TyIs Try.prog 2 (TI .i64).n (TI .i64).agg := ⟨fun w => by kernel_rfl, fun w => by kernel_rfl⟩
theorem zc4 : ZeroC TB ([.bool false]) (false : Bool) := z_TB
theorem z4 : ZeroIs Try.prog 4 (pack TB.agg ([.bool false])) := fun w => by kernel_rfl
theorem u27 : Try.prog.underlying 27 = some (.slice 4) := by kernel_rfl
theorem y4 : TyIs Try.prog 4 TB.n TB.agg := ⟨fun w => by kernel_rfl, fun w => by kernel_rfl⟩
theorem i4 : (Try.prog.info? 4).map (fun i => (i.zero, i.size, i.bytes)) = some (some (pack TB.agg ([.bool false])), TB.n, 1) := by kernel_rfl
abbrev Y26 : Ty (List Int) := TSl (TI .i64)
theorem i2 : (Try.prog.info? 2).map (fun i => (i.zero, i.size, i.bytes)) = some (some (pack (TI .i64).agg ([.int .i64 0])), (TI .i64).n, 8) := by kernel_rfl
abbrev Y27 : Ty (List Bool) := TSl TB
theorem fn61 : FnIs Try.prog 61 := fun args w => by kernel_rfl
theorem fn59 : FnIs Try.prog 59 := fun args w => by kernel_rfl
theorem fn60 : FnIs Try.prog 60 := fun args w => by kernel_rfl
abbrev Y49 : Ty (List (List Int)) := TSl Y24
theorem u49 : Try.prog.underlying 49 = some (.slice 32) := by kernel_rfl
theorem fn141 : FnIs Try.prog 141 := fun args w => by kernel_rfl
theorem fn72 : FnIs Try.prog 72 := fun args w => by kernel_rfl
theorem fn113 : FnIs Try.prog 113 := fun args w => by kernel_rfl
theorem fn112 : FnIs Try.prog 112 := fun args w => by kernel_rfl
theorem fn142 : FnIs Try.prog 142 := fun args w => by kernel_rfl
theorem u82 : Try.prog.underlying 82 = some (.int .i8) := by kernel_rfl
theorem fn65 : FnIs Try.prog 65 := fun args w => by kernel_rfl
theorem fn101 : FnIs Try.prog 101 := fun args w => by kernel_rfl
theorem fn106 : FnIs Try.prog 106 := fun args w => by kernel_rfl
theorem fn115 : FnIs Try.prog 115 := fun args w => by kernel_rfl
theorem fn114 : FnIs Try.prog 114 := fun args w => by kernel_rfl
theorem fn64 : FnIs Try.prog 64 := fun args w => by kernel_rfl
theorem fn63 : FnIs Try.prog 63 := fun args w => by kernel_rfl
theorem fn116 : FnIs Try.prog 116 := fun args w => by kernel_rfl
theorem fn66 : FnIs Try.prog 66 := fun args w => by kernel_rfl
theorem fn68 : FnIs Try.prog 68 := fun args w => by kernel_rfl
theorem fn67 : FnIs Try.prog 67 := fun args w => by kernel_rfl
theorem fn46 : FnIs Try.prog 46 := fun args w => by kernel_rfl
theorem u4 : Try.prog.underlying 4 = some .bool := by kernel_rfl
theorem fn74 : FnIs Try.prog 74 := fun args w => by kernel_rfl
theorem fn69 : FnIs Try.prog 69 := fun args w => by kernel_rfl
theorem u3 : Try.prog.underlying 3 = some (.int .i64) := by kernel_rfl
theorem fn10 : FnIs Try.prog 10 := fun args w => by kernel_rfl
theorem fn12 : FnIs Try.prog 12 := fun args w => by kernel_rfl
theorem fn11 : FnIs Try.prog 11 := fun args w => by kernel_rfl
theorem fn14 : FnIs Try.prog 14 := fun args w => by kernel_rfl
theorem fn15 : FnIs Try.prog 15 := fun args w => by kernel_rfl
theorem fn16 : FnIs Try.prog 16 := fun args w => by kernel_rfl
theorem fn17 : FnIs Try.prog 17 := fun args w => by kernel_rfl
theorem fn18 : FnIs Try.prog 18 := fun args w => by kernel_rfl
theorem fn19 : FnIs Try.prog 19 := fun args w => by kernel_rfl
theorem fn20 : FnIs Try.prog 20 := fun args w => by kernel_rfl
theorem fn21 : FnIs Try.prog 21 := fun args w => by kernel_rfl
theorem fn22 : FnIs Try.prog 22 := fun args w => by kernel_rfl
theorem ce105 : Try.prog.cellsOf 105 = Y104.n := by kernel_rfl
theorem u105 : Try.prog.underlying 105 = some (.struct (Try.prog.fieldsOf 105)) := by kernel_rfl
theorem op82 {H : Type} {enc : TypeId × Value → H} {W : World} : Opens enc Try.prog W 82 (TI .i8) := o_int u82
theorem ce24 : Try.prog.cellsOf 24 = Y24.n := by kernel_rfl
theorem ce23 : Try.prog.cellsOf 23 = (TI .i16).n := by kernel_rfl
theorem op23 {H : Type} {enc : TypeId × Value → H} {W : World} : Opens enc Try.prog W 23 (TI .i16) := o_int u23
theorem op24 {H : Type} {enc : TypeId × Value → H} {W : World} : Opens enc Try.prog W 24 Y24 := o_arr u24 ce24 ce23 op23
theorem ol105 : ((Try.prog.fieldsOf 105).toList.map fun f => (f.type, f.offset, Try.prog.cellsOf f.type)) = [(24, 0, Y24.n), (24, 2, Y24.n), (82, 4, (TI .i8).n)] := by kernel_rfl
theorem op105 {H : Type} {enc : TypeId × Value → H} {W : World} : Opens enc Try.prog W 105 Y104 := o_struct u105 ce105 ol105 (of_cons rfl op24 (of_cons rfl op24 (of_last op82)))
theorem op22 {H : Type} {enc : TypeId × Value → H} {W : World} : Opens enc Try.prog W 22 Y22 := o_sl u22 ce105 op105
end Go.Proofs.Ytjmlfdhddbhlpaa
