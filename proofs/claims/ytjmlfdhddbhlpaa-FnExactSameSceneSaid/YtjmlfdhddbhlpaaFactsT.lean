/-
  Facts of the program that the walks lean on, each by running the kernel.
-/
import Derived.Test.YtjmlfdhddbhlpaaOpen
import Derived.Test.YtjmlfdhddbhlpaaChecked
set_option linter.unusedVariables false
set_option maxHeartbeats 1600000
set_option maxRecDepth 100000
namespace Go.Proofs.Ytjmlfdhddbhlpaa
open Go
theorem mix : Try.prog.follows .mixedOrders = true := by kernel_rfl
abbrev Y55 : Ty (List Nat) := TArr 3 (TF .f32)
abbrev Y156 : Ty (List (List Nat)) := TSl Y55
theorem u156 : Try.prog.underlying 156 = some (.slice 55) := by kernel_rfl
abbrev Y169 : Ty (List Int) := TSl (TI .i16)
theorem u169 : Try.prog.underlying 169 = some (.slice 23) := by kernel_rfl
abbrev Y125 : Ty (List (List Int)) := TSl Y169
theorem u125 : Try.prog.underlying 125 = some (.slice 169) := by kernel_rfl
theorem y169 : TyIs Try.prog 169 Y169.n Y169.agg := ⟨fun w => by kernel_rfl, fun w => by kernel_rfl⟩
theorem fn170 : FnIs Try.prog 170 := fun args w => by kernel_rfl
abbrev Y157 : Ty ((List (List Nat)) × (List (List Int))) := TPair Y156 Y125
theorem fa158_0 : FldIs Try.prog 158 0 0 := fun p w => by kernel_rfl
theorem y156 : TyIs Try.prog 156 Y156.n Y156.agg := ⟨fun w => by kernel_rfl, fun w => by kernel_rfl⟩
theorem fn147 : FnIs Try.prog 147 := fun args w => by kernel_rfl
theorem fa158_1 : FldIs Try.prog 158 1 1 := fun p w => by kernel_rfl
theorem y125 : TyIs Try.prog 125 Y125.n Y125.agg := ⟨fun w => by kernel_rfl, fun w => by kernel_rfl⟩
theorem fn148 : FnIs Try.prog 148 := fun args w => by kernel_rfl
abbrev Y58 : Ty (List ((List (List Nat)) × (List (List Int)))) := TSl Y157
theorem u58 : Try.prog.underlying 58 = some (.slice 158) := by kernel_rfl
theorem y158 : TyIs Try.prog 158 Y157.n Y157.agg := ⟨fun w => by kernel_rfl, fun w => by kernel_rfl⟩
theorem fn123 : FnIs Try.prog 123 := fun args w => by kernel_rfl
abbrev Y56 : Ty ((List Nat) × (List Nat) × (List Nat) × Nat × Nat) := TPair Y55 (TPair Y55 (TPair Y55 (TPair (TF .f32) ((TF .f32)))))
abbrev Y59 : Ty (((List Nat) × (List Nat) × (List Nat) × Nat × Nat) × (List ((List (List Nat)) × (List (List Int))))) := TPair Y56 Y58
theorem fa60_1 : FldIs Try.prog 60 1 11 := fun p w => by kernel_rfl
theorem y58 : TyIs Try.prog 58 Y58.n Y58.agg := ⟨fun w => by kernel_rfl, fun w => by kernel_rfl⟩
theorem fn75 : FnIs Try.prog 75 := fun args w => by kernel_rfl
theorem zc63 : ZeroC Y55 ((List.replicate 3 [.float .f32 0]).flatten) ((List.replicate 3 0) : (List Nat)) := (z_arr (z_TF _))
theorem z63 : ZeroIs Try.prog 63 (pack Y55.agg ((List.replicate 3 [.float .f32 0]).flatten)) := fun w => by kernel_rfl
theorem y63 : TyIs Try.prog 63 Y55.n Y55.agg := ⟨fun w => by kernel_rfl, fun w => by kernel_rfl⟩
theorem u55 : Try.prog.underlying 55 = some (.array 3 54) := by kernel_rfl
theorem y54 : TyIs Try.prog 54 (TF .f32).n (TF .f32).agg := ⟨fun w => by kernel_rfl, fun w => by kernel_rfl⟩
theorem u63 : Try.prog.underlying 63 = some (.array 3 54) := by kernel_rfl
theorem zc65 : ZeroC Y56 (((List.replicate 3 [.float .f32 0]).flatten ++ ((List.replicate 3 [.float .f32 0]).flatten ++ ((List.replicate 3 [.float .f32 0]).flatten ++ ([.float .f32 0] ++ [.float .f32 0]))))) (((List.replicate 3 0), (List.replicate 3 0), (List.replicate 3 0), 0, 0) : ((List Nat) × (List Nat) × (List Nat) × Nat × Nat)) := (z_pair (z_arr (z_TF _)) (z_pair (z_arr (z_TF _)) (z_pair (z_arr (z_TF _)) (z_pair (z_TF _) (z_TF _)))))
theorem z65 : ZeroIs Try.prog 65 (pack Y56.agg (((List.replicate 3 [.float .f32 0]).flatten ++ ((List.replicate 3 [.float .f32 0]).flatten ++ ((List.replicate 3 [.float .f32 0]).flatten ++ ([.float .f32 0] ++ [.float .f32 0])))))) := fun w => by kernel_rfl
theorem fa57_0 : FldIs Try.prog 57 0 0 := fun p w => by kernel_rfl
theorem y55 : TyIs Try.prog 55 Y55.n Y55.agg := ⟨fun w => by kernel_rfl, fun w => by kernel_rfl⟩
theorem fn126 : FnIs Try.prog 126 := fun args w => by kernel_rfl
theorem fa65_0 : FldIs Try.prog 65 0 0 := fun p w => by kernel_rfl
theorem fa57_1 : FldIs Try.prog 57 1 3 := fun p w => by kernel_rfl
theorem fa65_1 : FldIs Try.prog 65 1 3 := fun p w => by kernel_rfl
theorem fa57_2 : FldIs Try.prog 57 2 6 := fun p w => by kernel_rfl
theorem fa65_2 : FldIs Try.prog 65 2 6 := fun p w => by kernel_rfl
theorem fa57_3 : FldIs Try.prog 57 3 9 := fun p w => by kernel_rfl
theorem fa65_3 : FldIs Try.prog 65 3 9 := fun p w => by kernel_rfl
theorem fa57_4 : FldIs Try.prog 57 4 10 := fun p w => by kernel_rfl
theorem fa65_4 : FldIs Try.prog 65 4 10 := fun p w => by kernel_rfl
theorem y65 : TyIs Try.prog 65 Y56.n Y56.agg := ⟨fun w => by kernel_rfl, fun w => by kernel_rfl⟩
theorem i63 : (Try.prog.info? 63).map (fun i => (i.zero, i.size, i.bytes)) = some (some (pack Y55.agg ((List.replicate 3 [.float .f32 0]).flatten)), Y55.n, 12) := by kernel_rfl
theorem u124 : Try.prog.underlying 124 = some (.slice 63) := by kernel_rfl
theorem i23 : (Try.prog.info? 23).map (fun i => (i.zero, i.size, i.bytes)) = some (some (pack (TI .i16).agg ([.int .i16 0])), (TI .i16).n, 2) := by kernel_rfl
theorem zc23 : ZeroC (TI .i16) ([.int .i16 0]) (0 : Int) := (z_TI _)
theorem z23 : ZeroIs Try.prog 23 (pack (TI .i16).agg ([.int .i16 0])) := fun w => by kernel_rfl
theorem y23 : TyIs Try.prog 23 (TI .i16).n (TI .i16).agg := ⟨fun w => by kernel_rfl, fun w => by kernel_rfl⟩
theorem i169 : (Try.prog.info? 169).map (fun i => (i.zero, i.size, i.bytes)) = some (some (pack Y169.agg ([.slice none 0 0])), Y169.n, 24) := by kernel_rfl
theorem zc169 : ZeroC Y169 ([.slice none 0 0]) ([] : (List Int)) := (z_TSl _)
theorem z169 : ZeroIs Try.prog 169 (pack Y169.agg ([.slice none 0 0])) := fun w => by kernel_rfl
theorem fn171 : FnIs Try.prog 171 := fun args w => by kernel_rfl
theorem zc127 : ZeroC Y157 (([.slice none 0 0] ++ [.slice none 0 0])) (([], []) : ((List (List Nat)) × (List (List Int)))) := (z_pair (z_TSl _) (z_TSl _))
theorem z127 : ZeroIs Try.prog 127 (pack Y157.agg (([.slice none 0 0] ++ [.slice none 0 0]))) := fun w => by kernel_rfl
theorem fn152 : FnIs Try.prog 152 := fun args w => by kernel_rfl
theorem fa127_0 : FldIs Try.prog 127 0 0 := fun p w => by kernel_rfl
theorem y124 : TyIs Try.prog 124 Y156.n Y156.agg := ⟨fun w => by kernel_rfl, fun w => by kernel_rfl⟩
theorem fn153 : FnIs Try.prog 153 := fun args w => by kernel_rfl
theorem fa127_1 : FldIs Try.prog 127 1 1 := fun p w => by kernel_rfl
theorem y127 : TyIs Try.prog 127 Y157.n Y157.agg := ⟨fun w => by kernel_rfl, fun w => by kernel_rfl⟩
theorem i127 : (Try.prog.info? 127).map (fun i => (i.zero, i.size, i.bytes)) = some (some (pack Y157.agg (([.slice none 0 0] ++ [.slice none 0 0]))), Y157.n, 48) := by kernel_rfl
theorem u66 : Try.prog.underlying 66 = some (.slice 127) := by kernel_rfl
theorem fn127 : FnIs Try.prog 127 := fun args w => by kernel_rfl
theorem zc68 : ZeroC Y59 ((((List.replicate 3 [.float .f32 0]).flatten ++ ((List.replicate 3 [.float .f32 0]).flatten ++ ((List.replicate 3 [.float .f32 0]).flatten ++ ([.float .f32 0] ++ [.float .f32 0])))) ++ [.slice none 0 0])) ((((List.replicate 3 0), (List.replicate 3 0), (List.replicate 3 0), 0, 0), []) : (((List Nat) × (List Nat) × (List Nat) × Nat × Nat) × (List ((List (List Nat)) × (List (List Int)))))) := (z_pair (z_pair (z_arr (z_TF _)) (z_pair (z_arr (z_TF _)) (z_pair (z_arr (z_TF _)) (z_pair (z_TF _) (z_TF _))))) (z_TSl _))
theorem z68 : ZeroIs Try.prog 68 (pack Y59.agg ((((List.replicate 3 [.float .f32 0]).flatten ++ ((List.replicate 3 [.float .f32 0]).flatten ++ ((List.replicate 3 [.float .f32 0]).flatten ++ ([.float .f32 0] ++ [.float .f32 0])))) ++ [.slice none 0 0]))) := fun w => by kernel_rfl
theorem fa60_0 : FldIs Try.prog 60 0 0 := fun p w => by kernel_rfl
theorem y57 : TyIs Try.prog 57 Y56.n Y56.agg := ⟨fun w => by kernel_rfl, fun w => by kernel_rfl⟩
theorem fn77 : FnIs Try.prog 77 := fun args w => by kernel_rfl
theorem fa68_0 : FldIs Try.prog 68 0 0 := fun p w => by kernel_rfl
theorem fn78 : FnIs Try.prog 78 := fun args w => by kernel_rfl
theorem fa68_1 : FldIs Try.prog 68 1 11 := fun p w => by kernel_rfl
theorem y66 : TyIs Try.prog 66 Y58.n Y58.agg := ⟨fun w => by kernel_rfl, fun w => by kernel_rfl⟩
theorem y68 : TyIs Try.prog 68 Y59.n Y59.agg := ⟨fun w => by kernel_rfl, fun w => by kernel_rfl⟩
theorem ex154 : ExtIs Try.prog 154 Extern.MathFloatBits.float32bits := fun args w => run_callFunc_extern Try.func154 (by kernel_rfl) (by kernel_rfl) (by kernel_rfl) (by kernel_rfl) args w
theorem fn150 : FnIs Try.prog 150 := fun args w => by kernel_rfl
theorem fn149 : FnIs Try.prog 149 := fun args w => by kernel_rfl
theorem fn151 : FnIs Try.prog 151 := fun args w => by kernel_rfl
theorem fn124 : FnIs Try.prog 124 := fun args w => by kernel_rfl
theorem fn125 : FnIs Try.prog 125 := fun args w => by kernel_rfl
theorem fn76 : FnIs Try.prog 76 := fun args w => by kernel_rfl
theorem fn129 : FnIs Try.prog 129 := fun args w => by kernel_rfl
theorem fn128 : FnIs Try.prog 128 := fun args w => by kernel_rfl
theorem fn79 : FnIs Try.prog 79 := fun args w => by kernel_rfl
theorem fn130 : FnIs Try.prog 130 := fun args w => by kernel_rfl
theorem fn132 : FnIs Try.prog 132 := fun args w => by kernel_rfl
theorem fn131 : FnIs Try.prog 131 := fun args w => by kernel_rfl
theorem fn81 : FnIs Try.prog 81 := fun args w => by kernel_rfl
theorem fn80 : FnIs Try.prog 80 := fun args w => by kernel_rfl
theorem u4 : Try.prog.underlying 4 = some .bool := by kernel_rfl
theorem u54 : Try.prog.underlying 54 = some (.float .f32) := by kernel_rfl
theorem u172 : Try.prog.underlying 172 = some (.float .f64) := by kernel_rfl
theorem fn134 : FnIs Try.prog 134 := fun args w => by kernel_rfl
theorem fn133 : FnIs Try.prog 133 := fun args w => by kernel_rfl
theorem fn172 : FnIs Try.prog 172 := fun args w => by kernel_rfl
theorem fn155 : FnIs Try.prog 155 := fun args w => by kernel_rfl
theorem fn156 : FnIs Try.prog 156 := fun args w => by kernel_rfl
theorem fn135 : FnIs Try.prog 135 := fun args w => by kernel_rfl
theorem fn82 : FnIs Try.prog 82 := fun args w => by kernel_rfl
theorem fn83 : FnIs Try.prog 83 := fun args w => by kernel_rfl
theorem y60 : TyIs Try.prog 60 Y59.n Y59.agg := ⟨fun w => by kernel_rfl, fun w => by kernel_rfl⟩
theorem fn30 : FnIs Try.prog 30 := fun args w => by kernel_rfl
theorem fn32 : FnIs Try.prog 32 := fun args w => by kernel_rfl
theorem fn31 : FnIs Try.prog 31 := fun args w => by kernel_rfl
theorem fn33 : FnIs Try.prog 33 := fun args w => by kernel_rfl
theorem fn34 : FnIs Try.prog 34 := fun args w => by kernel_rfl
theorem u60 : Try.prog.underlying 60 = some (.struct (Try.prog.fieldsOf 60)) := by kernel_rfl
theorem ce158 : Try.prog.cellsOf 158 = Y157.n := by kernel_rfl
theorem u158 : Try.prog.underlying 158 = some (.struct (Try.prog.fieldsOf 158)) := by kernel_rfl
theorem ce169 : Try.prog.cellsOf 169 = Y169.n := by kernel_rfl
theorem ce23 : Try.prog.cellsOf 23 = (TI .i16).n := by kernel_rfl
theorem u23 : Try.prog.underlying 23 = some (.int .i16) := by kernel_rfl
theorem op23 {H : Type} {enc : TypeId × Value → H} {W : World} : Opens enc Try.prog W 23 (TI .i16) := o_int u23
theorem op169 {H : Type} {enc : TypeId × Value → H} {W : World} : Opens enc Try.prog W 169 Y169 := o_sl u169 ce23 op23
theorem op125 {H : Type} {enc : TypeId × Value → H} {W : World} : Opens enc Try.prog W 125 Y125 := o_sl u125 ce169 op169
theorem ce55 : Try.prog.cellsOf 55 = Y55.n := by kernel_rfl
theorem ce54 : Try.prog.cellsOf 54 = (TF .f32).n := by kernel_rfl
theorem op54 {H : Type} {enc : TypeId × Value → H} {W : World} : Opens enc Try.prog W 54 (TF .f32) := o_float u54
theorem op55 {H : Type} {enc : TypeId × Value → H} {W : World} : Opens enc Try.prog W 55 Y55 := o_arr u55 ce55 ce54 op54
theorem op156 {H : Type} {enc : TypeId × Value → H} {W : World} : Opens enc Try.prog W 156 Y156 := o_sl u156 ce55 op55
theorem ol158 : ((Try.prog.fieldsOf 158).toList.map fun f => (f.type, f.offset, Try.prog.cellsOf f.type)) = [(156, 0, Y156.n), (125, 1, Y125.n)] := by kernel_rfl
theorem op158 {H : Type} {enc : TypeId × Value → H} {W : World} : Opens enc Try.prog W 158 Y157 := o_struct u158 ce158 ol158 (of_cons rfl op156 (of_last op125))
theorem op58 {H : Type} {enc : TypeId × Value → H} {W : World} : Opens enc Try.prog W 58 Y58 := o_sl u58 ce158 op158
theorem u57 : Try.prog.underlying 57 = some (.struct (Try.prog.fieldsOf 57)) := by kernel_rfl
theorem ol57 : ((Try.prog.fieldsOf 57).toList.map fun f => (f.type, f.offset, Try.prog.cellsOf f.type)) = [(55, 0, Y55.n), (55, 3, Y55.n), (55, 6, Y55.n), (54, 9, (TF .f32).n), (54, 10, (TF .f32).n)] := by kernel_rfl
theorem ce57 : Try.prog.cellsOf 57 = Y56.n := by kernel_rfl
theorem op57 {H : Type} {enc : TypeId × Value → H} {W : World} : Opens enc Try.prog W 57 Y56 := o_struct u57 ce57 ol57 (of_cons rfl op55 (of_cons rfl op55 (of_cons rfl op55 (of_cons rfl op54 (of_last op54)))))
theorem ol60 : ((Try.prog.fieldsOf 60).toList.map fun f => (f.type, f.offset, Try.prog.cellsOf f.type)) = [(57, 0, Y56.n), (58, 11, Y58.n)] := by kernel_rfl
theorem ce60 : Try.prog.cellsOf 60 = Y59.n := by kernel_rfl
theorem op60 {H : Type} {enc : TypeId × Value → H} {W : World} : Opens enc Try.prog W 60 Y59 := o_struct u60 ce60 ol60 (of_cons rfl op57 (of_last op58))
end Go.Proofs.Ytjmlfdhddbhlpaa
