/-
  The walks: each function comes to what its plain function says.
-/
import Derived.Test.YtnpkhhfpgedkoaaFactsC
import Derived.Test.YtnpkhhfpgedkoaaFC
import Derived.Test.YtnpkhhfpgedkoaaCB
set_option linter.unusedVariables false
set_option maxHeartbeats 1600000
set_option maxRecDepth 100000
namespace Go.Proofs.Ytnpkhhfpgedkoaa
open Go
theorem c45 (w : World) (v0 v1 : Value) {σ : Heap} (hσ : σ.le (snap w)) {x0 : (List Int)} {x1 : ((List Int) × (List Int) × Int)} {r : ((List Int) × Int)} (hF : spec_DrawStroke x0 x1 = some r) (h0 : Y23.val σ v0 x0) (h1 : Y36.val σ v1 x1) :
    Calls Try.prog 45 #[v0, v1] w (Ret [] w σ (SRel.tup2 (Y23.sv r.1) ((TI .i64).sv r.2)) []) := by
  unfold spec_DrawStroke at hF
  refine start (args := [v0, v1]) Try.func45 rfl 11 rfl [] [(0, (Y23.sv x0)), (1, (Y36.sv x1))] [] (sat_start _ hσ) rfl (args1 rfl h0 (args1 rfl h1 (args0))) ?_
  refine T.seq ?_
  refine T.region mix 4 [2, 3, 4, 5] [0, 0, 0, 0] [(sO SRel.any [(1, (boxR 27 Y23 x0))]), (sp ((TP Y36).sv x1)), (sO SRel.any [(2, (boxR 27 Y23 (List.replicate 64 0)))]), (sp ((TI .i64).sv 0))] (by kernel_rfl) (AOK.cons (fun ρ a w hs hz hΓ hp => g_box hs.le (hΓ 0 rfl)) (AOK.cons (fun ρ a w hs hz hΓ hp => gp (d_box hs.le (hΓ 1 rfl))) (AOK.cons (fun ρ a w hs hz hΓ hp => g_alloc hs.le z27 zc27) (AOK.cons (fun ρ a w hs hz hΓ hp => gp (d_assign (vI rfl))) AOK.nil rfl) rfl) rfl) rfl) (fun vs1 => ?_)
  refine T.nil ?_
  refine T.norm ?_
  refine T.seq ?_
  refine T.seq ?_
  obtain ⟨x6, e3, hF⟩ := bindS hF
  refine T.region mix 2 [6, 7] [0, 1] [(sp (TB.sv x6)), (sp (TB.sv (!x6)))] (by kernel_rfl) (AOK.cons (fun ρ a w hs hz hΓ hp => gp (d_call fn63 hs.le mapA1 (c63 w _ hs.le e3 (hΓ 3 rfl)))) (AOK.cons (fun ρ a w hs hz hΓ hp => gp (d_not (hp 0 _ rfl rfl).1)) AOK.nil rfl) rfl) (fun vs2 => ?_)
  refine T.nil ?_
  refine T.norm ?_
  refine T.cond (b := (!x6)) (fun _ _ h => h) (fun hc => ?_) (fun hc => ?_)
  · replace hF := iteT hF hc
    refine T.seq ?_
    refine T.region mix 1 [8] [0, 1, 3] [(sp (Y23.sv ((List.replicate 64 0) : (List Int))))] (by kernel_rfl) (AOK.cons (fun ρ a w hs hz hΓ hp => gp (d_buildA u27 y22 z27 zc27 (Fills.done _))) AOK.nil rfl) (fun vs4 => ?_)
    refine T.store 2 y27 rfl (fun ρ a w st => ⟨.inl ⟨(st.env 4).1, rfl⟩, (st.env 8)⟩) (At.refl Y23 (List.replicate 64 0)) ?_
    refine T.does (R := ((TI .i64).sv 1)) rfl (fun ρ a w st => have hs := st.sat; d_assign (vI rfl)) ?_
    refine T.nil ?_
    refine T.norm ?_
    refine T.ret ?_
    obtain rfl := Option.some.inj hF
    refine T.fin0 fun ρ a w st => ?_
    obtain ⟨q0, hr0, hv0⟩ := rv_cell y27 st.sat 2 rfl (st.env 4).1
    exact ⟨_, results_two rfl hr0 rfl, ⟨_, _, rfl, hv0, (st.env 5)⟩⟩
  · replace hF := iteF hF hc
    refine T.skip ?_
    refine T.norm ?_
    refine T.seq ?_
    refine T.region mix 0 [] [0] [] (by kernel_rfl) AOK.nil (fun _ => ?_)
    obtain ⟨x9, e6, hF⟩ := bindS hF
    refine T.callB (R := SRel.any) (r := (boxR 27 Y23 x0 (vs1 0))) (r' := (boxR 27 Y23 x9 (vs1 0))) 1 fn90 rfl rfl (loose_boxR (flat_TArr (flat_TI _))) (loose_boxR (flat_TArr (flat_TI _))) rfl (fun ρ a w st hle hm => ?_) ?_
    · rw [mapA2]; exact call_at (r := boxR 27 Y23 x9) (st.env 2).1 (c90 w _ _  e6 (hm_at (r := boxR 27 Y23 x0) (st.env 2).1 hm) (Ty.val_mono _ (le_at (st.env 2).1 hle) (st.env 3)))
    refine T.nil ?_
    refine T.norm ?_
    refine T.seq ?_
    refine T.region mix 1 [10] [0, 1, 3] [(sp (Y23.sv x9))] (by kernel_rfl) (AOK.cons (fun ρ a w hs hz hΓ hp => gp (d_loadO y27 hs 1 rfl (.inl ⟨(hΓ 2 rfl).1, rfl⟩) (At.refl Y23 x9))) AOK.nil rfl) (fun vs7 => ?_)
    refine T.store 2 y27 rfl (fun ρ a w st => ⟨.inl ⟨(st.env 4).1, rfl⟩, (st.env 10)⟩) (At.refl Y23 (List.replicate 64 0)) ?_
    refine T.does (R := ((TI .i64).sv 0)) rfl (fun ρ a w st => have hs := st.sat; d_assign (vI rfl)) ?_
    refine T.nil ?_
    refine T.norm ?_
    refine T.ret ?_
    obtain rfl := Option.some.inj hF
    refine T.fin0 fun ρ a w st => ?_
    obtain ⟨q0, hr0, hv0⟩ := rv_cell y27 st.sat 2 rfl (st.env 4).1
    exact ⟨_, results_two rfl hr0 rfl, ⟨_, _, rfl, hv0, (st.env 5)⟩⟩

theorem c46 (w : World) (v0 v1 : Value) {σ : Heap} (hσ : σ.le (snap w)) {x0 : (List Int)} {x1 : ((List Int) × (List Int) × Int)} {r : ((List Int) × Int)} (hF : impl_DrawStroke x0 x1 = some r) (h0 : Y23.val σ v0 x0) (h1 : Y36.val σ v1 x1) :
    Calls Try.prog 46 #[v0, v1] w (Ret [] w σ (SRel.tup2 (Y23.sv r.1) ((TI .i64).sv r.2)) []) := by
  unfold impl_DrawStroke at hF
  refine start (args := [v0, v1]) Try.func46 rfl 12 rfl [] [(0, (Y23.sv x0)), (1, (Y36.sv x1))] [] (sat_start _ hσ) rfl (args1 rfl h0 (args1 rfl h1 (args0))) ?_
  refine T.seq ?_
  refine T.region mix 4 [2, 3, 4, 5] [0, 0, 0, 0] [(sp ((TP Y23).sv x0)), (sp ((TP Y36).sv x1)), (sO SRel.any [(1, (boxR 27 Y23 (List.replicate 64 0)))]), (sp ((TI .i64).sv 0))] (by kernel_rfl) (AOK.cons (fun ρ a w hs hz hΓ hp => gp (d_box hs.le (hΓ 0 rfl))) (AOK.cons (fun ρ a w hs hz hΓ hp => gp (d_box hs.le (hΓ 1 rfl))) (AOK.cons (fun ρ a w hs hz hΓ hp => g_alloc hs.le z27 zc27) (AOK.cons (fun ρ a w hs hz hΓ hp => gp (d_assign (vI rfl))) AOK.nil rfl) rfl) rfl) rfl) (fun vs1 => ?_)
  refine T.nil ?_
  refine T.norm ?_
  refine T.seq ?_
  obtain ⟨x9, e3, hF⟩ := bindS hF
  refine T.region mix 6 [6, 7, 8, 9, 10, 11] [0, 0, 2, 7, 15, 15, 63, 127] [(sp (Y23.sv x0)), (sp (Y36.sv x1)), (sp (Y77.sv ([x1] : List ((List Int) × (List Int) × Int)))), (sp (SRel.tup2 (Y23.sv x9.1) ((TI .i64).sv x9.2))), (sp (Y23.sv x9.1)), (sp ((TI .i64).sv x9.2))] (by kernel_rfl) (AOK.cons (fun ρ a w hs hz hΓ hp => gp (d_load y27 hs.le (hΓ 2 rfl))) (AOK.cons (fun ρ a w hs hz hΓ hp => gp (d_load y40 hs.le (hΓ 3 rfl))) (AOK.cons (fun ρ a w hs hz hΓ hp => gp (d_buildSl hs.le u83 y40 z40 (by decide) (by decide) zc40 (Fills.part rfl (hp 1 _ rfl rfl).1 (At.nth (At.refl _ _) 0 rfl) (Fills.done _)))) (AOK.cons (fun ρ a w hs hz hΓ hp => gp (d_call fn58 hs.le mapA2 (c58 w _ _ hs.le e3 ((hp 0 _ rfl rfl).1) ((hp 2 _ rfl rfl).1)))) (AOK.cons (fun ρ a w hs hz hΓ hp => gp (d_extract2_0 (hp 3 _ rfl rfl).1)) (AOK.cons (fun ρ a w hs hz hΓ hp => gp (d_extract2_1 (hp 3 _ rfl rfl).1)) AOK.nil rfl) rfl) rfl) rfl) rfl) rfl) (fun vs2 => ?_)
  refine T.store 1 y27 rfl (fun ρ a w st => ⟨.inl ⟨(st.env 4).1, rfl⟩, (st.env 10)⟩) (At.refl Y23 (List.replicate 64 0)) ?_
  refine T.does (R := ((TI .i64).sv x9.2)) rfl (fun ρ a w st => have hs := st.sat; d_assign (st.env 11)) ?_
  refine T.nil ?_
  refine T.norm ?_
  refine T.ret ?_
  obtain rfl := Option.some.inj hF
  refine T.fin0 fun ρ a w st => ?_
  obtain ⟨q0, hr0, hv0⟩ := rv_cell y27 st.sat 1 rfl (st.env 4).1
  exact ⟨_, results_two rfl hr0 rfl, ⟨_, _, rfl, hv0, (st.env 5)⟩⟩

theorem c12 (w : World) (v0 v1 : Value) {σ : Heap} (hσ : σ.le (snap w)) {x0 : (List Int)} {x1 : ((List Int) × (List Int) × Int)} {r : Bool} (hF : laws_FnExactDrawStroke x0 x1 = some r) (h0 : Y23.val σ v0 x0) (h1 : Y36.val σ v1 x1) :
    Calls Try.prog 12 #[v0, v1] w (Ret [] w σ (TB.sv r) []) := by
  unfold laws_FnExactDrawStroke at hF
  refine start (args := [v0, v1]) Try.func12 rfl 34 rfl [] [(0, (Y23.sv x0)), (1, (Y36.sv x1))] [] (sat_start _ hσ) rfl (args1 rfl h0 (args1 rfl h1 (args0))) ?_
  refine T.seq ?_
  refine T.region mix 3 [2, 3, 4] [0, 0, 0] [(sp ((TP Y23).sv x0)), (sp ((TP Y36).sv x1)), (sp (TB.sv false))] (by kernel_rfl) (AOK.cons (fun ρ a w hs hz hΓ hp => gp (d_box hs.le (hΓ 0 rfl))) (AOK.cons (fun ρ a w hs hz hΓ hp => gp (d_box hs.le (hΓ 1 rfl))) (AOK.cons (fun ρ a w hs hz hΓ hp => gp (d_assign (vB _))) AOK.nil rfl) rfl) rfl) (fun vs1 => ?_)
  refine T.nil ?_
  refine T.norm ?_
  refine T.seq ?_
  obtain ⟨x11, e3, hF⟩ := bindS hF
  obtain ⟨x13, e4, hF⟩ := bindS hF
  obtain ⟨x14, e5, hF⟩ := bindS hF
  refine T.region mix 11 [10, 11, 12, 13, 14, 9, 15, 16, 5, 43, 6] [0, 1, 0, 7, 15, 31, 63, 63, 0, 383, 1023] [(sp (Y23.sv x0)), (sp (Y23.sv x11)), (sp (Y36.sv x1)), (sp (Y36.sv x13)), (sp (SRel.tup2 (Y23.sv x14.1) ((TI .i64).sv x14.2))), (sp (SRel.tup2 (Y23.sv x14.1) ((TI .i64).sv x14.2))), (sp (Y23.sv x14.1)), (sp ((TI .i64).sv x14.2)), (sO SRel.any [(1, (boxR 27 Y23 (List.replicate 64 0)))]), (sM 1 8 (boxR 27 Y23 x14.1)), (sp ((TI .i64).sv x14.2))] (by kernel_rfl) (AOK.cons (fun ρ a w hs hz hΓ hp => gp (d_load y23 hs.le (hΓ 2 rfl))) (AOK.cons (fun ρ a w hs hz hΓ hp => gp (d_call fn16 hs.le mapA1 (c16 w _ hs.le e3 ((hp 0 _ rfl rfl).1)))) (AOK.cons (fun ρ a w hs hz hΓ hp => gp (d_load y37 hs.le (hΓ 3 rfl))) (AOK.cons (fun ρ a w hs hz hΓ hp => gp (d_call fn24 hs.le mapA1 (c24 w _ hs.le e4 ((hp 2 _ rfl rfl).1)))) (AOK.cons (fun ρ a w hs hz hΓ hp => gp (d_call fn45 hs.le mapA2 (c45 w _ _ hs.le e5 ((hp 1 _ rfl rfl).1) ((hp 3 _ rfl rfl).1)))) (AOK.cons (fun ρ a w hs hz hΓ hp => gp (d_move (hp 4 _ rfl rfl).1)) (AOK.cons (fun ρ a w hs hz hΓ hp => gp (d_extract2_0 (hp 5 _ rfl rfl).1)) (AOK.cons (fun ρ a w hs hz hΓ hp => gp (d_extract2_1 (hp 5 _ rfl rfl).1)) (AOK.cons (fun ρ a w hs hz hΓ hp => g_alloc hs.le z27 zc27) (AOK.consT (fun ρ a w hs hz hΓ hp => gt_store hs 1 y27 rfl (.inl ⟨rfl, rfl⟩) ((hp 6 _ rfl rfl).1) (At.refl Y23 (List.replicate 64 0)) rfl rfl) (AOK.cons (fun ρ a w hs hz hΓ hp => gp (d_assign (hp 7 _ rfl rfl).1)) AOK.nil rfl) rfl) rfl) rfl) rfl) rfl) rfl) rfl) rfl) rfl) rfl) (fun vs2 => ?_)
  refine T.nil ?_
  refine T.norm ?_
  refine T.seq ?_
  obtain ⟨x19, e7, hF⟩ := bindS hF
  obtain ⟨x21, e8, hF⟩ := bindS hF
  obtain ⟨x22, e9, hF⟩ := bindS hF
  refine T.region mix 11 [18, 19, 20, 21, 22, 17, 23, 24, 7, 43, 8] [0, 1, 0, 7, 15, 31, 63, 63, 0, 383, 1023] [(sp (Y23.sv x0)), (sp (Y23.sv x19)), (sp (Y36.sv x1)), (sp (Y36.sv x21)), (sp (SRel.tup2 (Y23.sv x22.1) ((TI .i64).sv x22.2))), (sp (SRel.tup2 (Y23.sv x22.1) ((TI .i64).sv x22.2))), (sp (Y23.sv x22.1)), (sp ((TI .i64).sv x22.2)), (sO SRel.any [(2, (boxR 27 Y23 (List.replicate 64 0)))]), (sM 2 8 (boxR 27 Y23 x22.1)), (sp ((TI .i64).sv x22.2))] (by kernel_rfl) (AOK.cons (fun ρ a w hs hz hΓ hp => gp (d_load y23 hs.le (hΓ 2 rfl))) (AOK.cons (fun ρ a w hs hz hΓ hp => gp (d_call fn16 hs.le mapA1 (c16 w _ hs.le e7 ((hp 0 _ rfl rfl).1)))) (AOK.cons (fun ρ a w hs hz hΓ hp => gp (d_load y37 hs.le (hΓ 3 rfl))) (AOK.cons (fun ρ a w hs hz hΓ hp => gp (d_call fn24 hs.le mapA1 (c24 w _ hs.le e8 ((hp 2 _ rfl rfl).1)))) (AOK.cons (fun ρ a w hs hz hΓ hp => gp (d_call fn46 hs.le mapA2 (c46 w _ _ hs.le e9 ((hp 1 _ rfl rfl).1) ((hp 3 _ rfl rfl).1)))) (AOK.cons (fun ρ a w hs hz hΓ hp => gp (d_move (hp 4 _ rfl rfl).1)) (AOK.cons (fun ρ a w hs hz hΓ hp => gp (d_extract2_0 (hp 5 _ rfl rfl).1)) (AOK.cons (fun ρ a w hs hz hΓ hp => gp (d_extract2_1 (hp 5 _ rfl rfl).1)) (AOK.cons (fun ρ a w hs hz hΓ hp => g_alloc hs.le z27 zc27) (AOK.consT (fun ρ a w hs hz hΓ hp => gt_store hs 2 y27 rfl (.inl ⟨rfl, rfl⟩) ((hp 6 _ rfl rfl).1) (At.refl Y23 (List.replicate 64 0)) rfl rfl) (AOK.cons (fun ρ a w hs hz hΓ hp => gp (d_assign (hp 7 _ rfl rfl).1)) AOK.nil rfl) rfl) rfl) rfl) rfl) rfl) rfl) rfl) rfl) rfl) rfl) (fun vs6 => ?_)
  refine T.nil ?_
  refine T.norm ?_
  refine T.seq ?_
  refine T.seq ?_
  obtain ⟨x27, e11, hF⟩ := bindS hF
  refine T.region mix 9 [25, 26, 27, 28, 29, 30, 31, 32, 33] [0, 0, 3, 7, 15, 31, 31, 127, 255] [(sp (Y23.sv x22.1)), (sp (Y23.sv x14.1)), (sp (TB.sv x27)), (sp (TB.sv (!x27))), (sp (TB.sv (!x27))), (sp (SRel.when ((!x27) = false) ((TI .i64).sv x22.2))), (sp (SRel.when ((!x27) = false) ((TI .i64).sv x14.2))), (sp (SRel.when ((!x27) = false) (TB.sv (decide (x22.2 ≠ x14.2))))), (sp (TB.sv ((!x27) || (decide (x22.2 ≠ x14.2)))))] (by kernel_rfl) (AOK.cons (fun ρ a w hs hz hΓ hp => gp (d_loadO y27 hs 2 rfl (.inl ⟨(hΓ 7 rfl).1, rfl⟩) (At.refl Y23 x22.1))) (AOK.cons (fun ρ a w hs hz hΓ hp => gp (d_loadO y27 hs 1 rfl (.inl ⟨(hΓ 5 rfl).1, rfl⟩) (At.refl Y23 x14.1))) (AOK.cons (fun ρ a w hs hz hΓ hp => gp (d_call fn47 hs.le mapA2 (c47 w _ _ hs.le e11 ((hp 0 _ rfl rfl).1) ((hp 1 _ rfl rfl).1)))) (AOK.cons (fun ρ a w hs hz hΓ hp => gp (d_not (hp 2 _ rfl rfl).1)) (AOK.cons (fun ρ a w hs hz hΓ hp => gp (d_move (hp 3 _ rfl rfl).1)) (AOK.cons (fun ρ a w hs hz hΓ hp => gg (g := 4) (d := 29) hz rfl (hp 4 _ rfl rfl).1 rfl (fun hc => d_move (hΓ 8 rfl))) (AOK.cons (fun ρ a w hs hz hΓ hp => gg (g := 4) (d := 29) hz rfl (hp 4 _ rfl rfl).1 rfl (fun hc => d_move (hΓ 6 rfl))) (AOK.cons (fun ρ a w hs hz hΓ hp => gg (g := 4) (d := 29) hz rfl (hp 4 _ rfl rfl).1 rfl (fun hc => d_neq ((hp 5 _ rfl rfl).1 hc) ((hp 6 _ rfl rfl).1 hc))) (AOK.cons (fun ρ a w hs hz hΓ hp => gp (d_pick (hp 4 _ rfl rfl).1 (fun hc => pON hc) (fun hc => pO hc ((hp 7 _ rfl rfl).1 hc)))) AOK.nil rfl) rfl) rfl) rfl) rfl) rfl) rfl) rfl) rfl) (fun vs10 => ?_)
  refine T.nil ?_
  refine T.norm ?_
  refine T.cond (b := ((!x27) || (decide (x22.2 ≠ x14.2)))) (fun _ _ h => h) (fun hc => ?_) (fun hc => ?_)
  · replace hF := iteT hF hc
    refine T.seq ?_
    refine T.region mix 1 [4] [0] [(sp (TB.sv false))] (by kernel_rfl) (AOK.cons (fun ρ a w hs hz hΓ hp => gp (d_assign (vB _))) AOK.nil rfl) (fun vs12 => ?_)
    refine T.nil ?_
    refine T.norm ?_
    refine T.ret ?_
    obtain rfl := Option.some.inj hF
    refine T.fin0 fun ρ a w st => ?_
    exact ⟨_, results_one rfl rfl, (st.env 4)⟩
  · replace hF := iteF hF hc
    refine T.skip ?_
    refine T.norm ?_
    refine T.seq ?_
    refine T.region mix 1 [4] [0] [(sp (TB.sv true))] (by kernel_rfl) (AOK.cons (fun ρ a w hs hz hΓ hp => gp (d_assign (vB _))) AOK.nil rfl) (fun vs13 => ?_)
    refine T.nil ?_
    refine T.norm ?_
    refine T.ret ?_
    obtain rfl := Option.some.inj hF
    refine T.fin0 fun ρ a w st => ?_
    exact ⟨_, results_one rfl rfl, (st.env 4)⟩
end Go.Proofs.Ytnpkhhfpgedkoaa
