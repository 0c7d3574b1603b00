/-
  The walks: each function comes to what its plain function says.
-/
import Derived.Test.YtjmlfdhddbhlpaaFactsA
import Derived.Test.YtjmlfdhddbhlpaaFA
set_option linter.unusedVariables false
set_option maxHeartbeats 1600000
set_option maxRecDepth 100000
namespace Go.Proofs.Ytjmlfdhddbhlpaa
open Go
theorem c10 (w : World) (v0 v1 : Value) {σ : Heap} (hσ : σ.le (snap w)) {x0 : (List ((List Int) × (List Int) × Int))} {x1 : Int} {r : Int} (hF : laws_szStrokeS x0 x1 = some r) (h0 : Y22.val σ v0 x0) (h1 : (TI .i64).val σ v1 x1) :
    Calls Try.prog 10 #[v0, v1] w (Ret [] w σ ((TI .i64).sv r) []) := by
  unfold laws_szStrokeS at hF
  refine start (args := [v0, v1]) Try.func10 rfl 12 rfl [] [(0, (Y22.sv x0)), (1, ((TI .i64).sv x1))] [] (sat_start _ hσ) rfl (args1 rfl h0 (args1 rfl h1 (args0))) ?_
  refine T.seq ?_
  refine T.region mix 1 [4] [0] [(sp ((TI .i64).sv 0))] (by kernel_rfl) (AOK.cons (fun ρ a w hs hz hΓ hp => gp (d_assign (vI rfl))) AOK.nil rfl) (fun vs1 => ?_)
  refine T.nil ?_
  refine T.norm ?_
  refine T.seq ?_
  refine T.region mix 5 [5, 6, 7, 8, 1] [0, 0, 2, 7, 15] [(sp ((TI .i64).sv x1)), (sp (Y22.sv x0)), (sp ((TI .i64).sv (x0.length : Int))), (sp ((TI .i64).sv (IntKind.i64.wrap (x1 - (x0.length : Int))))), (sp ((TI .i64).sv (IntKind.i64.wrap (x1 - (x0.length : Int)))))] (by kernel_rfl) (AOK.cons (fun ρ a w hs hz hΓ hp => gp (d_move (hΓ 1 rfl))) (AOK.cons (fun ρ a w hs hz hΓ hp => gp (d_move (hΓ 0 rfl))) (AOK.cons (fun ρ a w hs hz hΓ hp => gp (d_lenR u22 (hp 1 _ rfl rfl).1)) (AOK.cons (fun ρ a w hs hz hΓ hp => gp (d_sub (hp 0 _ rfl rfl).1 (hp 2 _ rfl rfl).1)) (AOK.cons (fun ρ a w hs hz hΓ hp => gp (d_assign (hp 3 _ rfl rfl).1)) AOK.nil rfl) rfl) rfl) rfl) rfl) (fun vs2 => ?_)
  refine T.nil ?_
  refine T.norm ?_
  refine T.seq ?_
  refine T.seq ?_
  refine T.region mix 2 [9, 10] [0, 1] [(sp ((TI .i64).sv (IntKind.i64.wrap (x1 - (x0.length : Int))))), (sp (TB.sv (decide ((IntKind.i64.wrap (x1 - (x0.length : Int))) < 0))))] (by kernel_rfl) (AOK.cons (fun ρ a w hs hz hΓ hp => gp (d_move (hΓ 1 rfl))) (AOK.cons (fun ρ a w hs hz hΓ hp => gp (d_lss (hp 0 _ rfl rfl).1 (vI rfl))) AOK.nil rfl) rfl) (fun vs3 => ?_)
  refine T.nil ?_
  refine T.norm ?_
  refine T.cond (b := (decide ((IntKind.i64.wrap (x1 - (x0.length : Int))) < 0))) (fun _ _ h => h) (fun hc => ?_) (fun hc => ?_)
  · replace hF := iteT hF hc
    refine T.seq ?_
    refine T.region mix 1 [4] [0] [(sp ((TI .i64).sv (-1)))] (by kernel_rfl) (AOK.cons (fun ρ a w hs hz hΓ hp => gp (d_assign (vI rfl))) AOK.nil rfl) (fun vs4 => ?_)
    refine T.nil ?_
    refine T.norm ?_
    refine T.ret ?_
    obtain rfl := Option.some.inj hF
    refine T.fin0 fun ρ a w st => ?_
    exact ⟨_, results_one rfl rfl, (st.env 4)⟩
  · replace hF := iteF hF hc
    refine T.skip ?_
    refine T.norm ?_
    refine T.seq ?_
    refine T.region mix 2 [11, 4] [0, 1] [(sp ((TI .i64).sv (IntKind.i64.wrap (x1 - (x0.length : Int))))), (sp ((TI .i64).sv (IntKind.i64.wrap (x1 - (x0.length : Int)))))] (by kernel_rfl) (AOK.cons (fun ρ a w hs hz hΓ hp => gp (d_move (hΓ 1 rfl))) (AOK.cons (fun ρ a w hs hz hΓ hp => gp (d_assign (hp 0 _ rfl rfl).1)) AOK.nil rfl) rfl) (fun vs5 => ?_)
    refine T.nil ?_
    refine T.norm ?_
    refine T.ret ?_
    obtain rfl := Option.some.inj hF
    refine T.fin0 fun ρ a w st => ?_
    exact ⟨_, results_one rfl rfl, (st.env 4)⟩

theorem c13 (w : World) (v0 : Value) {σ : Heap} (hσ : σ.le (snap w)) {x0 : (List Int)} {r : (List Int)} (hF : laws_toMark x0 = some r) (h0 : Y24.val σ v0 x0) :
    Calls Try.prog 13 #[v0] w (Ret [] w σ (Y24.sv r) []) := by
  unfold laws_toMark at hF
  refine start (args := [v0]) Try.func13 rfl 15 rfl [] [(0, (Y24.sv x0))] [] (sat_start _ hσ) rfl (args1 rfl h0 (args0)) ?_
  refine T.seq ?_
  refine T.region mix 2 [1, 2] [0, 0] [(sp ((TP Y24).sv x0)), (sO SRel.any [(1, (boxR 32 Y24 (List.replicate 2 0)))])] (by kernel_rfl) (AOK.cons (fun ρ a w hs hz hΓ hp => gp (d_box hs.le (hΓ 0 rfl))) (AOK.cons (fun ρ a w hs hz hΓ hp => g_alloc hs.le z32 zc32) AOK.nil rfl) rfl) (fun vs1 => ?_)
  refine T.nil ?_
  refine T.norm ?_
  refine T.seq ?_
  refine T.region mix 1 [3] [0] [(sO SRel.any [(2, (boxR 32 Y24 (List.replicate 2 0)))])] (by kernel_rfl) (AOK.cons (fun ρ a w hs hz hΓ hp => g_alloc hs.le z32 zc32) AOK.nil rfl) (fun vs2 => ?_)
  refine T.nil ?_
  refine T.norm ?_
  refine T.seq ?_
  refine T.seq ?_
  refine T.region mix 1 [4] [0] [(sp ((TI .i64).sv 0))] (by kernel_rfl) (AOK.cons (fun ρ a w hs hz hΓ hp => gp (d_assign (vI rfl))) AOK.nil rfl) (fun vs3 => ?_)
  refine T.nil ?_
  refine T.norm ?_
  obtain ⟨yl4, e5, hF⟩ := bindS hF
  refine T.joinD (ι := (Int × (List Int)) × (Unit)) (fun p => yl4 = p.1) (Γ' := fun p => E [(2, (SRel.eq (vs1 1))), (3, (SRel.eq (vs2 0)))]) (H' := fun p => HL [(1, (boxR 32 Y24 (List.replicate 2 0) (vs1 1))), (2, (boxR 32 Y24 p.1.2 (vs2 0)))]) (fun p hy => ?_) (fun hk => ?_)
  · obtain ⟨⟨o4, or2⟩, _⟩ := p
    cases hy
    refine T.norm ?_
    refine T.seq ?_
    refine T.region mix 1 [14] [0, 1] [(sp (Y24.sv or2))] (by kernel_rfl) (AOK.cons (fun ρ a w hs hz hΓ hp => gp (d_loadO y32 hs 2 rfl (.inl ⟨(hΓ 3 rfl), rfl⟩) (At.refl Y24 or2))) AOK.nil rfl) (fun vs6 => ?_)
    refine T.store 1 y32 rfl (fun ρ a w st => ⟨.inl ⟨(st.env 2), rfl⟩, (st.env 14)⟩) (At.refl Y24 (List.replicate 2 0)) ?_
    refine T.nil ?_
    refine T.norm ?_
    refine T.ret ?_
    obtain rfl := Option.some.inj hF
    refine T.fin0 fun ρ a w st => ?_
    obtain ⟨q0, hr0, hv0⟩ := rv_cell y32 st.sat 1 rfl (st.env 2)
    exact ⟨_, results_one rfl hr0, hv0⟩
  · skip
    refine T.block ?_
    refine T.loop (f := laws_toMark_l1 x0) (σ := (Int × (List Int))) (Z := Unit) (fun s z => E [(1, ((TP Y24).sv x0)), (2, (SRel.eq (vs1 1))), (3, (SRel.eq (vs2 0))), (4, ((TI .i64).sv s.1))]) (fun s z => HL [(1, (boxR 32 Y24 (List.replicate 2 0) (vs1 1))), (2, (boxR 32 Y24 s.2 (vs2 0)))]) e5 () (fun φ h => T.toh h ⟨fun _ _ h => h, fun _ _ h => h.1, fun _ _ h => h.1, fun _ _ h => h, trivial⟩ ⟨rfl, rfl, trivial⟩) (fun k s z uu4 hu4 hn4 => ?_)
    obtain ⟨s4, sr2⟩ := s
    dsimp only [laws_toMark_l1] at hu4
    refine T.seq ?_
    refine T.seq ?_
    refine T.region mix 2 [5, 6] [0, 1] [(sp ((TI .i64).sv s4)), (sp (TB.sv (decide (s4 < 2))))] (by kernel_rfl) (AOK.cons (fun ρ a w hs hz hΓ hp => gp (d_move (hΓ 4 rfl))) (AOK.cons (fun ρ a w hs hz hΓ hp => gp (d_lss (hp 0 _ rfl rfl).1 (vI rfl))) AOK.nil rfl) rfl) (fun vs7 => ?_)
    refine T.nil ?_
    refine T.norm ?_
    refine T.cond (b := (decide (s4 < 2))) (fun _ _ h => h) (fun hc => ?_) (fun hc => ?_)
    · replace hu4 := iteT hu4 hc
      refine T.skip ?_
      refine T.norm ?_
      refine T.seq ?_
      refine T.block ?_
      obtain ⟨x11, e9, hu4⟩ := bindS hu4
      obtain ⟨x13, e10, hu4⟩ := bindS hu4
      refine T.region mix 5 [9, 10, 11, 12, 13] [0, 0, 2, 6, 15, 31] [(sp ((TI .i64).sv s4)), (sp ((TI .i64).sv s4)), (sp ((TP (TI .i16)).sv x11)), (sp ((TI .i16).sv x11)), (sp (SRel.eq (at_ (vs2 0) (0 + s4.toNat * (TI .i16).n))))] (by kernel_rfl) (AOK.cons (fun ρ a w hs hz hΓ hp => gp (d_move (hΓ 4 rfl))) (AOK.cons (fun ρ a w hs hz hΓ hp => gp (d_move (hΓ 4 rfl))) (AOK.cons (fun ρ a w hs hz hΓ hp => gp (d_idxP u24 y23 (hΓ 1 rfl) (hp 1 _ rfl rfl).1 e9)) (AOK.cons (fun ρ a w hs hz hΓ hp => gp (d_load y23 hs.le (hp 2 _ rfl rfl).1)) (AOK.cons (fun ρ a w hs hz hΓ hp => gp (d_idxO u32 y23 hs 2 rfl (.inl ⟨(hΓ 3 rfl), rfl⟩) (At.refl Y24 sr2) (hp 0 _ rfl rfl).1 e10)) AOK.nil rfl) rfl) rfl) rfl) rfl) (fun vs8 => ?_)
      refine T.store 2 y23 rfl (fun ρ a w st => ⟨.inr (st.env 13), (st.env 12)⟩) (At.elem (At.refl Y24 sr2) (idx_get e10).2) ?_
      refine T.nil ?_
      refine T.fallX ?_
      refine T.norm ?_
      refine T.region mix 3 [7, 8, 4] [0, 1, 3] [(sp ((TI .i64).sv s4)), (sp ((TI .i64).sv (IntKind.i64.wrap (s4 + 1)))), (sp ((TI .i64).sv (IntKind.i64.wrap (s4 + 1))))] (by kernel_rfl) (AOK.cons (fun ρ a w hs hz hΓ hp => gp (d_move (hΓ 4 rfl))) (AOK.cons (fun ρ a w hs hz hΓ hp => gp (d_add (hp 0 _ rfl rfl).1 (vI rfl))) (AOK.cons (fun ρ a w hs hz hΓ hp => gp (d_assign (hp 1 _ rfl rfl).1)) AOK.nil rfl) rfl) rfl) (fun vs11 => ?_)
      refine T.nil ?_
      obtain rfl := Option.some.inj hu4
      exact T.again hn4 () (fun φ h => T.toh h ⟨fun _ _ h => h, fun _ _ h => h, fun _ _ h => h, fun _ _ h => h, trivial⟩ ⟨rfl, rfl, trivial⟩)
    · replace hu4 := iteF hu4 hc
      refine T.exit ?_
      obtain rfl := Option.some.inj hu4
      repeat (first | refine T.passX ?_ | refine T.inX (by decide) ?_)
      refine T.hereX ?_
      exact T.toh (hk ((s4, sr2), ()) (Eq.symm hn4)) ⟨fun _ _ h => h, fun _ _ h => h, trivial⟩ ⟨rfl, rfl, trivial⟩

theorem c62 (w : World) (v0 : Value) {σ : Heap} (hσ : σ.le (snap w)) {x0 : ((List Int) × (List Int) × Int)} {r : ((List Int) × (List Int) × Int)} (hF : laws_toStroke x0 = some r) (h0 : Y104.val σ v0 x0) :
    Calls Try.prog 62 #[v0] w (Ret [] w σ (Y104.sv r) []) := by
  unfold laws_toStroke at hF
  refine start (args := [v0]) Try.func62 rfl 16 rfl [] [(0, (Y104.sv x0))] [] (sat_start _ hσ) rfl (args1 rfl h0 (args0)) ?_
  refine T.seq ?_
  refine T.region mix 2 [1, 2] [0, 0] [(sp ((TP Y104).sv x0)), (sO SRel.any [(1, (boxR 84 Y104 ((List.replicate 2 0), (List.replicate 2 0), 0)))])] (by kernel_rfl) (AOK.cons (fun ρ a w hs hz hΓ hp => gp (d_box hs.le (hΓ 0 rfl))) (AOK.cons (fun ρ a w hs hz hΓ hp => g_alloc hs.le z84 zc84) AOK.nil rfl) rfl) (fun vs1 => ?_)
  refine T.nil ?_
  refine T.norm ?_
  refine T.seq ?_
  refine T.region mix 1 [3] [0] [(sO SRel.any [(2, (boxR 84 Y104 ((List.replicate 2 0), (List.replicate 2 0), 0)))])] (by kernel_rfl) (AOK.cons (fun ρ a w hs hz hΓ hp => g_alloc hs.le z84 zc84) AOK.nil rfl) (fun vs2 => ?_)
  refine T.nil ?_
  refine T.norm ?_
  refine T.seq ?_
  obtain ⟨x6, e4, hF⟩ := bindS hF
  refine T.region mix 4 [4, 5, 6, 7] [0, 1, 3, 7, 15] [(sp ((TP Y24).sv x0.1)), (sp (Y24.sv x0.1)), (sp (Y24.sv x6)), (sp (SRel.eq (at_ (vs2 0) (0 + 0))))] (by kernel_rfl) (AOK.cons (fun ρ a w hs hz hΓ hp => gp (d_fieldP fa105_0 (hΓ 1 rfl) (At.fst (At.refl _ _)))) (AOK.cons (fun ρ a w hs hz hΓ hp => gp (d_load y24 hs.le (hp 0 _ rfl rfl).1)) (AOK.cons (fun ρ a w hs hz hΓ hp => gp (d_call fn13 hs.le mapA1 (c13 w _ hs.le e4 ((hp 1 _ rfl rfl).1)))) (AOK.cons (fun ρ a w hs hz hΓ hp => gp (d_fieldO fa84_0 hs 2 rfl (.inl ⟨(hΓ 3 rfl).1, rfl⟩))) AOK.nil rfl) rfl) rfl) rfl) (fun vs3 => ?_)
  refine T.store 2 y32 rfl (fun ρ a w st => ⟨.inr (st.env 7), (st.env 6)⟩) (At.fst (At.refl Y104 ((List.replicate 2 0), (List.replicate 2 0), 0))) ?_
  refine T.nil ?_
  refine T.norm ?_
  refine T.seq ?_
  obtain ⟨x10, e6, hF⟩ := bindS hF
  refine T.region mix 4 [8, 9, 10, 11] [0, 1, 3, 7, 15] [(sp ((TP Y24).sv x0.2.1)), (sp (Y24.sv x0.2.1)), (sp (Y24.sv x10)), (sp (SRel.eq (at_ (vs2 0) (0 + 2))))] (by kernel_rfl) (AOK.cons (fun ρ a w hs hz hΓ hp => gp (d_fieldP fa105_1 (hΓ 1 rfl) (At.fst (At.snd (At.refl _ _))))) (AOK.cons (fun ρ a w hs hz hΓ hp => gp (d_load y24 hs.le (hp 0 _ rfl rfl).1)) (AOK.cons (fun ρ a w hs hz hΓ hp => gp (d_call fn13 hs.le mapA1 (c13 w _ hs.le e6 ((hp 1 _ rfl rfl).1)))) (AOK.cons (fun ρ a w hs hz hΓ hp => gp (d_fieldO fa84_1 hs 2 rfl (.inl ⟨(hΓ 3 rfl).1, rfl⟩))) AOK.nil rfl) rfl) rfl) rfl) (fun vs5 => ?_)
  refine T.store 2 y32 rfl (fun ρ a w st => ⟨.inr (st.env 11), (st.env 10)⟩) (At.fst (At.snd (At.refl Y104 (x6, (List.replicate 2 0), 0)))) ?_
  refine T.nil ?_
  refine T.norm ?_
  refine T.seq ?_
  refine T.region mix 3 [12, 13, 14] [0, 1, 3, 7] [(sp ((TP (TI .i8)).sv x0.2.2)), (sp ((TI .i8).sv x0.2.2)), (sp (SRel.eq (at_ (vs2 0) (0 + 4))))] (by kernel_rfl) (AOK.cons (fun ρ a w hs hz hΓ hp => gp (d_fieldP fa105_2 (hΓ 1 rfl) (At.snd (At.snd (At.refl _ _))))) (AOK.cons (fun ρ a w hs hz hΓ hp => gp (d_load y82 hs.le (hp 0 _ rfl rfl).1)) (AOK.cons (fun ρ a w hs hz hΓ hp => gp (d_fieldO fa84_2 hs 2 rfl (.inl ⟨(hΓ 3 rfl).1, rfl⟩))) AOK.nil rfl) rfl) rfl) (fun vs7 => ?_)
  refine T.store 2 y82 rfl (fun ρ a w st => ⟨.inr (st.env 14), (st.env 13)⟩) (At.snd (At.snd (At.refl Y104 (x6, x10, 0)))) ?_
  refine T.nil ?_
  refine T.norm ?_
  refine T.seq ?_
  refine T.region mix 1 [15] [0, 1] [(sp (Y104.sv (x6, x10, x0.2.2)))] (by kernel_rfl) (AOK.cons (fun ρ a w hs hz hΓ hp => gp (d_loadO y84 hs 2 rfl (.inl ⟨(hΓ 3 rfl).1, rfl⟩) (At.refl Y104 (x6, x10, x0.2.2)))) AOK.nil rfl) (fun vs8 => ?_)
  refine T.store 1 y84 rfl (fun ρ a w st => ⟨.inl ⟨(st.env 2).1, rfl⟩, (st.env 15)⟩) (At.refl Y104 ((List.replicate 2 0), (List.replicate 2 0), 0)) ?_
  refine T.nil ?_
  refine T.norm ?_
  refine T.ret ?_
  obtain rfl := Option.some.inj hF
  refine T.fin0 fun ρ a w st => ?_
  obtain ⟨q0, hr0, hv0⟩ := rv_cell y84 st.sat 1 rfl (st.env 2).1
  exact ⟨_, results_one rfl hr0, hv0⟩

theorem c12 (w : World) (v0 : Value) {σ : Heap} (hσ : σ.le (snap w)) {x0 : (List ((List Int) × (List Int) × Int))} {r : (List ((List Int) × (List Int) × Int))} (hF : laws_toStrokeS x0 = some r) (h0 : Y22.val σ v0 x0) :
    Calls Try.prog 12 #[v0] w (Ret [] w σ SRel.any [slR 84 Y104 r]) := by
  unfold laws_toStrokeS at hF
  refine start (args := [v0]) Try.func12 rfl 23 rfl [] [(0, (Y22.sv x0))] [] (sat_start _ hσ) rfl (args1 rfl h0 (args0)) ?_
  refine T.seq ?_
  refine T.region mix 1 [2] [0] [(sO SRel.any [(1, (slR 84 Y104 []))])] (by kernel_rfl) (AOK.cons (fun ρ a w hs hz hΓ hp => g_nilSl) AOK.nil rfl) (fun vs1 => ?_)
  refine T.nil ?_
  refine T.norm ?_
  refine T.seq ?_
  obtain ⟨_u7, e3, hF⟩ := bindS hF
  refine T.region mix 4 [5, 6, 7, 3] [0, 1, 3, 7] [(sp (Y22.sv x0)), (sp ((TI .i64).sv (x0.length : Int))), (sO SRel.any [(2, (slR 84 Y104 (List.replicate (x0.length : Int).toNat ((List.replicate 2 0), (List.replicate 2 0), 0))))]), (al 2 (id))] (by kernel_rfl) (AOK.cons (fun ρ a w hs hz hΓ hp => gp (d_move (hΓ 0 rfl))) (AOK.cons (fun ρ a w hs hz hΓ hp => gp (d_lenR u22 (hp 0 _ rfl rfl).1)) (AOK.cons (fun ρ a w hs hz hΓ hp => g_makeSl hs.le u30 i84 rfl zc84 (hp 1 _ rfl rfl).1 (hp 1 _ rfl rfl).1 (need_get e3)) (AOK.cons (fun ρ a w hs hz hΓ hp => al_assign rfl) AOK.nil rfl) rfl) rfl) rfl) (fun vs2 => ?_)
  refine T.nil ?_
  refine T.norm ?_
  refine T.seq ?_
  refine T.seq ?_
  refine T.region mix 1 [4] [0] [(sp ((TI .i64).sv 0))] (by kernel_rfl) (AOK.cons (fun ρ a w hs hz hΓ hp => gp (d_assign (vI rfl))) AOK.nil rfl) (fun vs4 => ?_)
  refine T.nil ?_
  refine T.norm ?_
  obtain ⟨yl5, e6, hF⟩ := bindS hF
  refine T.joinD (ι := (Int × (List ((List Int) × (List Int) × Int))) × (Unit)) (fun p => yl5 = p.1) (Γ' := fun p => E [(3, (SRel.eq (vs2 2)))]) (H' := fun p => HL [(2, (slR 84 Y104 p.1.2 (vs2 2)))]) (fun p hy => ?_) (fun hk => ?_)
  · obtain ⟨⟨o4, or2⟩, _⟩ := p
    cases hy
    refine T.norm ?_
    refine T.seq ?_
    refine T.region mix 2 [22, 2] [0, 1] [(sp (SRel.eq (vs2 2))), (sp (SRel.eq (vs2 2)))] (by kernel_rfl) (AOK.cons (fun ρ a w hs hz hΓ hp => gp (d_move (hΓ 3 rfl))) (AOK.cons (fun ρ a w hs hz hΓ hp => gp (d_assign (hp 0 _ rfl rfl).1)) AOK.nil rfl) rfl) (fun vs7 => ?_)
    refine T.nil ?_
    refine T.norm ?_
    refine T.ret ?_
    obtain rfl := Option.some.inj hF
    refine T.fin fun ρ a w st => ?_
    exact ⟨_, results_one rfl rfl, trivial, own1 (own_at (id := 2) (st.env 2) rfl), List.pairwise_singleton _ _⟩
  · skip
    refine T.block ?_
    refine T.loop (f := laws_toStrokeS_l1 x0) (σ := (Int × (List ((List Int) × (List Int) × Int)))) (Z := Unit) (fun s z => E [(0, (Y22.sv x0)), (3, (SRel.eq (vs2 2))), (4, ((TI .i64).sv s.1))]) (fun s z => HL [(2, (slR 84 Y104 s.2 (vs2 2)))]) e6 () (fun φ h => T.toh h ⟨fun _ _ h => h, fun _ _ h => h, fun _ _ h => h, trivial⟩ ⟨rfl, trivial⟩) (fun k s z uu5 hu5 hn5 => ?_)
    obtain ⟨s4, sr2⟩ := s
    dsimp only [laws_toStrokeS_l1] at hu5
    refine T.seq ?_
    refine T.seq ?_
    refine T.region mix 4 [8, 9, 10, 11] [0, 0, 2, 7] [(sp ((TI .i64).sv s4)), (sp (Y22.sv x0)), (sp ((TI .i64).sv (x0.length : Int))), (sp (TB.sv (decide (s4 < (x0.length : Int)))))] (by kernel_rfl) (AOK.cons (fun ρ a w hs hz hΓ hp => gp (d_move (hΓ 4 rfl))) (AOK.cons (fun ρ a w hs hz hΓ hp => gp (d_move (hΓ 0 rfl))) (AOK.cons (fun ρ a w hs hz hΓ hp => gp (d_lenR u22 (hp 1 _ rfl rfl).1)) (AOK.cons (fun ρ a w hs hz hΓ hp => gp (d_lss (hp 0 _ rfl rfl).1 (hp 2 _ rfl rfl).1)) AOK.nil rfl) rfl) rfl) rfl) (fun vs8 => ?_)
    refine T.nil ?_
    refine T.norm ?_
    refine T.cond (b := (decide (s4 < (x0.length : Int)))) (fun _ _ h => h) (fun hc => ?_) (fun hc => ?_)
    · replace hu5 := iteT hu5 hc
      refine T.skip ?_
      refine T.norm ?_
      refine T.seq ?_
      refine T.block ?_
      obtain ⟨x18, e10, hu5⟩ := bindS hu5
      obtain ⟨x20, e11, hu5⟩ := bindS hu5
      obtain ⟨x21, e12, hu5⟩ := bindS hu5
      refine T.region mix 8 [14, 15, 16, 17, 18, 19, 20, 21] [0, 0, 0, 0, 12, 28, 60, 127, 255] [(sp (SRel.eq (vs2 2))), (sp ((TI .i64).sv s4)), (sp (Y22.sv x0)), (sp ((TI .i64).sv s4)), (sp ((TP Y104).sv x18)), (sp (Y104.sv x18)), (sp (Y104.sv x20)), (sp (SRel.eq (at_ (vs2 2) (s4.toNat * Y104.n + 0))))] (by kernel_rfl) (AOK.cons (fun ρ a w hs hz hΓ hp => gp (d_move (hΓ 3 rfl))) (AOK.cons (fun ρ a w hs hz hΓ hp => gp (d_move (hΓ 4 rfl))) (AOK.cons (fun ρ a w hs hz hΓ hp => gp (d_move (hΓ 0 rfl))) (AOK.cons (fun ρ a w hs hz hΓ hp => gp (d_move (hΓ 4 rfl))) (AOK.cons (fun ρ a w hs hz hΓ hp => gp (d_idxR u22 y105 (hp 2 _ rfl rfl).1 (hp 3 _ rfl rfl).1 e10)) (AOK.cons (fun ρ a w hs hz hΓ hp => gp (d_load y105 hs.le (hp 4 _ rfl rfl).1)) (AOK.cons (fun ρ a w hs hz hΓ hp => gp (d_call fn62 hs.le mapA1 (c62 w _ hs.le e11 ((hp 5 _ rfl rfl).1)))) (AOK.cons (fun ρ a w hs hz hΓ hp => gp (d_idxS u30 y84 hs 2 rfl (hp 0 _ rfl rfl).1 (hp 1 _ rfl rfl).1 e12)) AOK.nil rfl) rfl) rfl) rfl) rfl) rfl) rfl) rfl) (fun vs9 => ?_)
      refine T.storeS 2 y84 rfl (idx_get e12).2 (fun ρ a w st => ⟨(st.env 21), (st.env 20)⟩) (At.refl Y104 x21) ?_
      refine T.nil ?_
      refine T.fallX ?_
      refine T.norm ?_
      refine T.region mix 3 [12, 13, 4] [0, 1, 3] [(sp ((TI .i64).sv s4)), (sp ((TI .i64).sv (IntKind.i64.wrap (s4 + 1)))), (sp ((TI .i64).sv (IntKind.i64.wrap (s4 + 1))))] (by kernel_rfl) (AOK.cons (fun ρ a w hs hz hΓ hp => gp (d_move (hΓ 4 rfl))) (AOK.cons (fun ρ a w hs hz hΓ hp => gp (d_add (hp 0 _ rfl rfl).1 (vI rfl))) (AOK.cons (fun ρ a w hs hz hΓ hp => gp (d_assign (hp 1 _ rfl rfl).1)) AOK.nil rfl) rfl) rfl) (fun vs13 => ?_)
      refine T.nil ?_
      obtain rfl := Option.some.inj hu5
      exact T.again hn5 () (fun φ h => T.toh h ⟨fun _ _ h => h, fun _ _ h => h, fun _ _ h => h, trivial⟩ ⟨rfl, trivial⟩)
    · replace hu5 := iteF hu5 hc
      refine T.exit ?_
      obtain rfl := Option.some.inj hu5
      repeat (first | refine T.passX ?_ | refine T.inX (by decide) ?_)
      refine T.hereX ?_
      exact T.toh (hk ((s4, sr2), ()) (Eq.symm hn5)) ⟨fun _ _ h => h, trivial⟩ ⟨rfl, trivial⟩

theorem c85 (w : World) (v0 v1 v2 : Value) {σ : Heap} (hσ : σ.le (snap w)) {x0 : Int} {x1 : Int} {x2 : Int} {r : Bool} (hF : spec_l00In x0 x1 x2 = some r) (h0 : (TI .i64).val σ v0 x0) (h1 : (TI .i64).val σ v1 x1) (h2 : (TI .i64).val σ v2 x2) :
    Calls Try.prog 85 #[v0, v1, v2] w (Ret [] w σ (TB.sv r) []) := by
  unfold spec_l00In at hF
  refine start (args := [v0, v1, v2]) Try.func85 rfl 15 rfl [] [(0, ((TI .i64).sv x0)), (1, ((TI .i64).sv x1)), (2, ((TI .i64).sv x2))] [] (sat_start _ hσ) rfl (args1 rfl h0 (args1 rfl h1 (args1 rfl h2 (args0)))) ?_
  refine T.seq ?_
  refine T.region mix 1 [6] [0] [(sp (TB.sv false))] (by kernel_rfl) (AOK.cons (fun ρ a w hs hz hΓ hp => gp (d_assign (vB _))) AOK.nil rfl) (fun vs1 => ?_)
  refine T.nil ?_
  refine T.norm ?_
  refine T.seq ?_
  refine T.region mix 9 [7, 8, 9, 10, 11, 12, 13, 14, 6] [0, 0, 3, 7, 15, 15, 63, 127, 255] [(sp ((TI .i64).sv x0)), (sp ((TI .i64).sv x1)), (sp (TB.sv (decide (x1 ≤ x0)))), (sp (TB.sv (decide (x1 ≤ x0)))), (sp (SRel.when ((decide (x1 ≤ x0)) = true) ((TI .i64).sv x0))), (sp (SRel.when ((decide (x1 ≤ x0)) = true) ((TI .i64).sv x2))), (sp (SRel.when ((decide (x1 ≤ x0)) = true) (TB.sv (decide (x0 ≤ x2))))), (sp (TB.sv ((decide (x1 ≤ x0)) && (decide (x0 ≤ x2))))), (sp (TB.sv ((decide (x1 ≤ x0)) && (decide (x0 ≤ x2)))))] (by kernel_rfl) (AOK.cons (fun ρ a w hs hz hΓ hp => gp (d_move (hΓ 0 rfl))) (AOK.cons (fun ρ a w hs hz hΓ hp => gp (d_move (hΓ 1 rfl))) (AOK.cons (fun ρ a w hs hz hΓ hp => gp (d_geq (hp 0 _ rfl rfl).1 (hp 1 _ rfl rfl).1)) (AOK.cons (fun ρ a w hs hz hΓ hp => gp (d_move (hp 2 _ rfl rfl).1)) (AOK.cons (fun ρ a w hs hz hΓ hp => gg (g := 3) (d := 10) hz rfl (hp 3 _ rfl rfl).1 rfl (fun hc => d_move (hΓ 0 rfl))) (AOK.cons (fun ρ a w hs hz hΓ hp => gg (g := 3) (d := 10) hz rfl (hp 3 _ rfl rfl).1 rfl (fun hc => d_move (hΓ 2 rfl))) (AOK.cons (fun ρ a w hs hz hΓ hp => gg (g := 3) (d := 10) hz rfl (hp 3 _ rfl rfl).1 rfl (fun hc => d_leq ((hp 4 _ rfl rfl).1 hc) ((hp 5 _ rfl rfl).1 hc))) (AOK.cons (fun ρ a w hs hz hΓ hp => gp (d_pick (hp 3 _ rfl rfl).1 (fun hc => pA hc ((hp 6 _ rfl rfl).1 hc)) (fun hc => pAN hc))) (AOK.cons (fun ρ a w hs hz hΓ hp => gp (d_assign (hp 7 _ rfl rfl).1)) AOK.nil rfl) rfl) rfl) rfl) rfl) rfl) rfl) rfl) rfl) (fun vs2 => ?_)
  refine T.nil ?_
  refine T.norm ?_
  refine T.ret ?_
  obtain rfl := Option.some.inj hF
  refine T.fin0 fun ρ a w st => ?_
  exact ⟨_, results_one rfl rfl, (st.env 6)⟩

theorem c58 (w : World) (v0 : Value) {σ : Heap} (hσ : σ.le (snap w)) {x0 : (List Int)} {r : Bool} (hF : spec_l06Mark x0 = some r) (h0 : Y24.val σ v0 x0) :
    Calls Try.prog 58 #[v0] w (Ret [] w σ (TB.sv r) []) := by
  unfold spec_l06Mark at hF
  refine start (args := [v0]) Try.func58 rfl 13 rfl [] [(0, (Y24.sv x0))] [] (sat_start _ hσ) rfl (args1 rfl h0 (args0)) ?_
  refine T.seq ?_
  refine T.region mix 2 [1, 2] [0, 0] [(sp ((TP Y24).sv x0)), (sp (TB.sv false))] (by kernel_rfl) (AOK.cons (fun ρ a w hs hz hΓ hp => gp (d_box hs.le (hΓ 0 rfl))) (AOK.cons (fun ρ a w hs hz hΓ hp => gp (d_assign (vB _))) AOK.nil rfl) rfl) (fun vs1 => ?_)
  refine T.nil ?_
  refine T.norm ?_
  refine T.seq ?_
  obtain ⟨x6, e3, hF⟩ := bindS hF
  obtain ⟨x12, e5, hF⟩ := bindS hF
  obtain ⟨x11, e6⟩ : ∃ (x11 : Bool), x6 = true → spec_l00In (nth x0 1) (-500) 500 = some x11 ∧ x11 = x12 := by
    by_cases hb : x6 = true
    · replace e5 := iteT e5 hb
      obtain ⟨x11, e4, e5⟩ := bindS e5
      exact ⟨x11, fun _ => ⟨e4, Option.some.inj e5⟩⟩
    · exact ⟨default, fun h => absurd h hb⟩
  have e7 : x6 = false → false = x12 := fun h => Option.some.inj (iteF e5 h)
  refine T.region mix 11 [3, 4, 5, 6, 7, 8, 9, 10, 11, 12, 2] [0, 1, 3, 7, 15, 31, 63, 127, 255, 511, 1023] [(sp ((TP (TI .i16)).sv (nth x0 0))), (sp ((TI .i16).sv (nth x0 0))), (sp ((TI .i64).sv (nth x0 0))), (sp (TB.sv x6)), (sp (TB.sv x6)), (sp (SRel.when (x6 = true) ((TP (TI .i16)).sv (nth x0 1)))), (sp (SRel.when (x6 = true) ((TI .i16).sv (nth x0 1)))), (sp (SRel.when (x6 = true) ((TI .i64).sv (nth x0 1)))), (sp (SRel.when (x6 = true) (TB.sv x11))), (sp (TB.sv x12)), (sp (TB.sv x12))] (by kernel_rfl) (AOK.cons (fun ρ a w hs hz hΓ hp => gp (d_idxPc .i64 0 u32 y23 (hΓ 1 rfl) rfl)) (AOK.cons (fun ρ a w hs hz hΓ hp => gp (d_load y23 hs.le (hp 0 _ rfl rfl).1)) (AOK.cons (fun ρ a w hs hz hΓ hp => gp (d_widen u23 u2 rfl (hp 1 _ rfl rfl).1)) (AOK.cons (fun ρ a w hs hz hΓ hp => gp (d_call fn85 hs.le mapA3 (c85 w _ _ _ hs.le e3 ((hp 2 _ rfl rfl).1) (vI rfl) (vI rfl)))) (AOK.cons (fun ρ a w hs hz hΓ hp => gp (d_move (hp 3 _ rfl rfl).1)) (AOK.cons (fun ρ a w hs hz hΓ hp => gg (g := 4) (d := 7) hz rfl (hp 4 _ rfl rfl).1 rfl (fun hc => d_idxPc .i64 1 u32 y23 (hΓ 1 rfl) rfl)) (AOK.cons (fun ρ a w hs hz hΓ hp => gg (g := 4) (d := 7) hz rfl (hp 4 _ rfl rfl).1 rfl (fun hc => d_load y23 hs.le ((hp 5 _ rfl rfl).1 hc))) (AOK.cons (fun ρ a w hs hz hΓ hp => gg (g := 4) (d := 7) hz rfl (hp 4 _ rfl rfl).1 rfl (fun hc => d_widen u23 u2 rfl ((hp 6 _ rfl rfl).1 hc))) (AOK.cons (fun ρ a w hs hz hΓ hp => gg (g := 4) (d := 7) hz rfl (hp 4 _ rfl rfl).1 rfl (fun hc => d_call fn85 hs.le mapA3 (c85 w _ _ _ hs.le (e6 hc).1 ((hp 7 _ rfl rfl).1 hc) (vI rfl) (vI rfl)))) (AOK.cons (fun ρ a w hs hz hΓ hp => gp (d_pick (hp 4 _ rfl rfl).1 (fun hc => (pE ((e6 hc).2) ((hp 8 _ rfl rfl).1 hc))) (fun hc => pC (e7 hc)))) (AOK.cons (fun ρ a w hs hz hΓ hp => gp (d_assign (hp 9 _ rfl rfl).1)) AOK.nil rfl) rfl) rfl) rfl) rfl) rfl) rfl) rfl) rfl) rfl) rfl) (fun vs2 => ?_)
  refine T.nil ?_
  refine T.norm ?_
  refine T.ret ?_
  obtain rfl := Option.some.inj hF
  refine T.fin0 fun ρ a w st => ?_
  exact ⟨_, results_one rfl rfl, (st.env 2)⟩

theorem c98 (w : World) (v0 : Value) {σ : Heap} (hσ : σ.le (snap w)) {x0 : Int} {r : Bool} (hF : spec_l06Dash x0 = some r) (h0 : (TI .i8).val σ v0 x0) :
    Calls Try.prog 98 #[v0] w (Ret [] w σ (TB.sv r) []) := by
  unfold spec_l06Dash at hF
  refine start (args := [v0]) Try.func98 rfl 9 rfl [] [(0, ((TI .i8).sv x0))] [] (sat_start _ hσ) rfl (args1 rfl h0 (args0)) ?_
  refine T.seq ?_
  refine T.region mix 1 [2] [0] [(sp (TB.sv false))] (by kernel_rfl) (AOK.cons (fun ρ a w hs hz hΓ hp => gp (d_assign (vB _))) AOK.nil rfl) (fun vs1 => ?_)
  refine T.nil ?_
  refine T.norm ?_
  refine T.seq ?_
  refine T.region mix 7 [3, 4, 5, 6, 7, 8, 2] [0, 1, 3, 7, 15, 31, 63] [(sp ((TI .i8).sv x0)), (sp (TB.sv (decide (0 ≤ x0)))), (sp (TB.sv (decide (0 ≤ x0)))), (sp (SRel.when ((decide (0 ≤ x0)) = true) ((TI .i8).sv x0))), (sp (SRel.when ((decide (0 ≤ x0)) = true) (TB.sv (decide (x0 ≤ 3))))), (sp (TB.sv ((decide (0 ≤ x0)) && (decide (x0 ≤ 3))))), (sp (TB.sv ((decide (0 ≤ x0)) && (decide (x0 ≤ 3)))))] (by kernel_rfl) (AOK.cons (fun ρ a w hs hz hΓ hp => gp (d_move (hΓ 0 rfl))) (AOK.cons (fun ρ a w hs hz hΓ hp => gp (d_geq (hp 0 _ rfl rfl).1 (vI rfl))) (AOK.cons (fun ρ a w hs hz hΓ hp => gp (d_move (hp 1 _ rfl rfl).1)) (AOK.cons (fun ρ a w hs hz hΓ hp => gg (g := 2) (d := 5) hz rfl (hp 2 _ rfl rfl).1 rfl (fun hc => d_move (hΓ 0 rfl))) (AOK.cons (fun ρ a w hs hz hΓ hp => gg (g := 2) (d := 5) hz rfl (hp 2 _ rfl rfl).1 rfl (fun hc => d_leq ((hp 3 _ rfl rfl).1 hc) (vI rfl))) (AOK.cons (fun ρ a w hs hz hΓ hp => gp (d_pick (hp 2 _ rfl rfl).1 (fun hc => pA hc ((hp 4 _ rfl rfl).1 hc)) (fun hc => pAN hc))) (AOK.cons (fun ρ a w hs hz hΓ hp => gp (d_assign (hp 5 _ rfl rfl).1)) AOK.nil rfl) rfl) rfl) rfl) rfl) rfl) rfl) (fun vs2 => ?_)
  refine T.nil ?_
  refine T.norm ?_
  refine T.ret ?_
  obtain rfl := Option.some.inj hF
  refine T.fin0 fun ρ a w st => ?_
  exact ⟨_, results_one rfl rfl, (st.env 2)⟩

theorem c109 (w : World) (v0 : Value) {σ : Heap} (hσ : σ.le (snap w)) {x0 : ((List Int) × (List Int) × Int)} {r : Bool} (hF : spec_l06Ok x0 = some r) (h0 : (TP Y104).val σ v0 x0) :
    Calls Try.prog 109 #[v0] w (Ret [] w σ (TB.sv r) []) := by
  unfold spec_l06Ok at hF
  refine start (args := [v0]) Try.func109 rfl 22 rfl [] [(0, ((TP Y104).sv x0))] [] (sat_start _ hσ) rfl (args1 rfl h0 (args0)) ?_
  refine T.seq ?_
  refine T.region mix 1 [2] [0] [(sp (TB.sv false))] (by kernel_rfl) (AOK.cons (fun ρ a w hs hz hΓ hp => gp (d_assign (vB _))) AOK.nil rfl) (fun vs1 => ?_)
  refine T.nil ?_
  refine T.norm ?_
  refine T.seq ?_
  obtain ⟨x7, e3, hF⟩ := bindS hF
  obtain ⟨x14, e5, hF⟩ := bindS hF
  obtain ⟨x13, e6⟩ : ∃ (x13 : Bool), x7 = true → spec_l06Mark x0.2.1 = some x13 ∧ x13 = x14 := by
    by_cases hb : x7 = true
    · replace e5 := iteT e5 hb
      obtain ⟨x13, e4, e5⟩ := bindS e5
      exact ⟨x13, fun _ => ⟨e4, Option.some.inj e5⟩⟩
    · exact ⟨default, fun h => absurd h hb⟩
  have e7 : x7 = false → false = x14 := fun h => Option.some.inj (iteF e5 h)
  obtain ⟨x21, e9, hF⟩ := bindS hF
  obtain ⟨x20, e10⟩ : ∃ (x20 : Bool), x14 = true → spec_l06Dash x0.2.2 = some x20 ∧ x20 = x21 := by
    by_cases hb : x14 = true
    · replace e9 := iteT e9 hb
      obtain ⟨x20, e8, e9⟩ := bindS e9
      exact ⟨x20, fun _ => ⟨e8, Option.some.inj e9⟩⟩
    · exact ⟨default, fun h => absurd h hb⟩
  have e11 : x14 = false → false = x21 := fun h => Option.some.inj (iteF e9 h)
  refine T.region mix 20 [3, 4, 5, 6, 7, 8, 9, 10, 11, 12, 13, 14, 15, 16, 17, 18, 19, 20, 21, 2] [0, 1, 3, 7, 15, 31, 63, 127, 255, 511, 1023, 2047, 4095, 8191, 16383, 32767, 65535, 131071, 262143, 524287] [(sp ((TP Y104).sv x0)), (sp ((TP Y104).sv x0)), (sp ((TP Y24).sv x0.1)), (sp (Y24.sv x0.1)), (sp (TB.sv x7)), (sp (TB.sv x7)), (sp (SRel.when (x7 = true) ((TP Y104).sv x0))), (sp (SRel.when (x7 = true) ((TP Y104).sv x0))), (sp (SRel.when (x7 = true) ((TP Y24).sv x0.2.1))), (sp (SRel.when (x7 = true) (Y24.sv x0.2.1))), (sp (SRel.when (x7 = true) (TB.sv x13))), (sp (TB.sv x14)), (sp (TB.sv x14)), (sp (SRel.when (x14 = true) ((TP Y104).sv x0))), (sp (SRel.when (x14 = true) ((TP Y104).sv x0))), (sp (SRel.when (x14 = true) ((TP (TI .i8)).sv x0.2.2))), (sp (SRel.when (x14 = true) ((TI .i8).sv x0.2.2))), (sp (SRel.when (x14 = true) (TB.sv x20))), (sp (TB.sv x21)), (sp (TB.sv x21))] (by kernel_rfl) (AOK.cons (fun ρ a w hs hz hΓ hp => gp (d_move (hΓ 0 rfl))) (AOK.cons (fun ρ a w hs hz hΓ hp => gp (d_nilCheckP (hp 0 _ rfl rfl).1)) (AOK.cons (fun ρ a w hs hz hΓ hp => gp (d_fieldP fa84_0 (hp 1 _ rfl rfl).1 (At.fst (At.refl _ _)))) (AOK.cons (fun ρ a w hs hz hΓ hp => gp (d_load y32 hs.le (hp 2 _ rfl rfl).1)) (AOK.cons (fun ρ a w hs hz hΓ hp => gp (d_call fn58 hs.le mapA1 (c58 w _ hs.le e3 ((hp 3 _ rfl rfl).1)))) (AOK.cons (fun ρ a w hs hz hΓ hp => gp (d_move (hp 4 _ rfl rfl).1)) (AOK.cons (fun ρ a w hs hz hΓ hp => gg (g := 5) (d := 8) hz rfl (hp 5 _ rfl rfl).1 rfl (fun hc => d_move (hΓ 0 rfl))) (AOK.cons (fun ρ a w hs hz hΓ hp => gg (g := 5) (d := 8) hz rfl (hp 5 _ rfl rfl).1 rfl (fun hc => d_nilCheckP ((hp 6 _ rfl rfl).1 hc))) (AOK.cons (fun ρ a w hs hz hΓ hp => gg (g := 5) (d := 8) hz rfl (hp 5 _ rfl rfl).1 rfl (fun hc => d_fieldP fa84_1 ((hp 7 _ rfl rfl).1 hc) (At.fst (At.snd (At.refl _ _))))) (AOK.cons (fun ρ a w hs hz hΓ hp => gg (g := 5) (d := 8) hz rfl (hp 5 _ rfl rfl).1 rfl (fun hc => d_load y32 hs.le ((hp 8 _ rfl rfl).1 hc))) (AOK.cons (fun ρ a w hs hz hΓ hp => gg (g := 5) (d := 8) hz rfl (hp 5 _ rfl rfl).1 rfl (fun hc => d_call fn58 hs.le mapA1 (c58 w _ hs.le (e6 hc).1 ((hp 9 _ rfl rfl).1 hc)))) (AOK.cons (fun ρ a w hs hz hΓ hp => gp (d_pick (hp 5 _ rfl rfl).1 (fun hc => (pE ((e6 hc).2) ((hp 10 _ rfl rfl).1 hc))) (fun hc => pC (e7 hc)))) (AOK.cons (fun ρ a w hs hz hΓ hp => gp (d_move (hp 11 _ rfl rfl).1)) (AOK.cons (fun ρ a w hs hz hΓ hp => gg (g := 12) (d := 15) hz rfl (hp 12 _ rfl rfl).1 rfl (fun hc => d_move (hΓ 0 rfl))) (AOK.cons (fun ρ a w hs hz hΓ hp => gg (g := 12) (d := 15) hz rfl (hp 12 _ rfl rfl).1 rfl (fun hc => d_nilCheckP ((hp 13 _ rfl rfl).1 hc))) (AOK.cons (fun ρ a w hs hz hΓ hp => gg (g := 12) (d := 15) hz rfl (hp 12 _ rfl rfl).1 rfl (fun hc => d_fieldP fa84_2 ((hp 14 _ rfl rfl).1 hc) (At.snd (At.snd (At.refl _ _))))) (AOK.cons (fun ρ a w hs hz hΓ hp => gg (g := 12) (d := 15) hz rfl (hp 12 _ rfl rfl).1 rfl (fun hc => d_load y82 hs.le ((hp 15 _ rfl rfl).1 hc))) (AOK.cons (fun ρ a w hs hz hΓ hp => gg (g := 12) (d := 15) hz rfl (hp 12 _ rfl rfl).1 rfl (fun hc => d_call fn98 hs.le mapA1 (c98 w _ hs.le (e10 hc).1 ((hp 16 _ rfl rfl).1 hc)))) (AOK.cons (fun ρ a w hs hz hΓ hp => gp (d_pick (hp 12 _ rfl rfl).1 (fun hc => (pE ((e10 hc).2) ((hp 17 _ rfl rfl).1 hc))) (fun hc => pC (e11 hc)))) (AOK.cons (fun ρ a w hs hz hΓ hp => gp (d_assign (hp 18 _ rfl rfl).1)) AOK.nil rfl) rfl) rfl) rfl) rfl) rfl) rfl) rfl) rfl) rfl) rfl) rfl) rfl) rfl) rfl) rfl) rfl) rfl) rfl) rfl) (fun vs2 => ?_)
  refine T.nil ?_
  refine T.norm ?_
  refine T.ret ?_
  obtain rfl := Option.some.inj hF
  refine T.fin0 fun ρ a w st => ?_
  exact ⟨_, results_one rfl rfl, (st.env 2)⟩

theorem c57 (w : World) (v0 : Value) {σ : Heap} (hσ : σ.le (snap w)) {x0 : (List ((List Int) × (List Int) × Int))} {r : Int} (hF : spec_l06Strokes x0 = some r) (h0 : Y22.val σ v0 x0) :
    Calls Try.prog 57 #[v0] w (Ret [] w σ ((TI .i64).sv r) []) := by
  unfold spec_l06Strokes at hF
  refine start (args := [v0]) Try.func57 rfl 18 rfl [] [(0, (Y22.sv x0))] [] (sat_start _ hσ) rfl (args1 rfl h0 (args0)) ?_
  refine T.seq ?_
  refine T.region mix 1 [2] [0] [(sp ((TI .i64).sv 0))] (by kernel_rfl) (AOK.cons (fun ρ a w hs hz hΓ hp => gp (d_assign (vI rfl))) AOK.nil rfl) (fun vs1 => ?_)
  refine T.nil ?_
  refine T.norm ?_
  refine T.seq ?_
  refine T.seq ?_
  refine T.region mix 1 [3] [0] [(sp ((TI .i64).sv 0))] (by kernel_rfl) (AOK.cons (fun ρ a w hs hz hΓ hp => gp (d_assign (vI rfl))) AOK.nil rfl) (fun vs2 => ?_)
  refine T.nil ?_
  refine T.norm ?_
  obtain ⟨yl3, e4, hF⟩ := bindS hF
  refine T.joinD (ι := Int × (Unit)) (fun p => yl3 = .inl p.1) (Γ' := fun p => E [(0, (Y22.sv x0))]) (H' := fun p => HL []) (fun p hy => ?_) (fun hk => ?_)
  · obtain ⟨o3, _⟩ := p
    cases hy
    refine T.norm ?_
    refine T.seq ?_
    refine T.seq ?_
    refine T.region mix 3 [15, 16, 17] [0, 1, 3] [(sp (Y22.sv x0)), (sp ((TI .i64).sv (x0.length : Int))), (sp (TB.sv (decide (60 < (x0.length : Int)))))] (by kernel_rfl) (AOK.cons (fun ρ a w hs hz hΓ hp => gp (d_move (hΓ 0 rfl))) (AOK.cons (fun ρ a w hs hz hΓ hp => gp (d_lenR u30 (hp 0 _ rfl rfl).1)) (AOK.cons (fun ρ a w hs hz hΓ hp => gp (d_gtr (hp 1 _ rfl rfl).1 (vI rfl))) AOK.nil rfl) rfl) rfl) (fun vs5 => ?_)
    refine T.nil ?_
    refine T.norm ?_
    refine T.cond (b := (decide (60 < (x0.length : Int)))) (fun _ _ h => h) (fun hc => ?_) (fun hc => ?_)
    · replace hF := iteT hF hc
      refine T.seq ?_
      refine T.region mix 1 [2] [0] [(sp ((TI .i64).sv 3))] (by kernel_rfl) (AOK.cons (fun ρ a w hs hz hΓ hp => gp (d_assign (vI rfl))) AOK.nil rfl) (fun vs6 => ?_)
      refine T.nil ?_
      refine T.norm ?_
      refine T.ret ?_
      obtain rfl := Option.some.inj hF
      refine T.fin0 fun ρ a w st => ?_
      exact ⟨_, results_one rfl rfl, (st.env 2)⟩
    · replace hF := iteF hF hc
      refine T.skip ?_
      refine T.norm ?_
      refine T.seq ?_
      refine T.region mix 1 [2] [0] [(sp ((TI .i64).sv 0))] (by kernel_rfl) (AOK.cons (fun ρ a w hs hz hΓ hp => gp (d_assign (vI rfl))) AOK.nil rfl) (fun vs7 => ?_)
      refine T.nil ?_
      refine T.norm ?_
      refine T.ret ?_
      obtain rfl := Option.some.inj hF
      refine T.fin0 fun ρ a w st => ?_
      exact ⟨_, results_one rfl rfl, (st.env 2)⟩
  · skip
    refine T.block ?_
    refine T.loop (f := spec_l06Strokes_l1 x0) (σ := Int) (Z := Unit) (fun s z => E [(0, (Y22.sv x0)), (3, ((TI .i64).sv s))]) (fun s z => HL []) e4 () (fun φ h => T.toh h ⟨fun _ _ h => h, fun _ _ h => h, trivial⟩ trivial) (fun k s z uu3 hu3 hn3 => ?_)
    obtain ⟨s3, rfl⟩ : ∃ q, q = s := ⟨_, rfl⟩
    dsimp only [spec_l06Strokes_l1] at hu3
    refine T.seq ?_
    refine T.seq ?_
    refine T.region mix 4 [4, 5, 6, 7] [0, 0, 2, 7] [(sp ((TI .i64).sv s3)), (sp (Y22.sv x0)), (sp ((TI .i64).sv (x0.length : Int))), (sp (TB.sv (decide (s3 < (x0.length : Int)))))] (by kernel_rfl) (AOK.cons (fun ρ a w hs hz hΓ hp => gp (d_move (hΓ 3 rfl))) (AOK.cons (fun ρ a w hs hz hΓ hp => gp (d_move (hΓ 0 rfl))) (AOK.cons (fun ρ a w hs hz hΓ hp => gp (d_lenR u30 (hp 1 _ rfl rfl).1)) (AOK.cons (fun ρ a w hs hz hΓ hp => gp (d_lss (hp 0 _ rfl rfl).1 (hp 2 _ rfl rfl).1)) AOK.nil rfl) rfl) rfl) rfl) (fun vs8 => ?_)
    refine T.nil ?_
    refine T.norm ?_
    refine T.cond (b := (decide (s3 < (x0.length : Int)))) (fun _ _ h => h) (fun hc => ?_) (fun hc => ?_)
    · replace hu3 := iteT hu3 hc
      refine T.skip ?_
      refine T.norm ?_
      refine T.seq ?_
      refine T.block ?_
      refine T.seq ?_
      obtain ⟨x12, e10, hu3⟩ := bindS hu3
      obtain ⟨x13, e11, hu3⟩ := bindS hu3
      refine T.region mix 5 [10, 11, 12, 13, 14] [0, 0, 3, 7, 15] [(sp (Y22.sv x0)), (sp ((TI .i64).sv s3)), (sp ((TP Y104).sv x12)), (sp (TB.sv x13)), (sp (TB.sv (!x13)))] (by kernel_rfl) (AOK.cons (fun ρ a w hs hz hΓ hp => gp (d_move (hΓ 0 rfl))) (AOK.cons (fun ρ a w hs hz hΓ hp => gp (d_move (hΓ 3 rfl))) (AOK.cons (fun ρ a w hs hz hΓ hp => gp (d_idxR u30 y84 (hp 0 _ rfl rfl).1 (hp 1 _ rfl rfl).1 e10)) (AOK.cons (fun ρ a w hs hz hΓ hp => gp (d_call fn109 hs.le mapA1 (c109 w _ hs.le e11 ((hp 2 _ rfl rfl).1)))) (AOK.cons (fun ρ a w hs hz hΓ hp => gp (d_not (hp 3 _ rfl rfl).1)) AOK.nil rfl) rfl) rfl) rfl) rfl) (fun vs9 => ?_)
      refine T.nil ?_
      refine T.norm ?_
      refine T.cond (b := (!x13)) (fun _ _ h => h) (fun hc => ?_) (fun hc => ?_)
      · replace hu3 := iteT hu3 hc
        refine T.seq ?_
        refine T.region mix 1 [2] [0] [(sp ((TI .i64).sv 1))] (by kernel_rfl) (AOK.cons (fun ρ a w hs hz hΓ hp => gp (d_assign (vI rfl))) AOK.nil rfl) (fun vs12 => ?_)
        refine T.nil ?_
        refine T.norm ?_
        refine T.ret ?_
        obtain rfl := Option.some.inj hu3
        cases hn3
        obtain rfl := Option.some.inj hF
        refine T.fin0 fun ρ a w st => ?_
        exact ⟨_, results_one rfl rfl, (st.env 2)⟩
      · replace hu3 := iteF hu3 hc
        refine T.skip ?_
        refine T.fallX ?_
        refine T.norm ?_
        refine T.region mix 3 [8, 9, 3] [0, 1, 3] [(sp ((TI .i64).sv s3)), (sp ((TI .i64).sv (IntKind.i64.wrap (s3 + 1)))), (sp ((TI .i64).sv (IntKind.i64.wrap (s3 + 1))))] (by kernel_rfl) (AOK.cons (fun ρ a w hs hz hΓ hp => gp (d_move (hΓ 3 rfl))) (AOK.cons (fun ρ a w hs hz hΓ hp => gp (d_add (hp 0 _ rfl rfl).1 (vI rfl))) (AOK.cons (fun ρ a w hs hz hΓ hp => gp (d_assign (hp 1 _ rfl rfl).1)) AOK.nil rfl) rfl) rfl) (fun vs13 => ?_)
        refine T.nil ?_
        obtain rfl := Option.some.inj hu3
        exact T.again hn3 () (fun φ h => T.toh h ⟨fun _ _ h => h, fun _ _ h => h, trivial⟩ trivial)
    · replace hu3 := iteF hu3 hc
      refine T.exit ?_
      obtain rfl := Option.some.inj hu3
      repeat (first | refine T.passX ?_ | refine T.inX (by decide) ?_)
      refine T.hereX ?_
      exact T.toh (hk (s3, ()) (Eq.symm hn3)) ⟨fun _ _ h => h, trivial⟩ trivial

theorem c111 (w : World) (v0 : Value) {σ : Heap} (hσ : σ.le (snap w)) {x0 : Int} {r : Int} (hF : spec_l06Far x0 = some r) (h0 : (TI .i64).val σ v0 x0) :
    Calls Try.prog 111 #[v0] w (Ret [] w σ ((TI .i64).sv r) []) := by
  unfold spec_l06Far at hF
  refine start (args := [v0]) Try.func111 rfl 8 rfl [] [(0, ((TI .i64).sv x0))] [] (sat_start _ hσ) rfl (args1 rfl h0 (args0)) ?_
  refine T.seq ?_
  refine T.region mix 1 [2] [0] [(sp ((TI .i64).sv 0))] (by kernel_rfl) (AOK.cons (fun ρ a w hs hz hΓ hp => gp (d_assign (vI rfl))) AOK.nil rfl) (fun vs1 => ?_)
  refine T.nil ?_
  refine T.norm ?_
  refine T.seq ?_
  refine T.seq ?_
  refine T.region mix 2 [3, 4] [0, 1] [(sp ((TI .i64).sv x0)), (sp (TB.sv (decide (x0 < 0))))] (by kernel_rfl) (AOK.cons (fun ρ a w hs hz hΓ hp => gp (d_move (hΓ 0 rfl))) (AOK.cons (fun ρ a w hs hz hΓ hp => gp (d_lss (hp 0 _ rfl rfl).1 (vI rfl))) AOK.nil rfl) rfl) (fun vs2 => ?_)
  refine T.nil ?_
  refine T.norm ?_
  refine T.cond (b := (decide (x0 < 0))) (fun _ _ h => h) (fun hc => ?_) (fun hc => ?_)
  · replace hF := iteT hF hc
    refine T.seq ?_
    refine T.region mix 3 [5, 6, 2] [0, 1, 3] [(sp ((TI .i64).sv x0)), (sp ((TI .i64).sv (IntKind.i64.wrap (0 - x0)))), (sp ((TI .i64).sv (IntKind.i64.wrap (0 - x0))))] (by kernel_rfl) (AOK.cons (fun ρ a w hs hz hΓ hp => gp (d_move (hΓ 0 rfl))) (AOK.cons (fun ρ a w hs hz hΓ hp => gp (d_neg (hp 0 _ rfl rfl).1)) (AOK.cons (fun ρ a w hs hz hΓ hp => gp (d_assign (hp 1 _ rfl rfl).1)) AOK.nil rfl) rfl) rfl) (fun vs3 => ?_)
    refine T.nil ?_
    refine T.norm ?_
    refine T.ret ?_
    obtain rfl := Option.some.inj hF
    refine T.fin0 fun ρ a w st => ?_
    exact ⟨_, results_one rfl rfl, (st.env 2)⟩
  · replace hF := iteF hF hc
    refine T.skip ?_
    refine T.norm ?_
    refine T.seq ?_
    refine T.region mix 2 [7, 2] [0, 1] [(sp ((TI .i64).sv x0)), (sp ((TI .i64).sv x0))] (by kernel_rfl) (AOK.cons (fun ρ a w hs hz hΓ hp => gp (d_move (hΓ 0 rfl))) (AOK.cons (fun ρ a w hs hz hΓ hp => gp (d_assign (hp 0 _ rfl rfl).1)) AOK.nil rfl) rfl) (fun vs4 => ?_)
    refine T.nil ?_
    refine T.norm ?_
    refine T.ret ?_
    obtain rfl := Option.some.inj hF
    refine T.fin0 fun ρ a w st => ?_
    exact ⟨_, results_one rfl rfl, (st.env 2)⟩

theorem c110 (w : World) (v0 v1 : Value) {σ : Heap} (hσ : σ.le (snap w)) {x0 : Int} {x1 : Int} {r : Int} (hF : spec_l00Max x0 x1 = some r) (h0 : (TI .i64).val σ v0 x0) (h1 : (TI .i64).val σ v1 x1) :
    Calls Try.prog 110 #[v0, v1] w (Ret [] w σ ((TI .i64).sv r) []) := by
  unfold spec_l00Max at hF
  refine start (args := [v0, v1]) Try.func110 rfl 10 rfl [] [(0, ((TI .i64).sv x0)), (1, ((TI .i64).sv x1))] [] (sat_start _ hσ) rfl (args1 rfl h0 (args1 rfl h1 (args0))) ?_
  refine T.seq ?_
  refine T.region mix 1 [4] [0] [(sp ((TI .i64).sv 0))] (by kernel_rfl) (AOK.cons (fun ρ a w hs hz hΓ hp => gp (d_assign (vI rfl))) AOK.nil rfl) (fun vs1 => ?_)
  refine T.nil ?_
  refine T.norm ?_
  refine T.seq ?_
  refine T.seq ?_
  refine T.region mix 3 [5, 6, 7] [0, 0, 3] [(sp ((TI .i64).sv x0)), (sp ((TI .i64).sv x1)), (sp (TB.sv (decide (x1 < x0))))] (by kernel_rfl) (AOK.cons (fun ρ a w hs hz hΓ hp => gp (d_move (hΓ 0 rfl))) (AOK.cons (fun ρ a w hs hz hΓ hp => gp (d_move (hΓ 1 rfl))) (AOK.cons (fun ρ a w hs hz hΓ hp => gp (d_gtr (hp 0 _ rfl rfl).1 (hp 1 _ rfl rfl).1)) AOK.nil rfl) rfl) rfl) (fun vs2 => ?_)
  refine T.nil ?_
  refine T.norm ?_
  refine T.cond (b := (decide (x1 < x0))) (fun _ _ h => h) (fun hc => ?_) (fun hc => ?_)
  · replace hF := iteT hF hc
    refine T.seq ?_
    refine T.region mix 2 [8, 4] [0, 1] [(sp ((TI .i64).sv x0)), (sp ((TI .i64).sv x0))] (by kernel_rfl) (AOK.cons (fun ρ a w hs hz hΓ hp => gp (d_move (hΓ 0 rfl))) (AOK.cons (fun ρ a w hs hz hΓ hp => gp (d_assign (hp 0 _ rfl rfl).1)) AOK.nil rfl) rfl) (fun vs3 => ?_)
    refine T.nil ?_
    refine T.norm ?_
    refine T.ret ?_
    obtain rfl := Option.some.inj hF
    refine T.fin0 fun ρ a w st => ?_
    exact ⟨_, results_one rfl rfl, (st.env 4)⟩
  · replace hF := iteF hF hc
    refine T.skip ?_
    refine T.norm ?_
    refine T.seq ?_
    refine T.region mix 2 [9, 4] [0, 1] [(sp ((TI .i64).sv x1)), (sp ((TI .i64).sv x1))] (by kernel_rfl) (AOK.cons (fun ρ a w hs hz hΓ hp => gp (d_move (hΓ 1 rfl))) (AOK.cons (fun ρ a w hs hz hΓ hp => gp (d_assign (hp 0 _ rfl rfl).1)) AOK.nil rfl) rfl) (fun vs4 => ?_)
    refine T.nil ?_
    refine T.norm ?_
    refine T.ret ?_
    obtain rfl := Option.some.inj hF
    refine T.fin0 fun ρ a w st => ?_
    exact ⟨_, results_one rfl rfl, (st.env 4)⟩

theorem c59 (w : World) (v0 v1 : Value) {σ : Heap} (hσ : σ.le (snap w)) {x0 : (List Int)} {x1 : (List Int)} {r : Int} (hF : spec_l06Distance x0 x1 = some r) (h0 : Y24.val σ v0 x0) (h1 : Y24.val σ v1 x1) :
    Calls Try.prog 59 #[v0, v1] w (Ret [] w σ ((TI .i64).sv r) []) := by
  unfold spec_l06Distance at hF
  refine start (args := [v0, v1]) Try.func59 rfl 22 rfl [] [(0, (Y24.sv x0)), (1, (Y24.sv x1))] [] (sat_start _ hσ) rfl (args1 rfl h0 (args1 rfl h1 (args0))) ?_
  refine T.seq ?_
  refine T.region mix 3 [2, 3, 4] [0, 0, 0] [(sp ((TP Y24).sv x0)), (sp ((TP Y24).sv x1)), (sp ((TI .i64).sv 0))] (by kernel_rfl) (AOK.cons (fun ρ a w hs hz hΓ hp => gp (d_box hs.le (hΓ 0 rfl))) (AOK.cons (fun ρ a w hs hz hΓ hp => gp (d_box hs.le (hΓ 1 rfl))) (AOK.cons (fun ρ a w hs hz hΓ hp => gp (d_assign (vI rfl))) AOK.nil rfl) rfl) rfl) (fun vs1 => ?_)
  refine T.nil ?_
  refine T.norm ?_
  refine T.seq ?_
  obtain ⟨x12, e3, hF⟩ := bindS hF
  obtain ⟨x20, e4, hF⟩ := bindS hF
  obtain ⟨x21, e5, hF⟩ := bindS hF
  refine T.region mix 18 [5, 6, 7, 8, 9, 10, 11, 12, 13, 14, 15, 16, 17, 18, 19, 20, 21, 4] [0, 1, 3, 0, 8, 24, 63, 127, 0, 256, 768, 0, 2048, 6144, 16128, 32767, 65535, 131071] [(sp ((TP (TI .i16)).sv (nth x0 0))), (sp ((TI .i16).sv (nth x0 0))), (sp ((TI .i64).sv (nth x0 0))), (sp ((TP (TI .i16)).sv (nth x1 0))), (sp ((TI .i16).sv (nth x1 0))), (sp ((TI .i64).sv (nth x1 0))), (sp ((TI .i64).sv (IntKind.i64.wrap ((nth x0 0) - (nth x1 0))))), (sp ((TI .i64).sv x12)), (sp ((TP (TI .i16)).sv (nth x0 1))), (sp ((TI .i16).sv (nth x0 1))), (sp ((TI .i64).sv (nth x0 1))), (sp ((TP (TI .i16)).sv (nth x1 1))), (sp ((TI .i16).sv (nth x1 1))), (sp ((TI .i64).sv (nth x1 1))), (sp ((TI .i64).sv (IntKind.i64.wrap ((nth x0 1) - (nth x1 1))))), (sp ((TI .i64).sv x20)), (sp ((TI .i64).sv x21)), (sp ((TI .i64).sv x21))] (by kernel_rfl) (AOK.cons (fun ρ a w hs hz hΓ hp => gp (d_idxPc .i64 0 u32 y23 (hΓ 2 rfl) rfl)) (AOK.cons (fun ρ a w hs hz hΓ hp => gp (d_load y23 hs.le (hp 0 _ rfl rfl).1)) (AOK.cons (fun ρ a w hs hz hΓ hp => gp (d_widen u23 u2 rfl (hp 1 _ rfl rfl).1)) (AOK.cons (fun ρ a w hs hz hΓ hp => gp (d_idxPc .i64 0 u32 y23 (hΓ 3 rfl) rfl)) (AOK.cons (fun ρ a w hs hz hΓ hp => gp (d_load y23 hs.le (hp 3 _ rfl rfl).1)) (AOK.cons (fun ρ a w hs hz hΓ hp => gp (d_widen u23 u2 rfl (hp 4 _ rfl rfl).1)) (AOK.cons (fun ρ a w hs hz hΓ hp => gp (d_sub (hp 2 _ rfl rfl).1 (hp 5 _ rfl rfl).1)) (AOK.cons (fun ρ a w hs hz hΓ hp => gp (d_call fn111 hs.le mapA1 (c111 w _ hs.le e3 ((hp 6 _ rfl rfl).1)))) (AOK.cons (fun ρ a w hs hz hΓ hp => gp (d_idxPc .i64 1 u32 y23 (hΓ 2 rfl) rfl)) (AOK.cons (fun ρ a w hs hz hΓ hp => gp (d_load y23 hs.le (hp 8 _ rfl rfl).1)) (AOK.cons (fun ρ a w hs hz hΓ hp => gp (d_widen u23 u2 rfl (hp 9 _ rfl rfl).1)) (AOK.cons (fun ρ a w hs hz hΓ hp => gp (d_idxPc .i64 1 u32 y23 (hΓ 3 rfl) rfl)) (AOK.cons (fun ρ a w hs hz hΓ hp => gp (d_load y23 hs.le (hp 11 _ rfl rfl).1)) (AOK.cons (fun ρ a w hs hz hΓ hp => gp (d_widen u23 u2 rfl (hp 12 _ rfl rfl).1)) (AOK.cons (fun ρ a w hs hz hΓ hp => gp (d_sub (hp 10 _ rfl rfl).1 (hp 13 _ rfl rfl).1)) (AOK.cons (fun ρ a w hs hz hΓ hp => gp (d_call fn111 hs.le mapA1 (c111 w _ hs.le e4 ((hp 14 _ rfl rfl).1)))) (AOK.cons (fun ρ a w hs hz hΓ hp => gp (d_call fn110 hs.le mapA2 (c110 w _ _ hs.le e5 ((hp 7 _ rfl rfl).1) ((hp 15 _ rfl rfl).1)))) (AOK.cons (fun ρ a w hs hz hΓ hp => gp (d_assign (hp 16 _ rfl rfl).1)) AOK.nil rfl) rfl) rfl) rfl) rfl) rfl) rfl) rfl) rfl) rfl) rfl) rfl) rfl) rfl) rfl) rfl) rfl) rfl) (fun vs2 => ?_)
  refine T.nil ?_
  refine T.norm ?_
  refine T.ret ?_
  obtain rfl := Option.some.inj hF
  refine T.fin0 fun ρ a w st => ?_
  exact ⟨_, results_one rfl rfl, (st.env 4)⟩

theorem c60 (w : World) (v0 v1 : Value) {σ : Heap} (hσ : σ.le (snap w)) {x0 : Int} {x1 : Int} {r : Int} (hF : spec_l00Min x0 x1 = some r) (h0 : (TI .i64).val σ v0 x0) (h1 : (TI .i64).val σ v1 x1) :
    Calls Try.prog 60 #[v0, v1] w (Ret [] w σ ((TI .i64).sv r) []) := by
  unfold spec_l00Min at hF
  refine start (args := [v0, v1]) Try.func60 rfl 10 rfl [] [(0, ((TI .i64).sv x0)), (1, ((TI .i64).sv x1))] [] (sat_start _ hσ) rfl (args1 rfl h0 (args1 rfl h1 (args0))) ?_
  refine T.seq ?_
  refine T.region mix 1 [4] [0] [(sp ((TI .i64).sv 0))] (by kernel_rfl) (AOK.cons (fun ρ a w hs hz hΓ hp => gp (d_assign (vI rfl))) AOK.nil rfl) (fun vs1 => ?_)
  refine T.nil ?_
  refine T.norm ?_
  refine T.seq ?_
  refine T.seq ?_
  refine T.region mix 3 [5, 6, 7] [0, 0, 3] [(sp ((TI .i64).sv x0)), (sp ((TI .i64).sv x1)), (sp (TB.sv (decide (x0 < x1))))] (by kernel_rfl) (AOK.cons (fun ρ a w hs hz hΓ hp => gp (d_move (hΓ 0 rfl))) (AOK.cons (fun ρ a w hs hz hΓ hp => gp (d_move (hΓ 1 rfl))) (AOK.cons (fun ρ a w hs hz hΓ hp => gp (d_lss (hp 0 _ rfl rfl).1 (hp 1 _ rfl rfl).1)) AOK.nil rfl) rfl) rfl) (fun vs2 => ?_)
  refine T.nil ?_
  refine T.norm ?_
  refine T.cond (b := (decide (x0 < x1))) (fun _ _ h => h) (fun hc => ?_) (fun hc => ?_)
  · replace hF := iteT hF hc
    refine T.seq ?_
    refine T.region mix 2 [8, 4] [0, 1] [(sp ((TI .i64).sv x0)), (sp ((TI .i64).sv x0))] (by kernel_rfl) (AOK.cons (fun ρ a w hs hz hΓ hp => gp (d_move (hΓ 0 rfl))) (AOK.cons (fun ρ a w hs hz hΓ hp => gp (d_assign (hp 0 _ rfl rfl).1)) AOK.nil rfl) rfl) (fun vs3 => ?_)
    refine T.nil ?_
    refine T.norm ?_
    refine T.ret ?_
    obtain rfl := Option.some.inj hF
    refine T.fin0 fun ρ a w st => ?_
    exact ⟨_, results_one rfl rfl, (st.env 4)⟩
  · replace hF := iteF hF hc
    refine T.skip ?_
    refine T.norm ?_
    refine T.seq ?_
    refine T.region mix 2 [9, 4] [0, 1] [(sp ((TI .i64).sv x1)), (sp ((TI .i64).sv x1))] (by kernel_rfl) (AOK.cons (fun ρ a w hs hz hΓ hp => gp (d_move (hΓ 1 rfl))) (AOK.cons (fun ρ a w hs hz hΓ hp => gp (d_assign (hp 0 _ rfl rfl).1)) AOK.nil rfl) rfl) (fun vs4 => ?_)
    refine T.nil ?_
    refine T.norm ?_
    refine T.ret ?_
    obtain rfl := Option.some.inj hF
    refine T.fin0 fun ρ a w st => ?_
    exact ⟨_, results_one rfl rfl, (st.env 4)⟩

theorem c61 (w : World) (v0 v1 : Value) {σ : Heap} (hσ : σ.le (snap w)) {x0 : ((List Int) × (List Int) × Int)} {x1 : Bool} {r : ((List Int) × (List Int))} (hF : spec_l06Ends x0 x1 = some r) (h0 : (TP Y104).val σ v0 x0) (h1 : TB.val σ v1 x1) :
    Calls Try.prog 61 #[v0, v1] w (Ret [] w σ (SRel.tup2 (Y24.sv r.1) (Y24.sv r.2)) []) := by
  unfold spec_l06Ends at hF
  refine start (args := [v0, v1]) Try.func61 rfl 23 rfl [] [(0, ((TP Y104).sv x0)), (1, (TB.sv x1))] [] (sat_start _ hσ) rfl (args1 rfl h0 (args1 rfl h1 (args0))) ?_
  refine T.seq ?_
  refine T.region mix 2 [4, 5] [0, 0] [(sO SRel.any [(1, (boxR 32 Y24 (List.replicate 2 0)))]), (sO SRel.any [(2, (boxR 32 Y24 (List.replicate 2 0)))])] (by kernel_rfl) (AOK.cons (fun ρ a w hs hz hΓ hp => g_alloc hs.le z32 zc32) (AOK.cons (fun ρ a w hs hz hΓ hp => g_alloc hs.le z32 zc32) AOK.nil rfl) rfl) (fun vs1 => ?_)
  refine T.nil ?_
  refine T.norm ?_
  refine T.seq ?_
  refine T.seq ?_
  refine T.region mix 1 [6] [0] [(sp (TB.sv x1))] (by kernel_rfl) (AOK.cons (fun ρ a w hs hz hΓ hp => gp (d_move (hΓ 1 rfl))) AOK.nil rfl) (fun vs2 => ?_)
  refine T.nil ?_
  refine T.norm ?_
  refine T.cond (b := x1) (fun _ _ h => h) (fun hc => ?_) (fun hc => ?_)
  · replace hF := iteT hF hc
    refine T.seq ?_
    refine T.region mix 10 [7, 8, 9, 10, 11, 12, 13, 14, 31, 32] [0, 1, 3, 7, 0, 16, 48, 112, 15, 511] [(sp ((TP Y104).sv x0)), (sp ((TP Y104).sv x0)), (sp ((TP Y24).sv x0.2.1)), (sp (Y24.sv x0.2.1)), (sp ((TP Y104).sv x0)), (sp ((TP Y104).sv x0)), (sp ((TP Y24).sv x0.1)), (sp (Y24.sv x0.1)), (sT 1 (fun _ => (boxR 32 Y24 x0.2.1 (vs1 0)))), (sT 2 (fun _ => (boxR 32 Y24 x0.1 (vs1 1))))] (by kernel_rfl) (AOK.cons (fun ρ a w hs hz hΓ hp => gp (d_move (hΓ 0 rfl))) (AOK.cons (fun ρ a w hs hz hΓ hp => gp (d_nilCheckP (hp 0 _ rfl rfl).1)) (AOK.cons (fun ρ a w hs hz hΓ hp => gp (d_fieldP fa84_1 (hp 1 _ rfl rfl).1 (At.fst (At.snd (At.refl _ _))))) (AOK.cons (fun ρ a w hs hz hΓ hp => gp (d_load y32 hs.le (hp 2 _ rfl rfl).1)) (AOK.cons (fun ρ a w hs hz hΓ hp => gp (d_move (hΓ 0 rfl))) (AOK.cons (fun ρ a w hs hz hΓ hp => gp (d_nilCheckP (hp 4 _ rfl rfl).1)) (AOK.cons (fun ρ a w hs hz hΓ hp => gp (d_fieldP fa84_0 (hp 5 _ rfl rfl).1 (At.fst (At.refl _ _)))) (AOK.cons (fun ρ a w hs hz hΓ hp => gp (d_load y32 hs.le (hp 6 _ rfl rfl).1)) (AOK.consT (fun ρ a w hs hz hΓ hp => gt_store hs 1 y32 rfl (.inl ⟨(hΓ 4 rfl).1, rfl⟩) ((hp 3 _ rfl rfl).1) (At.refl Y24 (List.replicate 2 0)) rfl rfl) (AOK.consT (fun ρ a w hs hz hΓ hp => gt_store hs 2 y32 rfl (.inl ⟨(hΓ 5 rfl).1, rfl⟩) ((hp 7 _ rfl rfl).1) (At.refl Y24 (List.replicate 2 0)) rfl rfl) AOK.nil rfl) rfl) rfl) rfl) rfl) rfl) rfl) rfl) rfl) rfl) (fun vs3 => ?_)
    refine T.nil ?_
    refine T.norm ?_
    refine T.ret ?_
    obtain rfl := Option.some.inj hF
    refine T.fin0 fun ρ a w st => ?_
    obtain ⟨q0, hr0, hv0⟩ := rv_cell y32 st.sat 1 rfl (st.env 4).1
    obtain ⟨q1, hr1, hv1⟩ := rv_cell y32 st.sat 2 rfl (st.env 5).1
    exact ⟨_, results_two rfl hr0 hr1, ⟨_, _, rfl, hv0, hv1⟩⟩
  · replace hF := iteF hF hc
    refine T.skip ?_
    refine T.norm ?_
    refine T.seq ?_
    refine T.region mix 10 [15, 16, 17, 18, 19, 20, 21, 22, 31, 32] [0, 1, 3, 7, 0, 16, 48, 112, 15, 511] [(sp ((TP Y104).sv x0)), (sp ((TP Y104).sv x0)), (sp ((TP Y24).sv x0.1)), (sp (Y24.sv x0.1)), (sp ((TP Y104).sv x0)), (sp ((TP Y104).sv x0)), (sp ((TP Y24).sv x0.2.1)), (sp (Y24.sv x0.2.1)), (sT 1 (fun _ => (boxR 32 Y24 x0.1 (vs1 0)))), (sT 2 (fun _ => (boxR 32 Y24 x0.2.1 (vs1 1))))] (by kernel_rfl) (AOK.cons (fun ρ a w hs hz hΓ hp => gp (d_move (hΓ 0 rfl))) (AOK.cons (fun ρ a w hs hz hΓ hp => gp (d_nilCheckP (hp 0 _ rfl rfl).1)) (AOK.cons (fun ρ a w hs hz hΓ hp => gp (d_fieldP fa84_0 (hp 1 _ rfl rfl).1 (At.fst (At.refl _ _)))) (AOK.cons (fun ρ a w hs hz hΓ hp => gp (d_load y32 hs.le (hp 2 _ rfl rfl).1)) (AOK.cons (fun ρ a w hs hz hΓ hp => gp (d_move (hΓ 0 rfl))) (AOK.cons (fun ρ a w hs hz hΓ hp => gp (d_nilCheckP (hp 4 _ rfl rfl).1)) (AOK.cons (fun ρ a w hs hz hΓ hp => gp (d_fieldP fa84_1 (hp 5 _ rfl rfl).1 (At.fst (At.snd (At.refl _ _))))) (AOK.cons (fun ρ a w hs hz hΓ hp => gp (d_load y32 hs.le (hp 6 _ rfl rfl).1)) (AOK.consT (fun ρ a w hs hz hΓ hp => gt_store hs 1 y32 rfl (.inl ⟨(hΓ 4 rfl).1, rfl⟩) ((hp 3 _ rfl rfl).1) (At.refl Y24 (List.replicate 2 0)) rfl rfl) (AOK.consT (fun ρ a w hs hz hΓ hp => gt_store hs 2 y32 rfl (.inl ⟨(hΓ 5 rfl).1, rfl⟩) ((hp 7 _ rfl rfl).1) (At.refl Y24 (List.replicate 2 0)) rfl rfl) AOK.nil rfl) rfl) rfl) rfl) rfl) rfl) rfl) rfl) rfl) rfl) (fun vs4 => ?_)
    refine T.nil ?_
    refine T.norm ?_
    refine T.ret ?_
    obtain rfl := Option.some.inj hF
    refine T.fin0 fun ρ a w st => ?_
    obtain ⟨q0, hr0, hv0⟩ := rv_cell y32 st.sat 1 rfl (st.env 4).1
    obtain ⟨q1, hr1, hv1⟩ := rv_cell y32 st.sat 2 rfl (st.env 5).1
    exact ⟨_, results_two rfl hr0 hr1, ⟨_, _, rfl, hv0, hv1⟩⟩

theorem c11 (w : World) (v0 v1 : Value) {σ : Heap} (hσ : σ.le (snap w)) {x0 : (List ((List Int) × (List Int) × Int))} {x1 : (List Int)} {r : ((List Int) × (List Bool) × Int)} (hF : spec_OrderStrokes x0 x1 = some r) (h0 : Y22.val σ v0 x0) (h1 : Y24.val σ v1 x1) :
    Calls Try.prog 11 #[v0, v1] w (Ret [] w σ (SRel.tup3 SRel.any SRel.any ((TI .i64).sv r.2.2)) [fun v => slR 2 (TI .i64) r.1 (comp 0 v), fun v => slR 4 TB r.2.1 (comp 1 v)]) := by
  unfold spec_OrderStrokes at hF
  refine start (args := [v0, v1]) Try.func11 rfl 102 rfl [] [(0, (Y22.sv x0)), (1, (Y24.sv x1))] [] (sat_start _ hσ) rfl (args1 rfl h0 (args1 rfl h1 (args0))) ?_
  refine T.seq ?_
  refine T.region mix 4 [3, 4, 5, 6] [0, 0, 2, 6] [(sp ((TP Y24).sv x1)), (sO SRel.any [(1, (slR 2 (TI .i64) []))]), (sO SRel.any [(2, (slR 4 TB []))]), (sp ((TI .i64).sv 0))] (by kernel_rfl) (AOK.cons (fun ρ a w hs hz hΓ hp => gp (d_box hs.le (hΓ 1 rfl))) (AOK.cons (fun ρ a w hs hz hΓ hp => g_nilSl) (AOK.cons (fun ρ a w hs hz hΓ hp => g_nilSl) (AOK.cons (fun ρ a w hs hz hΓ hp => gp (d_assign (vI rfl))) AOK.nil rfl) rfl) rfl) rfl) (fun vs1 => ?_)
  refine T.nil ?_
  refine T.norm ?_
  refine T.seq ?_
  obtain ⟨x21, e3, hF⟩ := bindS hF
  refine T.region mix 3 [20, 21, 7] [0, 1, 3] [(sp (Y22.sv x0)), (sp ((TI .i64).sv x21)), (sp ((TI .i64).sv x21))] (by kernel_rfl) (AOK.cons (fun ρ a w hs hz hΓ hp => gp (d_move (hΓ 0 rfl))) (AOK.cons (fun ρ a w hs hz hΓ hp => gp (d_call fn57 hs.le mapA1 (c57 w _ hs.le e3 ((hp 0 _ rfl rfl).1)))) (AOK.cons (fun ρ a w hs hz hΓ hp => gp (d_assign (hp 1 _ rfl rfl).1)) AOK.nil rfl) rfl) rfl) (fun vs2 => ?_)
  refine T.nil ?_
  refine T.norm ?_
  refine T.seq ?_
  refine T.seq ?_
  obtain ⟨x23, e5, hF⟩ := bindS hF
  refine T.region mix 3 [22, 23, 24] [0, 1, 3] [(sp (Y24.sv x1)), (sp (TB.sv x23)), (sp (TB.sv (!x23)))] (by kernel_rfl) (AOK.cons (fun ρ a w hs hz hΓ hp => gp (d_load y32 hs.le (hΓ 3 rfl))) (AOK.cons (fun ρ a w hs hz hΓ hp => gp (d_call fn58 hs.le mapA1 (c58 w _ hs.le e5 ((hp 0 _ rfl rfl).1)))) (AOK.cons (fun ρ a w hs hz hΓ hp => gp (d_not (hp 1 _ rfl rfl).1)) AOK.nil rfl) rfl) rfl) (fun vs4 => ?_)
  refine T.nil ?_
  refine T.norm ?_
  obtain ⟨y7, e6, hF⟩ := bindS hF
  refine T.joinS (Γ' := fun (z : Unit) => E [(0, (Y22.sv x0)), (3, ((TP Y24).sv x1)), (7, ((TI .i64).sv y7))]) (H' := fun (z : Unit) => HL []) (fun zz => ?_) (fun hk => ?_)
  · skip
    refine T.norm ?_
    refine T.seq ?_
    refine T.seq ?_
    refine T.region mix 2 [25, 26] [0, 1] [(sp ((TI .i64).sv y7)), (sp (TB.sv (decide (y7 ≠ 0))))] (by kernel_rfl) (AOK.cons (fun ρ a w hs hz hΓ hp => gp (d_move (hΓ 7 rfl))) (AOK.cons (fun ρ a w hs hz hΓ hp => gp (d_neq (hp 0 _ rfl rfl).1 (vI rfl))) AOK.nil rfl) rfl) (fun vs7 => ?_)
    refine T.nil ?_
    refine T.norm ?_
    refine T.cond (b := (decide (y7 ≠ 0))) (fun _ _ h => h) (fun hc => ?_) (fun hc => ?_)
    · replace hF := iteT hF hc
      refine T.seq ?_
      refine T.region mix 6 [27, 28, 29, 4, 5, 6] [0, 0, 0, 1, 11, 31] [(sO SRel.any [(3, (slR 2 (TI .i64) ([] : List Int)))]), (sO SRel.any [(4, (slR 4 TB ([] : List Bool)))]), (sp ((TI .i64).sv y7)), (al 0 (id)), (al 1 (id)), (sp ((TI .i64).sv y7))] (by kernel_rfl) (AOK.cons (fun ρ a w hs hz hΓ hp => g_buildSl hs.le u26 y2 z2 (by decide) (by decide) zc2 (Fills.done _)) (AOK.cons (fun ρ a w hs hz hΓ hp => g_buildSl hs.le u27 y4 z4 (by decide) (by decide) zc4 (Fills.done _)) (AOK.cons (fun ρ a w hs hz hΓ hp => gp (d_move (hΓ 7 rfl))) (AOK.cons (fun ρ a w hs hz hΓ hp => al_assign rfl) (AOK.cons (fun ρ a w hs hz hΓ hp => al_assign rfl) (AOK.cons (fun ρ a w hs hz hΓ hp => gp (d_assign (hp 2 _ rfl rfl).1)) AOK.nil rfl) rfl) rfl) rfl) rfl) rfl) (fun vs8 => ?_)
      refine T.nil ?_
      refine T.norm ?_
      refine T.ret ?_
      obtain rfl := Option.some.inj hF
      refine T.fin fun ρ a w st => ?_
      exact ⟨_, results_three rfl rfl rfl rfl, ⟨_, _, _, rfl, trivial, trivial, (st.env 6)⟩, own2 (own_at (id := 3) (st.env 4) rfl) (own_at (id := 4) (st.env 5) rfl), apart2 rfl (own_at (id := 3) (st.env 4) rfl) (own_at (id := 4) (st.env 5) rfl)⟩
    · replace hF := iteF hF hc
      refine T.skip ?_
      refine T.norm ?_
      refine T.seq ?_
      obtain ⟨_u32, e10, hF⟩ := bindS hF
      refine T.region mix 4 [30, 31, 32, 8] [0, 1, 3, 7] [(sp (Y22.sv x0)), (sp ((TI .i64).sv (x0.length : Int))), (sO SRel.any [(5, (slR 4 TB (List.replicate (x0.length : Int).toNat false)))]), (al 2 (id))] (by kernel_rfl) (AOK.cons (fun ρ a w hs hz hΓ hp => gp (d_move (hΓ 0 rfl))) (AOK.cons (fun ρ a w hs hz hΓ hp => gp (d_lenR u30 (hp 0 _ rfl rfl).1)) (AOK.cons (fun ρ a w hs hz hΓ hp => g_makeSl hs.le u27 i4 rfl zc4 (hp 1 _ rfl rfl).1 (hp 1 _ rfl rfl).1 (need_get e10)) (AOK.cons (fun ρ a w hs hz hΓ hp => al_assign rfl) AOK.nil rfl) rfl) rfl) rfl) (fun vs9 => ?_)
      refine T.nil ?_
      refine T.norm ?_
      refine T.seq ?_
      refine T.region mix 2 [33, 9] [0, 1] [(sO SRel.any [(6, (slR 2 (TI .i64) ([] : List Int)))]), (al 0 (id))] (by kernel_rfl) (AOK.cons (fun ρ a w hs hz hΓ hp => g_buildSl hs.le u26 y2 z2 (by decide) (by decide) zc2 (Fills.done _)) (AOK.cons (fun ρ a w hs hz hΓ hp => al_assign rfl) AOK.nil rfl) rfl) (fun vs11 => ?_)
      refine T.nil ?_
      refine T.norm ?_
      refine T.seq ?_
      refine T.region mix 2 [34, 10] [0, 1] [(sO SRel.any [(7, (slR 4 TB ([] : List Bool)))]), (al 0 (id))] (by kernel_rfl) (AOK.cons (fun ρ a w hs hz hΓ hp => g_buildSl hs.le u27 y4 z4 (by decide) (by decide) zc4 (Fills.done _)) (AOK.cons (fun ρ a w hs hz hΓ hp => al_assign rfl) AOK.nil rfl) rfl) (fun vs12 => ?_)
      refine T.nil ?_
      refine T.norm ?_
      refine T.seq ?_
      refine T.region mix 2 [35, 11] [0, 0, 3] [(sp (Y24.sv x1)), (sO SRel.any [(8, (boxR 32 Y24 (List.replicate 2 0)))])] (by kernel_rfl) (AOK.cons (fun ρ a w hs hz hΓ hp => gp (d_load y32 hs.le (hΓ 3 rfl))) (AOK.cons (fun ρ a w hs hz hΓ hp => g_alloc hs.le z32 zc32) AOK.nil rfl) rfl) (fun vs13 => ?_)
      refine T.store 8 y32 rfl (fun ρ a w st => ⟨.inl ⟨(st.env 11).1, rfl⟩, (st.env 35)⟩) (At.refl Y24 (List.replicate 2 0)) ?_
      refine T.nil ?_
      refine T.norm ?_
      refine T.seq ?_
      refine T.seq ?_
      refine T.region mix 1 [12] [0] [(sp ((TI .i64).sv 0))] (by kernel_rfl) (AOK.cons (fun ρ a w hs hz hΓ hp => gp (d_assign (vI rfl))) AOK.nil rfl) (fun vs14 => ?_)
      refine T.nil ?_
      refine T.norm ?_
      obtain ⟨yl15, e16, hF⟩ := bindS hF
      refine T.joinD (ι := (Int × (List Bool) × (List Int) × (List Bool) × (List Int)) × (Value × Value)) (fun p => yl15 = p.1) (Γ' := fun p => E [(9, (SRel.eq p.2.1)), (10, (SRel.eq p.2.2))]) (H' := fun p => HL [(5, (slR 4 TB p.1.2.1 (vs9 2))), (6, (slR 2 (TI .i64) p.1.2.2.1 p.2.1)), (7, (slR 4 TB p.1.2.2.2.1 p.2.2)), (8, (boxR 32 Y24 p.1.2.2.2.2 (vs13 1)))]) (fun p hy => ?_) (fun hk => ?_)
      · obtain ⟨⟨o12, or5, or6, or7, or8⟩, ⟨z6_17, z7_18⟩⟩ := p
        cases hy
        refine T.norm ?_
        refine T.seq ?_
        refine T.region mix 5 [100, 101, 4, 5, 6] [0, 0, 1, 7, 15] [(sp (SRel.eq z6_17)), (sp (SRel.eq z7_18)), (sp (SRel.eq z6_17)), (sp (SRel.eq z7_18)), (sp ((TI .i64).sv 0))] (by kernel_rfl) (AOK.cons (fun ρ a w hs hz hΓ hp => gp (d_move (hΓ 9 rfl))) (AOK.cons (fun ρ a w hs hz hΓ hp => gp (d_move (hΓ 10 rfl))) (AOK.cons (fun ρ a w hs hz hΓ hp => gp (d_assign (hp 0 _ rfl rfl).1)) (AOK.cons (fun ρ a w hs hz hΓ hp => gp (d_assign (hp 1 _ rfl rfl).1)) (AOK.cons (fun ρ a w hs hz hΓ hp => gp (d_assign (vI rfl))) AOK.nil rfl) rfl) rfl) rfl) rfl) (fun vs19 => ?_)
        refine T.nil ?_
        refine T.norm ?_
        refine T.ret ?_
        obtain rfl := Option.some.inj hF
        refine T.fin fun ρ a w st => ?_
        exact ⟨_, results_three rfl rfl rfl rfl, ⟨_, _, _, rfl, trivial, trivial, (st.env 6)⟩, own2 (own_at (id := 6) (st.env 4) rfl) (own_at (id := 7) (st.env 5) rfl), apart2 rfl (own_at (id := 6) (st.env 4) rfl) (own_at (id := 7) (st.env 5) rfl)⟩
      · skip
        refine T.block ?_
        refine T.loop (f := spec_OrderStrokes_l1 x0) (σ := (Int × (List Bool) × (List Int) × (List Bool) × (List Int))) (Z := Value × Value) (fun s z => E [(0, (Y22.sv x0)), (8, (SRel.eq (vs9 2))), (9, (SRel.eq z.1)), (10, (SRel.eq z.2)), (11, (SRel.eq (vs13 1))), (12, ((TI .i64).sv s.1))]) (fun s z => HL [(5, (slR 4 TB s.2.1 (vs9 2))), (6, (slR 2 (TI .i64) s.2.2.1 z.1)), (7, (slR 4 TB s.2.2.2.1 z.2)), (8, (boxR 32 Y24 s.2.2.2.2 (vs13 1)))]) e16 ((vs11 0), (vs12 0)) (fun φ h => T.toh h ⟨fun _ _ h => h, fun _ _ h => h, fun _ _ h => h, fun _ _ h => h, fun _ _ h => h.1, fun _ _ h => h, trivial⟩ ⟨rfl, rfl, rfl, rfl, trivial⟩) (fun k s z uu15 hu15 hn15 => ?_)
        obtain ⟨s12, sr5, sr6, sr7, sr8⟩ := s
        obtain ⟨z6, z7⟩ := z
        dsimp only [spec_OrderStrokes_l1] at hu15
        refine T.seq ?_
        refine T.seq ?_
        refine T.region mix 4 [36, 37, 38, 39] [0, 0, 2, 7] [(sp ((TI .i64).sv s12)), (sp (Y22.sv x0)), (sp ((TI .i64).sv (x0.length : Int))), (sp (TB.sv (decide (s12 < (x0.length : Int)))))] (by kernel_rfl) (AOK.cons (fun ρ a w hs hz hΓ hp => gp (d_move (hΓ 12 rfl))) (AOK.cons (fun ρ a w hs hz hΓ hp => gp (d_move (hΓ 0 rfl))) (AOK.cons (fun ρ a w hs hz hΓ hp => gp (d_lenR u30 (hp 1 _ rfl rfl).1)) (AOK.cons (fun ρ a w hs hz hΓ hp => gp (d_lss (hp 0 _ rfl rfl).1 (hp 2 _ rfl rfl).1)) AOK.nil rfl) rfl) rfl) rfl) (fun vs20 => ?_)
        refine T.nil ?_
        refine T.norm ?_
        refine T.cond (b := (decide (s12 < (x0.length : Int)))) (fun _ _ h => h) (fun hc => ?_) (fun hc => ?_)
        · replace hu15 := iteT hu15 hc
          refine T.skip ?_
          refine T.norm ?_
          refine T.seq ?_
          refine T.block ?_
          refine T.seq ?_
          refine T.region mix 1 [13] [0] [(sp ((TI .i64).sv (-1)))] (by kernel_rfl) (AOK.cons (fun ρ a w hs hz hΓ hp => gp (d_assign (vI rfl))) AOK.nil rfl) (fun vs21 => ?_)
          refine T.nil ?_
          refine T.norm ?_
          refine T.seq ?_
          refine T.region mix 1 [14] [0] [(sp ((TI .i64).sv 0))] (by kernel_rfl) (AOK.cons (fun ρ a w hs hz hΓ hp => gp (d_assign (vI rfl))) AOK.nil rfl) (fun vs22 => ?_)
          refine T.nil ?_
          refine T.norm ?_
          refine T.seq ?_
          refine T.region mix 1 [15] [0] [(sp (TB.sv false))] (by kernel_rfl) (AOK.cons (fun ρ a w hs hz hΓ hp => gp (d_assign (vB _))) AOK.nil rfl) (fun vs23 => ?_)
          refine T.nil ?_
          refine T.norm ?_
          refine T.seq ?_
          refine T.seq ?_
          refine T.region mix 1 [16] [0] [(sp ((TI .i64).sv 0))] (by kernel_rfl) (AOK.cons (fun ρ a w hs hz hΓ hp => gp (d_assign (vI rfl))) AOK.nil rfl) (fun vs24 => ?_)
          refine T.nil ?_
          refine T.norm ?_
          obtain ⟨yl25, e26, hu15⟩ := bindS hu15
          refine T.joinD (ι := (Int × Int × Bool × Int) × (Unit)) (fun p => yl25 = p.1) (Γ' := fun p => E [(0, (Y22.sv x0)), (8, (SRel.eq (vs9 2))), (9, (SRel.eq z6)), (10, (SRel.eq z7)), (11, (SRel.eq (vs13 1))), (12, ((TI .i64).sv s12)), (13, ((TI .i64).sv p.1.1)), (15, (TB.sv p.1.2.2.1))]) (H' := fun p => HL [(5, (slR 4 TB sr5 (vs9 2))), (6, (slR 2 (TI .i64) sr6 z6)), (7, (slR 4 TB sr7 z7)), (8, (boxR 32 Y24 sr8 (vs13 1)))]) (fun p hy => ?_) (fun hk => ?_)
          · obtain ⟨⟨o13, o14, o15, o16⟩, _⟩ := p
            cases hy
            refine T.norm ?_
            refine T.seq ?_
            obtain ⟨x83, e28, hu15⟩ := bindS hu15
            refine T.region mix 3 [81, 82, 83] [0, 0, 3, 7] [(sp (SRel.eq (vs9 2))), (sp ((TI .i64).sv o13)), (sp (SRel.eq (at_ (vs9 2) (o13.toNat * TB.n + 0))))] (by kernel_rfl) (AOK.cons (fun ρ a w hs hz hΓ hp => gp (d_move (hΓ 8 rfl))) (AOK.cons (fun ρ a w hs hz hΓ hp => gp (d_move (hΓ 13 rfl))) (AOK.cons (fun ρ a w hs hz hΓ hp => gp (d_idxS u27 y4 hs 5 rfl (hp 0 _ rfl rfl).1 (hp 1 _ rfl rfl).1 e28)) AOK.nil rfl) rfl) rfl) (fun vs27 => ?_)
            refine T.storeS 5 y4 rfl (idx_get e28).2 (fun ρ a w st => ⟨(st.env 83), (vB _)⟩) (At.refl TB x83) ?_
            refine T.nil ?_
            refine T.norm ?_
            refine T.seq ?_
            refine T.region mix 3 [84, 85, 86] [0, 0, 2, 7, 15] [(sp (SRel.eq z6)), (sp ((TI .i64).sv o13)), (sp (Y26.sv ([o13] : List Int)))] (by kernel_rfl) (AOK.cons (fun ρ a w hs hz hΓ hp => gp (d_move (hΓ 9 rfl))) (AOK.cons (fun ρ a w hs hz hΓ hp => gp (d_move (hΓ 13 rfl))) (AOK.cons (fun ρ a w hs hz hΓ hp => gp (d_buildSl hs.le u26 y2 z2 (by decide) (by decide) zc2 (Fills.part rfl (hp 1 _ rfl rfl).1 (At.nth (At.refl _ _) 0 rfl) (Fills.done _)))) AOK.nil rfl) rfl) rfl) (fun vs29 => ?_)
            obtain ⟨x87, e30, hu15⟩ := bindS hu15
            obtain ⟨e30l, rfl⟩ := app_get e30
            refine T.append 6 rfl u26 i2 rfl rfl (fun ρ a w st => ⟨(st.env 84), (cells_ro (by decide) st.sat.le (st.env 86))⟩) e30l (fun v87 => ?_)
            refine T.does (R := (SRel.eq v87)) rfl (fun ρ a w st => have hs := st.sat; d_assign (st.env 87)) ?_
            refine T.nil ?_
            refine T.norm ?_
            refine T.seq ?_
            refine T.region mix 3 [88, 89, 90] [0, 0, 2, 7, 15] [(sp (SRel.eq z7)), (sp (TB.sv o15)), (sp (Y27.sv ([o15] : List Bool)))] (by kernel_rfl) (AOK.cons (fun ρ a w hs hz hΓ hp => gp (d_move (hΓ 10 rfl))) (AOK.cons (fun ρ a w hs hz hΓ hp => gp (d_move (hΓ 15 rfl))) (AOK.cons (fun ρ a w hs hz hΓ hp => gp (d_buildSl hs.le u27 y4 z4 (by decide) (by decide) zc4 (Fills.part rfl (hp 1 _ rfl rfl).1 (At.nth (At.refl _ _) 0 rfl) (Fills.done _)))) AOK.nil rfl) rfl) rfl) (fun vs31 => ?_)
            obtain ⟨x91, e32, hu15⟩ := bindS hu15
            obtain ⟨e32l, rfl⟩ := app_get e32
            refine T.append 7 rfl u27 i4 rfl rfl (fun ρ a w st => ⟨(st.env 88), (cells_ro (by decide) st.sat.le (st.env 90))⟩) e32l (fun v91 => ?_)
            refine T.does (R := (SRel.eq v91)) rfl (fun ρ a w st => have hs := st.sat; d_assign (st.env 91)) ?_
            refine T.nil ?_
            refine T.norm ?_
            obtain ⟨x95, e34, hu15⟩ := bindS hu15
            obtain ⟨x97, e35, hu15⟩ := bindS hu15
            refine T.region mix 8 [93, 94, 95, 96, 97, 92, 98, 99] [0, 0, 3, 0, 15, 31, 63, 63, 255] [(sp (Y22.sv x0)), (sp ((TI .i64).sv o13)), (sp ((TP Y104).sv x95)), (sp (TB.sv o15)), (sp (SRel.tup2 (Y24.sv x97.1) (Y24.sv x97.2))), (sp (SRel.tup2 (Y24.sv x97.1) (Y24.sv x97.2))), (sp (Y24.sv x97.1)), (sp (Y24.sv x97.2))] (by kernel_rfl) (AOK.cons (fun ρ a w hs hz hΓ hp => gp (d_move (hΓ 0 rfl))) (AOK.cons (fun ρ a w hs hz hΓ hp => gp (d_move (hΓ 13 rfl))) (AOK.cons (fun ρ a w hs hz hΓ hp => gp (d_idxR u30 y84 (hp 0 _ rfl rfl).1 (hp 1 _ rfl rfl).1 e34)) (AOK.cons (fun ρ a w hs hz hΓ hp => gp (d_move (hΓ 15 rfl))) (AOK.cons (fun ρ a w hs hz hΓ hp => gp (d_call fn61 hs.le mapA2 (c61 w _ _ hs.le e35 ((hp 2 _ rfl rfl).1) ((hp 3 _ rfl rfl).1)))) (AOK.cons (fun ρ a w hs hz hΓ hp => gp (d_move (hp 4 _ rfl rfl).1)) (AOK.cons (fun ρ a w hs hz hΓ hp => gp (d_extract2_0 (hp 5 _ rfl rfl).1)) (AOK.cons (fun ρ a w hs hz hΓ hp => gp (d_extract2_1 (hp 5 _ rfl rfl).1)) AOK.nil rfl) rfl) rfl) rfl) rfl) rfl) rfl) rfl) (fun vs33 => ?_)
            refine T.store 8 y32 rfl (fun ρ a w st => ⟨.inl ⟨(st.env 11), rfl⟩, (st.env 99)⟩) (At.refl Y24 sr8) ?_
            refine T.nil ?_
            refine T.fallX ?_
            refine T.norm ?_
            refine T.region mix 3 [40, 41, 12] [0, 1, 3] [(sp ((TI .i64).sv s12)), (sp ((TI .i64).sv (IntKind.i64.wrap (s12 + 1)))), (sp ((TI .i64).sv (IntKind.i64.wrap (s12 + 1))))] (by kernel_rfl) (AOK.cons (fun ρ a w hs hz hΓ hp => gp (d_move (hΓ 12 rfl))) (AOK.cons (fun ρ a w hs hz hΓ hp => gp (d_add (hp 0 _ rfl rfl).1 (vI rfl))) (AOK.cons (fun ρ a w hs hz hΓ hp => gp (d_assign (hp 1 _ rfl rfl).1)) AOK.nil rfl) rfl) rfl) (fun vs36 => ?_)
            refine T.nil ?_
            obtain rfl := Option.some.inj hu15
            exact T.again hn15 (v87, v91) (fun φ h => T.toh h ⟨fun _ _ h => h, fun _ _ h => h, fun _ _ h => h, fun _ _ h => h, fun _ _ h => h, fun _ _ h => h, trivial⟩ ⟨rfl, rfl, rfl, rfl, trivial⟩)
          · skip
            refine T.block ?_
            refine T.loop (f := spec_OrderStrokes_l2 x0 sr5 sr8) (σ := (Int × Int × Bool × Int)) (Z := Unit) (fun s z => E [(0, (Y22.sv x0)), (8, (SRel.eq (vs9 2))), (9, (SRel.eq z6)), (10, (SRel.eq z7)), (11, (SRel.eq (vs13 1))), (12, ((TI .i64).sv s12)), (13, ((TI .i64).sv s.1)), (14, ((TI .i64).sv s.2.1)), (15, (TB.sv s.2.2.1)), (16, ((TI .i64).sv s.2.2.2))]) (fun s z => HL [(5, (slR 4 TB sr5 (vs9 2))), (6, (slR 2 (TI .i64) sr6 z6)), (7, (slR 4 TB sr7 z7)), (8, (boxR 32 Y24 sr8 (vs13 1)))]) e26 () (fun φ h => T.toh h ⟨fun _ _ h => h, fun _ _ h => h, fun _ _ h => h, fun _ _ h => h, fun _ _ h => h, fun _ _ h => h, fun _ _ h => h, fun _ _ h => h, fun _ _ h => h, fun _ _ h => h, trivial⟩ ⟨rfl, rfl, rfl, rfl, trivial⟩) (fun k s z uu25 hu25 hn25 => ?_)
            obtain ⟨s13, s14, s15, s16⟩ := s
            dsimp only [spec_OrderStrokes_l2] at hu25
            refine T.seq ?_
            refine T.seq ?_
            refine T.region mix 4 [42, 43, 44, 45] [0, 0, 2, 7] [(sp ((TI .i64).sv s16)), (sp (Y22.sv x0)), (sp ((TI .i64).sv (x0.length : Int))), (sp (TB.sv (decide (s16 < (x0.length : Int)))))] (by kernel_rfl) (AOK.cons (fun ρ a w hs hz hΓ hp => gp (d_move (hΓ 16 rfl))) (AOK.cons (fun ρ a w hs hz hΓ hp => gp (d_move (hΓ 0 rfl))) (AOK.cons (fun ρ a w hs hz hΓ hp => gp (d_lenR u30 (hp 1 _ rfl rfl).1)) (AOK.cons (fun ρ a w hs hz hΓ hp => gp (d_lss (hp 0 _ rfl rfl).1 (hp 2 _ rfl rfl).1)) AOK.nil rfl) rfl) rfl) rfl) (fun vs37 => ?_)
            refine T.nil ?_
            refine T.norm ?_
            refine T.cond (b := (decide (s16 < (x0.length : Int)))) (fun _ _ h => h) (fun hc => ?_) (fun hc => ?_)
            · replace hu25 := iteT hu25 hc
              refine T.skip ?_
              refine T.norm ?_
              refine T.seq ?_
              refine T.joinD (ι := (Int × Int × Bool) × (Unit)) (fun p => spec_OrderStrokes_k1 s16 p.1 = some uu25) (Γ' := fun p => E [(0, (Y22.sv x0)), (8, (SRel.eq (vs9 2))), (9, (SRel.eq z6)), (10, (SRel.eq z7)), (11, (SRel.eq (vs13 1))), (12, ((TI .i64).sv s12)), (13, ((TI .i64).sv p.1.1)), (14, ((TI .i64).sv p.1.2.1)), (15, (TB.sv p.1.2.2)), (16, ((TI .i64).sv s16))]) (H' := fun p => HL [(5, (slR 4 TB sr5 (vs9 2))), (6, (slR 2 (TI .i64) sr6 z6)), (7, (slR 4 TB sr7 z7)), (8, (boxR 32 Y24 sr8 (vs13 1)))]) (fun p hy => ?_) (fun hk38 => ?_)
              · obtain ⟨⟨j13, j14, j15⟩, _⟩ := p
                replace hu25 := hy
                dsimp only [spec_OrderStrokes_k1] at hu25
                refine T.norm ?_
                refine T.region mix 3 [46, 47, 16] [0, 1, 3] [(sp ((TI .i64).sv s16)), (sp ((TI .i64).sv (IntKind.i64.wrap (s16 + 1)))), (sp ((TI .i64).sv (IntKind.i64.wrap (s16 + 1))))] (by kernel_rfl) (AOK.cons (fun ρ a w hs hz hΓ hp => gp (d_move (hΓ 16 rfl))) (AOK.cons (fun ρ a w hs hz hΓ hp => gp (d_add (hp 0 _ rfl rfl).1 (vI rfl))) (AOK.cons (fun ρ a w hs hz hΓ hp => gp (d_assign (hp 1 _ rfl rfl).1)) AOK.nil rfl) rfl) rfl) (fun vs39 => ?_)
                refine T.nil ?_
                obtain rfl := Option.some.inj hu25
                exact T.again hn25 () (fun φ h => T.toh h ⟨fun _ _ h => h, fun _ _ h => h, fun _ _ h => h, fun _ _ h => h, fun _ _ h => h, fun _ _ h => h, fun _ _ h => h, fun _ _ h => h, fun _ _ h => h, fun _ _ h => h, trivial⟩ ⟨rfl, rfl, rfl, rfl, trivial⟩)
              · skip
                refine T.block ?_
                refine T.seq ?_
                refine T.seq ?_
                obtain ⟨x50, e41, hu25⟩ := bindS hu25
                refine T.region mix 4 [48, 49, 50, 51] [0, 0, 3, 7] [(sp (SRel.eq (vs9 2))), (sp ((TI .i64).sv s16)), (sp (SRel.eq (at_ (vs9 2) (s16.toNat * TB.n + 0)))), (sp (TB.sv x50))] (by kernel_rfl) (AOK.cons (fun ρ a w hs hz hΓ hp => gp (d_move (hΓ 8 rfl))) (AOK.cons (fun ρ a w hs hz hΓ hp => gp (d_move (hΓ 16 rfl))) (AOK.cons (fun ρ a w hs hz hΓ hp => gp (d_idxS u27 y4 hs 5 rfl (hp 0 _ rfl rfl).1 (hp 1 _ rfl rfl).1 e41)) (AOK.cons (fun ρ a w hs hz hΓ hp => gp (d_loadS y4 hs 5 rfl (idx_get e41).2 (hp 2 _ rfl rfl).1 (At.refl TB x50))) AOK.nil rfl) rfl) rfl) rfl) (fun vs40 => ?_)
                refine T.nil ?_
                refine T.norm ?_
                refine T.cond (b := x50) (fun _ _ h => h) (fun hc => ?_) (fun hc => ?_)
                · replace hu25 := iteT hu25 hc
                  refine T.exit ?_
                  repeat (first | refine T.passX ?_ | refine T.inX (by decide) ?_)
                  refine T.hereX ?_
                  exact T.toh (hk38 ((s13, s14, s15), ()) hu25) ⟨fun _ _ h => h, fun _ _ h => h, fun _ _ h => h, fun _ _ h => h, fun _ _ h => h, fun _ _ h => h, fun _ _ h => h, fun _ _ h => h, fun _ _ h => h, fun _ _ h => h, trivial⟩ ⟨rfl, rfl, rfl, rfl, trivial⟩
                · replace hu25 := iteF hu25 hc
                  refine T.skip ?_
                  refine T.norm ?_
                  refine T.seq ?_
                  obtain ⟨x55, e43, hu25⟩ := bindS hu25
                  obtain ⟨x58, e44, hu25⟩ := bindS hu25
                  refine T.region mix 8 [52, 53, 54, 55, 56, 57, 58, 17] [0, 0, 0, 6, 14, 30, 63, 127] [(sp (Y24.sv sr8)), (sp (Y22.sv x0)), (sp ((TI .i64).sv s16)), (sp ((TP Y104).sv x55)), (sp ((TP Y24).sv x55.1)), (sp (Y24.sv x55.1)), (sp ((TI .i64).sv x58)), (sp ((TI .i64).sv x58))] (by kernel_rfl) (AOK.cons (fun ρ a w hs hz hΓ hp => gp (d_loadO y32 hs 8 rfl (.inl ⟨(hΓ 11 rfl), rfl⟩) (At.refl Y24 sr8))) (AOK.cons (fun ρ a w hs hz hΓ hp => gp (d_move (hΓ 0 rfl))) (AOK.cons (fun ρ a w hs hz hΓ hp => gp (d_move (hΓ 16 rfl))) (AOK.cons (fun ρ a w hs hz hΓ hp => gp (d_idxR u30 y84 (hp 1 _ rfl rfl).1 (hp 2 _ rfl rfl).1 e43)) (AOK.cons (fun ρ a w hs hz hΓ hp => gp (d_fieldP fa84_0 (hp 3 _ rfl rfl).1 (At.fst (At.refl _ _)))) (AOK.cons (fun ρ a w hs hz hΓ hp => gp (d_load y32 hs.le (hp 4 _ rfl rfl).1)) (AOK.cons (fun ρ a w hs hz hΓ hp => gp (d_call fn59 hs.le mapA2 (c59 w _ _ hs.le e44 ((hp 0 _ rfl rfl).1) ((hp 5 _ rfl rfl).1)))) (AOK.cons (fun ρ a w hs hz hΓ hp => gp (d_assign (hp 6 _ rfl rfl).1)) AOK.nil rfl) rfl) rfl) rfl) rfl) rfl) rfl) rfl) (fun vs42 => ?_)
                  refine T.nil ?_
                  refine T.norm ?_
                  refine T.seq ?_
                  obtain ⟨x62, e46, hu25⟩ := bindS hu25
                  obtain ⟨x65, e47, hu25⟩ := bindS hu25
                  refine T.region mix 8 [59, 60, 61, 62, 63, 64, 65, 18] [0, 0, 0, 6, 14, 30, 63, 127] [(sp (Y24.sv sr8)), (sp (Y22.sv x0)), (sp ((TI .i64).sv s16)), (sp ((TP Y104).sv x62)), (sp ((TP Y24).sv x62.2.1)), (sp (Y24.sv x62.2.1)), (sp ((TI .i64).sv x65)), (sp ((TI .i64).sv x65))] (by kernel_rfl) (AOK.cons (fun ρ a w hs hz hΓ hp => gp (d_loadO y32 hs 8 rfl (.inl ⟨(hΓ 11 rfl), rfl⟩) (At.refl Y24 sr8))) (AOK.cons (fun ρ a w hs hz hΓ hp => gp (d_move (hΓ 0 rfl))) (AOK.cons (fun ρ a w hs hz hΓ hp => gp (d_move (hΓ 16 rfl))) (AOK.cons (fun ρ a w hs hz hΓ hp => gp (d_idxR u30 y84 (hp 1 _ rfl rfl).1 (hp 2 _ rfl rfl).1 e46)) (AOK.cons (fun ρ a w hs hz hΓ hp => gp (d_fieldP fa84_1 (hp 3 _ rfl rfl).1 (At.fst (At.snd (At.refl _ _))))) (AOK.cons (fun ρ a w hs hz hΓ hp => gp (d_load y32 hs.le (hp 4 _ rfl rfl).1)) (AOK.cons (fun ρ a w hs hz hΓ hp => gp (d_call fn59 hs.le mapA2 (c59 w _ _ hs.le e47 ((hp 0 _ rfl rfl).1) ((hp 5 _ rfl rfl).1)))) (AOK.cons (fun ρ a w hs hz hΓ hp => gp (d_assign (hp 6 _ rfl rfl).1)) AOK.nil rfl) rfl) rfl) rfl) rfl) rfl) rfl) rfl) (fun vs45 => ?_)
                  refine T.nil ?_
                  refine T.norm ?_
                  refine T.seq ?_
                  obtain ⟨x68, e49, hu25⟩ := bindS hu25
                  refine T.region mix 4 [66, 67, 68, 19] [0, 0, 3, 7] [(sp ((TI .i64).sv x58)), (sp ((TI .i64).sv x65)), (sp ((TI .i64).sv x68)), (sp ((TI .i64).sv x68))] (by kernel_rfl) (AOK.cons (fun ρ a w hs hz hΓ hp => gp (d_move (hΓ 17 rfl))) (AOK.cons (fun ρ a w hs hz hΓ hp => gp (d_move (hΓ 18 rfl))) (AOK.cons (fun ρ a w hs hz hΓ hp => gp (d_call fn60 hs.le mapA2 (c60 w _ _ hs.le e49 ((hp 0 _ rfl rfl).1) ((hp 1 _ rfl rfl).1)))) (AOK.cons (fun ρ a w hs hz hΓ hp => gp (d_assign (hp 2 _ rfl rfl).1)) AOK.nil rfl) rfl) rfl) rfl) (fun vs48 => ?_)
                  refine T.nil ?_
                  refine T.norm ?_
                  refine T.seq ?_
                  refine T.region mix 7 [69, 70, 71, 72, 73, 74, 75] [0, 1, 3, 7, 7, 31, 63] [(sp ((TI .i64).sv s13)), (sp (TB.sv (decide (s13 < 0)))), (sp (TB.sv (decide (s13 < 0)))), (sp (SRel.when ((decide (s13 < 0)) = false) ((TI .i64).sv x68))), (sp (SRel.when ((decide (s13 < 0)) = false) ((TI .i64).sv s14))), (sp (SRel.when ((decide (s13 < 0)) = false) (TB.sv (decide (x68 < s14))))), (sp (TB.sv ((decide (s13 < 0)) || (decide (x68 < s14)))))] (by kernel_rfl) (AOK.cons (fun ρ a w hs hz hΓ hp => gp (d_move (hΓ 13 rfl))) (AOK.cons (fun ρ a w hs hz hΓ hp => gp (d_lss (hp 0 _ rfl rfl).1 (vI rfl))) (AOK.cons (fun ρ a w hs hz hΓ hp => gp (d_move (hp 1 _ rfl rfl).1)) (AOK.cons (fun ρ a w hs hz hΓ hp => gg (g := 2) (d := 71) hz rfl (hp 2 _ rfl rfl).1 rfl (fun hc => d_move (hΓ 19 rfl))) (AOK.cons (fun ρ a w hs hz hΓ hp => gg (g := 2) (d := 71) hz rfl (hp 2 _ rfl rfl).1 rfl (fun hc => d_move (hΓ 14 rfl))) (AOK.cons (fun ρ a w hs hz hΓ hp => gg (g := 2) (d := 71) hz rfl (hp 2 _ rfl rfl).1 rfl (fun hc => d_lss ((hp 3 _ rfl rfl).1 hc) ((hp 4 _ rfl rfl).1 hc))) (AOK.cons (fun ρ a w hs hz hΓ hp => gp (d_pick (hp 2 _ rfl rfl).1 (fun hc => pON hc) (fun hc => pO hc ((hp 5 _ rfl rfl).1 hc)))) AOK.nil rfl) rfl) rfl) rfl) rfl) rfl) rfl) (fun vs50 => ?_)
                  refine T.nil ?_
                  refine T.norm ?_
                  obtain ⟨yy, e51, hu25⟩ := bindS hu25
                  obtain ⟨y13, y14, y15⟩ := yy
                  refine T.joinS (Γ' := fun (z : Unit) => E [(0, (Y22.sv x0)), (8, (SRel.eq (vs9 2))), (9, (SRel.eq z6)), (10, (SRel.eq z7)), (11, (SRel.eq (vs13 1))), (12, ((TI .i64).sv s12)), (13, ((TI .i64).sv y13)), (14, ((TI .i64).sv y14)), (15, (TB.sv y15)), (16, ((TI .i64).sv s16))]) (H' := fun (z : Unit) => HL [(5, (slR 4 TB sr5 (vs9 2))), (6, (slR 2 (TI .i64) sr6 z6)), (7, (slR 4 TB sr7 z7)), (8, (boxR 32 Y24 sr8 (vs13 1)))]) (fun zz => ?_) (fun hk => ?_)
                  · skip
                    refine T.fallX ?_
                    exact T.toh (hk38 ((y13, y14, y15), ()) hu25) ⟨fun _ _ h => h, fun _ _ h => h, fun _ _ h => h, fun _ _ h => h, fun _ _ h => h, fun _ _ h => h, fun _ _ h => h, fun _ _ h => h, fun _ _ h => h, fun _ _ h => h, trivial⟩ ⟨rfl, rfl, rfl, rfl, trivial⟩
                  · refine T.cond (b := ((decide (s13 < 0)) || (decide (x68 < s14)))) (fun _ _ h => h) (fun hc => ?_) (fun hc => ?_)
                    · replace e51 := iteT e51 hc
                      refine T.seq ?_
                      refine T.region mix 2 [76, 13] [0, 1] [(sp ((TI .i64).sv s16)), (sp ((TI .i64).sv s16))] (by kernel_rfl) (AOK.cons (fun ρ a w hs hz hΓ hp => gp (d_move (hΓ 16 rfl))) (AOK.cons (fun ρ a w hs hz hΓ hp => gp (d_assign (hp 0 _ rfl rfl).1)) AOK.nil rfl) rfl) (fun vs52 => ?_)
                      refine T.nil ?_
                      refine T.norm ?_
                      refine T.seq ?_
                      refine T.region mix 2 [77, 14] [0, 1] [(sp ((TI .i64).sv x68)), (sp ((TI .i64).sv x68))] (by kernel_rfl) (AOK.cons (fun ρ a w hs hz hΓ hp => gp (d_move (hΓ 19 rfl))) (AOK.cons (fun ρ a w hs hz hΓ hp => gp (d_assign (hp 0 _ rfl rfl).1)) AOK.nil rfl) rfl) (fun vs53 => ?_)
                      refine T.nil ?_
                      refine T.norm ?_
                      refine T.region mix 4 [78, 79, 80, 15] [0, 0, 3, 7] [(sp ((TI .i64).sv x65)), (sp ((TI .i64).sv x58)), (sp (TB.sv (decide (x65 < x58)))), (sp (TB.sv (decide (x65 < x58))))] (by kernel_rfl) (AOK.cons (fun ρ a w hs hz hΓ hp => gp (d_move (hΓ 18 rfl))) (AOK.cons (fun ρ a w hs hz hΓ hp => gp (d_move (hΓ 17 rfl))) (AOK.cons (fun ρ a w hs hz hΓ hp => gp (d_lss (hp 0 _ rfl rfl).1 (hp 1 _ rfl rfl).1)) (AOK.cons (fun ρ a w hs hz hΓ hp => gp (d_assign (hp 2 _ rfl rfl).1)) AOK.nil rfl) rfl) rfl) rfl) (fun vs54 => ?_)
                      refine T.nil ?_
                      cases e51
                      exact T.toh (hk ()) ⟨fun _ _ h => h, fun _ _ h => h, fun _ _ h => h, fun _ _ h => h, fun _ _ h => h, fun _ _ h => h, fun _ _ h => h, fun _ _ h => h, fun _ _ h => h, fun _ _ h => h, trivial⟩ ⟨rfl, rfl, rfl, rfl, trivial⟩
                    · replace e51 := iteF e51 hc
                      refine T.skip ?_
                      cases e51
                      exact T.toh (hk ()) ⟨fun _ _ h => h, fun _ _ h => h, fun _ _ h => h, fun _ _ h => h, fun _ _ h => h, fun _ _ h => h, fun _ _ h => h, fun _ _ h => h, fun _ _ h => h, fun _ _ h => h, trivial⟩ ⟨rfl, rfl, rfl, rfl, trivial⟩
            · replace hu25 := iteF hu25 hc
              refine T.exit ?_
              obtain rfl := Option.some.inj hu25
              repeat (first | refine T.passX ?_ | refine T.inX (by decide) ?_)
              refine T.hereX ?_
              exact T.toh (hk ((s13, s14, s15, s16), ()) (Eq.symm hn25)) ⟨fun _ _ h => h, fun _ _ h => h, fun _ _ h => h, fun _ _ h => h, fun _ _ h => h, fun _ _ h => h, fun _ _ h => h, fun _ _ h => h, trivial⟩ ⟨rfl, rfl, rfl, rfl, trivial⟩
        · replace hu15 := iteF hu15 hc
          refine T.exit ?_
          obtain rfl := Option.some.inj hu15
          repeat (first | refine T.passX ?_ | refine T.inX (by decide) ?_)
          refine T.hereX ?_
          exact T.toh (hk ((s12, sr5, sr6, sr7, sr8), (z6, z7)) (Eq.symm hn15)) ⟨fun _ _ h => h, fun _ _ h => h, trivial⟩ ⟨rfl, rfl, rfl, rfl, trivial⟩
  · refine T.cond (b := (!x23)) (fun _ _ h => h) (fun hc => ?_) (fun hc => ?_)
    · replace e6 := iteT e6 hc
      refine T.region mix 1 [7] [0] [(sp ((TI .i64).sv 1))] (by kernel_rfl) (AOK.cons (fun ρ a w hs hz hΓ hp => gp (d_assign (vI rfl))) AOK.nil rfl) (fun vs55 => ?_)
      refine T.nil ?_
      cases e6
      exact T.toh (hk ()) ⟨fun _ _ h => h, fun _ _ h => h, fun _ _ h => h, trivial⟩ trivial
    · replace e6 := iteF e6 hc
      refine T.skip ?_
      cases e6
      exact T.toh (hk ()) ⟨fun _ _ h => h, fun _ _ h => h, fun _ _ h => h, trivial⟩ trivial

theorem c141 (w : World) (v0 v1 : Value) {σ : Heap} (hσ : σ.le (snap w)) {x0 : (List (List Int))} {x1 : ((List Int) → Option Bool)} {r : Int} (hF : slices_IndexFunc_Mark_Mark x0 x1 = some r) (h0 : Y49.val σ v0 x0) (h1 : (fn1 Try.prog Y24 TB x1).p σ v1) :
    Calls Try.prog 141 #[v0, v1] w (Ret [] w σ ((TI .i64).sv r) []) := by
  unfold slices_IndexFunc_Mark_Mark at hF
  refine start (args := [v0, v1]) Try.func141 rfl 19 rfl [] [(0, (Y49.sv x0)), (1, (fn1 Try.prog Y24 TB x1))] [] (sat_start _ hσ) rfl (args1 rfl h0 (args1 rfl h1 (args0))) ?_
  refine T.seq ?_
  refine T.region mix 1 [4] [0] [(sp ((TI .i64).sv 0))] (by kernel_rfl) (AOK.cons (fun ρ a w hs hz hΓ hp => gp (d_assign (vI rfl))) AOK.nil rfl) (fun vs1 => ?_)
  refine T.nil ?_
  refine T.norm ?_
  refine T.seq ?_
  refine T.seq ?_
  refine T.region mix 3 [6, 7, 8] [0, 1, 0] [(sp (Y49.sv x0)), (sp ((TI .i64).sv (x0.length : Int))), (sp ((TI .i64).sv 0))] (by kernel_rfl) (AOK.cons (fun ρ a w hs hz hΓ hp => gp (d_move (hΓ 0 rfl))) (AOK.cons (fun ρ a w hs hz hΓ hp => gp (d_lenR u49 (hp 0 _ rfl rfl).1)) (AOK.cons (fun ρ a w hs hz hΓ hp => gp (d_move (vI rfl))) AOK.nil rfl) rfl) rfl) (fun vs2 => ?_)
  refine T.nil ?_
  refine T.norm ?_
  obtain ⟨yl3, e4, hF⟩ := bindS hF
  refine T.joinD (ι := Int × (Unit)) (fun p => yl3 = .inl p.1) (Γ' := fun p => E []) (H' := fun p => HL []) (fun p hy => ?_) (fun hk => ?_)
  · obtain ⟨o8, _⟩ := p
    cases hy
    refine T.norm ?_
    refine T.seq ?_
    refine T.region mix 1 [4] [0] [(sp ((TI .i64).sv (-1)))] (by kernel_rfl) (AOK.cons (fun ρ a w hs hz hΓ hp => gp (d_assign (vI rfl))) AOK.nil rfl) (fun vs5 => ?_)
    refine T.nil ?_
    refine T.norm ?_
    refine T.ret ?_
    obtain rfl := Option.some.inj hF
    refine T.fin0 fun ρ a w st => ?_
    exact ⟨_, results_one rfl rfl, (st.env 4)⟩
  · skip
    refine T.block ?_
    refine T.loop (f := slices_IndexFunc_Mark_Mark_l1 x0 x1) (σ := Int) (Z := Unit) (fun s z => E [(0, (Y49.sv x0)), (1, (fn1 Try.prog Y24 TB x1)), (7, ((TI .i64).sv (x0.length : Int))), (8, ((TI .i64).sv s))]) (fun s z => HL []) e4 () (fun φ h => T.toh h ⟨fun _ _ h => h, fun _ _ h => h, fun _ _ h => h, fun _ _ h => h, trivial⟩ trivial) (fun k s z uu3 hu3 hn3 => ?_)
    obtain ⟨s8, rfl⟩ : ∃ q, q = s := ⟨_, rfl⟩
    dsimp only [slices_IndexFunc_Mark_Mark_l1] at hu3
    refine T.seq ?_
    refine T.region mix 1 [9] [0] [(sp (TB.sv (decide (s8 < (x0.length : Int)))))] (by kernel_rfl) (AOK.cons (fun ρ a w hs hz hΓ hp => gp (d_lss (hΓ 8 rfl) (hΓ 7 rfl))) AOK.nil rfl) (fun vs6 => ?_)
    refine T.nil ?_
    refine T.norm ?_
    refine T.seq ?_
    refine T.cond (b := (decide (s8 < (x0.length : Int)))) (fun _ _ h => h) (fun hc => ?_) (fun hc => ?_)
    · replace hu3 := iteT hu3 hc
      refine T.skip ?_
      refine T.norm ?_
      refine T.seq ?_
      refine T.block ?_
      refine T.seq ?_
      refine T.region mix 2 [10, 5] [0, 1] [(sp ((TI .i64).sv s8)), (sp ((TI .i64).sv s8))] (by kernel_rfl) (AOK.cons (fun ρ a w hs hz hΓ hp => gp (d_move (hΓ 8 rfl))) (AOK.cons (fun ρ a w hs hz hΓ hp => gp (d_assign (hp 0 _ rfl rfl).1)) AOK.nil rfl) rfl) (fun vs7 => ?_)
      refine T.nil ?_
      refine T.norm ?_
      refine T.seq ?_
      obtain ⟨x14, e9, hu3⟩ := bindS hu3
      obtain ⟨x16, e10, hu3⟩ := bindS hu3
      refine T.region mix 6 [11, 12, 13, 14, 15, 16] [0, 0, 0, 6, 14, 31] [(sp (fn1 Try.prog Y24 TB x1)), (sp (Y49.sv x0)), (sp ((TI .i64).sv s8)), (sp ((TP Y24).sv x14)), (sp (Y24.sv x14)), (sp (TB.sv x16))] (by kernel_rfl) (AOK.cons (fun ρ a w hs hz hΓ hp => gp (d_move (hΓ 1 rfl))) (AOK.cons (fun ρ a w hs hz hΓ hp => gp (d_move (hΓ 0 rfl))) (AOK.cons (fun ρ a w hs hz hΓ hp => gp (d_move (hΓ 5 rfl))) (AOK.cons (fun ρ a w hs hz hΓ hp => gp (d_idxR u49 y32 (hp 1 _ rfl rfl).1 (hp 2 _ rfl rfl).1 e9)) (AOK.cons (fun ρ a w hs hz hΓ hp => gp (d_load y32 hs.le (hp 3 _ rfl rfl).1)) (AOK.cons (fun ρ a w hs hz hΓ hp => gp (d_callV1 hs.le flat_TB ((hp 0 _ rfl rfl).1) ((hp 4 _ rfl rfl).1) e10)) AOK.nil rfl) rfl) rfl) rfl) rfl) rfl) (fun vs8 => ?_)
      refine T.nil ?_
      refine T.norm ?_
      refine T.cond (b := x16) (fun _ _ h => h) (fun hc => ?_) (fun hc => ?_)
      · replace hu3 := iteT hu3 hc
        refine T.seq ?_
        refine T.region mix 2 [17, 4] [0, 1] [(sp ((TI .i64).sv s8)), (sp ((TI .i64).sv s8))] (by kernel_rfl) (AOK.cons (fun ρ a w hs hz hΓ hp => gp (d_move (hΓ 5 rfl))) (AOK.cons (fun ρ a w hs hz hΓ hp => gp (d_assign (hp 0 _ rfl rfl).1)) AOK.nil rfl) rfl) (fun vs11 => ?_)
        refine T.nil ?_
        refine T.norm ?_
        refine T.ret ?_
        obtain rfl := Option.some.inj hu3
        cases hn3
        obtain rfl := Option.some.inj hF
        refine T.fin0 fun ρ a w st => ?_
        exact ⟨_, results_one rfl rfl, (st.env 4)⟩
      · replace hu3 := iteF hu3 hc
        refine T.skip ?_
        refine T.fallX ?_
        refine T.norm ?_
        refine T.region mix 2 [18, 8] [0, 1] [(sp ((TI .i64).sv (IntKind.i64.wrap (s8 + 1)))), (sp ((TI .i64).sv (IntKind.i64.wrap (s8 + 1))))] (by kernel_rfl) (AOK.cons (fun ρ a w hs hz hΓ hp => gp (d_add (hΓ 8 rfl) (vI rfl))) (AOK.cons (fun ρ a w hs hz hΓ hp => gp (d_move (hp 0 _ rfl rfl).1)) AOK.nil rfl) rfl) (fun vs12 => ?_)
        refine T.nil ?_
        obtain rfl := Option.some.inj hu3
        exact T.again hn3 () (fun φ h => T.toh h ⟨fun _ _ h => h, fun _ _ h => h, fun _ _ h => h, fun _ _ h => h, trivial⟩ trivial)
    · replace hu3 := iteF hu3 hc
      refine T.exit ?_
      obtain rfl := Option.some.inj hu3
      repeat (first | refine T.passX ?_ | refine T.inX (by decide) ?_)
      refine T.hereX ?_
      exact T.toh (hk (s8, ()) (Eq.symm hn3)) trivial trivial

theorem c112 (w : World) (v0 v1 : Value) {σ : Heap} (hσ : σ.le (snap w)) {x0 : (List (List Int))} {x1 : ((List Int) → Option Bool)} {r : Bool} (hF : slices_ContainsFunc_Mark_Mark x0 x1 = some r) (h0 : Y49.val σ v0 x0) (h1 : (fn1 Try.prog Y24 TB x1).p σ v1) :
    Calls Try.prog 112 #[v0, v1] w (Ret [] w σ (TB.sv r) []) := by
  unfold slices_ContainsFunc_Mark_Mark at hF
  refine start (args := [v0, v1]) Try.func112 rfl 9 rfl [] [(0, (Y49.sv x0)), (1, (fn1 Try.prog Y24 TB x1))] [] (sat_start _ hσ) rfl (args1 rfl h0 (args1 rfl h1 (args0))) ?_
  refine T.seq ?_
  refine T.region mix 1 [4] [0] [(sp (TB.sv false))] (by kernel_rfl) (AOK.cons (fun ρ a w hs hz hΓ hp => gp (d_assign (vB _))) AOK.nil rfl) (fun vs1 => ?_)
  refine T.nil ?_
  refine T.norm ?_
  refine T.seq ?_
  obtain ⟨x7, e3, hF⟩ := bindS hF
  refine T.region mix 5 [5, 6, 7, 8, 4] [0, 0, 3, 7, 15] [(sp (Y49.sv x0)), (sp (fn1 Try.prog Y24 TB x1)), (sp ((TI .i64).sv x7)), (sp (TB.sv (decide (0 ≤ x7)))), (sp (TB.sv (decide (0 ≤ x7))))] (by kernel_rfl) (AOK.cons (fun ρ a w hs hz hΓ hp => gp (d_move (hΓ 0 rfl))) (AOK.cons (fun ρ a w hs hz hΓ hp => gp (d_move (hΓ 1 rfl))) (AOK.cons (fun ρ a w hs hz hΓ hp => gp (d_call fn141 hs.le mapA2 (c141 w _ _ hs.le e3 ((hp 0 _ rfl rfl).1) ((hp 1 _ rfl rfl).1)))) (AOK.cons (fun ρ a w hs hz hΓ hp => gp (d_geq (hp 2 _ rfl rfl).1 (vI rfl))) (AOK.cons (fun ρ a w hs hz hΓ hp => gp (d_assign (hp 3 _ rfl rfl).1)) AOK.nil rfl) rfl) rfl) rfl) rfl) (fun vs2 => ?_)
  refine T.nil ?_
  refine T.norm ?_
  refine T.ret ?_
  obtain rfl := Option.some.inj hF
  refine T.fin0 fun ρ a w st => ?_
  exact ⟨_, results_one rfl rfl, (st.env 4)⟩

theorem c72 (w : World) (v0 v1 v2 : Value) {σ : Heap} (hσ : σ.le (snap w)) {x0 : Int} {x1 : Int} {x2 : Int} {r : Bool} (hF : impl_within x0 x1 x2 = some r) (h0 : (TI .i64).val σ v0 x0) (h1 : (TI .i64).val σ v1 x1) (h2 : (TI .i64).val σ v2 x2) :
    Calls Try.prog 72 #[v0, v1, v2] w (Ret [] w σ (TB.sv r) []) := by
  unfold impl_within at hF
  refine start (args := [v0, v1, v2]) Try.func72 rfl 15 rfl [] [(0, ((TI .i64).sv x0)), (1, ((TI .i64).sv x1)), (2, ((TI .i64).sv x2))] [] (sat_start _ hσ) rfl (args1 rfl h0 (args1 rfl h1 (args1 rfl h2 (args0)))) ?_
  refine T.seq ?_
  refine T.region mix 1 [6] [0] [(sp (TB.sv false))] (by kernel_rfl) (AOK.cons (fun ρ a w hs hz hΓ hp => gp (d_assign (vB _))) AOK.nil rfl) (fun vs1 => ?_)
  refine T.nil ?_
  refine T.norm ?_
  refine T.seq ?_
  refine T.region mix 9 [7, 8, 9, 10, 11, 12, 13, 14, 6] [0, 0, 3, 7, 15, 15, 63, 127, 255] [(sp ((TI .i64).sv x0)), (sp ((TI .i64).sv x1)), (sp (TB.sv (decide (x1 ≤ x0)))), (sp (TB.sv (decide (x1 ≤ x0)))), (sp (SRel.when ((decide (x1 ≤ x0)) = true) ((TI .i64).sv x0))), (sp (SRel.when ((decide (x1 ≤ x0)) = true) ((TI .i64).sv x2))), (sp (SRel.when ((decide (x1 ≤ x0)) = true) (TB.sv (decide (x0 ≤ x2))))), (sp (TB.sv ((decide (x1 ≤ x0)) && (decide (x0 ≤ x2))))), (sp (TB.sv ((decide (x1 ≤ x0)) && (decide (x0 ≤ x2)))))] (by kernel_rfl) (AOK.cons (fun ρ a w hs hz hΓ hp => gp (d_move (hΓ 0 rfl))) (AOK.cons (fun ρ a w hs hz hΓ hp => gp (d_move (hΓ 1 rfl))) (AOK.cons (fun ρ a w hs hz hΓ hp => gp (d_geq (hp 0 _ rfl rfl).1 (hp 1 _ rfl rfl).1)) (AOK.cons (fun ρ a w hs hz hΓ hp => gp (d_move (hp 2 _ rfl rfl).1)) (AOK.cons (fun ρ a w hs hz hΓ hp => gg (g := 3) (d := 10) hz rfl (hp 3 _ rfl rfl).1 rfl (fun hc => d_move (hΓ 0 rfl))) (AOK.cons (fun ρ a w hs hz hΓ hp => gg (g := 3) (d := 10) hz rfl (hp 3 _ rfl rfl).1 rfl (fun hc => d_move (hΓ 2 rfl))) (AOK.cons (fun ρ a w hs hz hΓ hp => gg (g := 3) (d := 10) hz rfl (hp 3 _ rfl rfl).1 rfl (fun hc => d_leq ((hp 4 _ rfl rfl).1 hc) ((hp 5 _ rfl rfl).1 hc))) (AOK.cons (fun ρ a w hs hz hΓ hp => gp (d_pick (hp 3 _ rfl rfl).1 (fun hc => pA hc ((hp 6 _ rfl rfl).1 hc)) (fun hc => pAN hc))) (AOK.cons (fun ρ a w hs hz hΓ hp => gp (d_assign (hp 7 _ rfl rfl).1)) AOK.nil rfl) rfl) rfl) rfl) rfl) rfl) rfl) rfl) rfl) (fun vs2 => ?_)
  refine T.nil ?_
  refine T.norm ?_
  refine T.ret ?_
  obtain rfl := Option.some.inj hF
  refine T.fin0 fun ρ a w st => ?_
  exact ⟨_, results_one rfl rfl, (st.env 6)⟩

theorem c113 (w : World) (v0 : Value) {σ : Heap} (hσ : σ.le (snap w)) {x0 : (List Int)} {r : Bool} (hF : impl_areMarks_c1 x0 = some r) (h0 : Y24.val σ v0 x0) :
    Calls Try.prog 113 #[v0] w (Ret [] w σ (TB.sv r) []) := by
  unfold impl_areMarks_c1 at hF
  refine start (args := [v0]) Try.func113 rfl 15 rfl [] [(0, (Y24.sv x0))] [] (sat_start _ hσ) rfl (args1 rfl h0 (args0)) ?_
  refine T.seq ?_
  refine T.region mix 2 [1, 2] [0, 0] [(sp ((TP Y24).sv x0)), (sp (TB.sv false))] (by kernel_rfl) (AOK.cons (fun ρ a w hs hz hΓ hp => gp (d_box hs.le (hΓ 0 rfl))) (AOK.cons (fun ρ a w hs hz hΓ hp => gp (d_assign (vB _))) AOK.nil rfl) rfl) (fun vs1 => ?_)
  refine T.nil ?_
  refine T.norm ?_
  refine T.seq ?_
  obtain ⟨x6, e3, hF⟩ := bindS hF
  obtain ⟨x14, e5, hF⟩ := bindS hF
  obtain ⟨x12, e6⟩ : ∃ (x12 : Bool), (!x6) = false → impl_within (nth x0 1) (-500) 500 = some x12 ∧ (!x12) = x14 := by
    by_cases hb : (!x6) = false
    · replace e5 := iteF e5 hb
      obtain ⟨x12, e4, e5⟩ := bindS e5
      exact ⟨x12, fun _ => ⟨e4, Option.some.inj e5⟩⟩
    · exact ⟨default, fun h => absurd h hb⟩
  have e7 : (!x6) = true → true = x14 := fun h => Option.some.inj (iteT e5 h)
  refine T.region mix 13 [3, 4, 5, 6, 7, 8, 9, 10, 11, 12, 13, 14, 2] [0, 1, 3, 7, 15, 31, 63, 127, 255, 511, 1023, 2047, 4095] [(sp ((TP (TI .i16)).sv (nth x0 0))), (sp ((TI .i16).sv (nth x0 0))), (sp ((TI .i64).sv (nth x0 0))), (sp (TB.sv x6)), (sp (TB.sv (!x6))), (sp (TB.sv (!x6))), (sp (SRel.when ((!x6) = false) ((TP (TI .i16)).sv (nth x0 1)))), (sp (SRel.when ((!x6) = false) ((TI .i16).sv (nth x0 1)))), (sp (SRel.when ((!x6) = false) ((TI .i64).sv (nth x0 1)))), (sp (SRel.when ((!x6) = false) (TB.sv x12))), (sp (SRel.when ((!x6) = false) (TB.sv (!x12)))), (sp (TB.sv x14)), (sp (TB.sv x14))] (by kernel_rfl) (AOK.cons (fun ρ a w hs hz hΓ hp => gp (d_idxPc .i64 0 u32 y23 (hΓ 1 rfl) rfl)) (AOK.cons (fun ρ a w hs hz hΓ hp => gp (d_load y23 hs.le (hp 0 _ rfl rfl).1)) (AOK.cons (fun ρ a w hs hz hΓ hp => gp (d_widen u23 u2 rfl (hp 1 _ rfl rfl).1)) (AOK.cons (fun ρ a w hs hz hΓ hp => gp (d_call fn72 hs.le mapA3 (c72 w _ _ _ hs.le e3 ((hp 2 _ rfl rfl).1) (vI rfl) (vI rfl)))) (AOK.cons (fun ρ a w hs hz hΓ hp => gp (d_not (hp 3 _ rfl rfl).1)) (AOK.cons (fun ρ a w hs hz hΓ hp => gp (d_move (hp 4 _ rfl rfl).1)) (AOK.cons (fun ρ a w hs hz hΓ hp => gg (g := 5) (d := 8) hz rfl (hp 5 _ rfl rfl).1 rfl (fun hc => d_idxPc .i64 1 u32 y23 (hΓ 1 rfl) rfl)) (AOK.cons (fun ρ a w hs hz hΓ hp => gg (g := 5) (d := 8) hz rfl (hp 5 _ rfl rfl).1 rfl (fun hc => d_load y23 hs.le ((hp 6 _ rfl rfl).1 hc))) (AOK.cons (fun ρ a w hs hz hΓ hp => gg (g := 5) (d := 8) hz rfl (hp 5 _ rfl rfl).1 rfl (fun hc => d_widen u23 u2 rfl ((hp 7 _ rfl rfl).1 hc))) (AOK.cons (fun ρ a w hs hz hΓ hp => gg (g := 5) (d := 8) hz rfl (hp 5 _ rfl rfl).1 rfl (fun hc => d_call fn72 hs.le mapA3 (c72 w _ _ _ hs.le (e6 hc).1 ((hp 8 _ rfl rfl).1 hc) (vI rfl) (vI rfl)))) (AOK.cons (fun ρ a w hs hz hΓ hp => gg (g := 5) (d := 8) hz rfl (hp 5 _ rfl rfl).1 rfl (fun hc => d_not ((hp 9 _ rfl rfl).1 hc))) (AOK.cons (fun ρ a w hs hz hΓ hp => gp (d_pick (hp 5 _ rfl rfl).1 (fun hc => pC (e7 hc)) (fun hc => (pE ((e6 hc).2) ((hp 10 _ rfl rfl).1 hc))))) (AOK.cons (fun ρ a w hs hz hΓ hp => gp (d_assign (hp 11 _ rfl rfl).1)) AOK.nil rfl) rfl) rfl) rfl) rfl) rfl) rfl) rfl) rfl) rfl) rfl) rfl) rfl) (fun vs2 => ?_)
  refine T.nil ?_
  refine T.norm ?_
  refine T.ret ?_
  obtain rfl := Option.some.inj hF
  refine T.fin0 fun ρ a w st => ?_
  exact ⟨_, results_one rfl rfl, (st.env 2)⟩

theorem c65 (w : World) (v0 : Value) {σ : Heap} (hσ : σ.le (snap w)) {x0 : (List (List Int))} {r : Bool} (hF : impl_areMarks x0 = some r) (h0 : Y49.val σ v0 x0) :
    Calls Try.prog 65 #[v0] w (Ret [] w σ (TB.sv r) []) := by
  unfold impl_areMarks at hF
  refine start (args := [v0]) Try.func65 rfl 6 rfl [] [(0, (Y49.sv x0))] [] (sat_start _ hσ) rfl (args1 rfl h0 (args0)) ?_
  refine T.seq ?_
  refine T.region mix 1 [2] [0] [(sp (TB.sv false))] (by kernel_rfl) (AOK.cons (fun ρ a w hs hz hΓ hp => gp (d_assign (vB _))) AOK.nil rfl) (fun vs1 => ?_)
  refine T.nil ?_
  refine T.norm ?_
  refine T.seq ?_
  obtain ⟨x4, e3, hF⟩ := bindS hF
  refine T.region mix 4 [3, 4, 5, 2] [0, 1, 3, 7] [(sp (Y49.sv x0)), (sp (TB.sv x4)), (sp (TB.sv (!x4))), (sp (TB.sv (!x4)))] (by kernel_rfl) (AOK.cons (fun ρ a w hs hz hΓ hp => gp (d_move (hΓ 0 rfl))) (AOK.cons (fun ρ a w hs hz hΓ hp => gp (d_call fn112 hs.le mapA2 (c112 w _ _ hs.le e3 ((hp 0 _ rfl rfl).1) (fv1 fn113 flat_TB (fun w σ u0 x0 y hσ h0 hf => c113 w _  hσ hf h0))))) (AOK.cons (fun ρ a w hs hz hΓ hp => gp (d_not (hp 1 _ rfl rfl).1)) (AOK.cons (fun ρ a w hs hz hΓ hp => gp (d_assign (hp 2 _ rfl rfl).1)) AOK.nil rfl) rfl) rfl) rfl) (fun vs2 => ?_)
  refine T.nil ?_
  refine T.norm ?_
  refine T.ret ?_
  obtain rfl := Option.some.inj hF
  refine T.fin0 fun ρ a w st => ?_
  exact ⟨_, results_one rfl rfl, (st.env 2)⟩

theorem c64 (w : World) (v0 v1 : Value) {σ : Heap} (hσ : σ.le (snap w)) {x0 : Bool} {x1 : Int} {r : Int} (hF : impl_when x0 x1 = some r) (h0 : TB.val σ v0 x0) (h1 : (TI .i64).val σ v1 x1) :
    Calls Try.prog 64 #[v0, v1] w (Ret [] w σ ((TI .i64).sv r) []) := by
  unfold impl_when at hF
  refine start (args := [v0, v1]) Try.func64 rfl 7 rfl [] [(0, (TB.sv x0)), (1, ((TI .i64).sv x1))] [] (sat_start _ hσ) rfl (args1 rfl h0 (args1 rfl h1 (args0))) ?_
  refine T.seq ?_
  refine T.region mix 1 [4] [0] [(sp ((TI .i64).sv 0))] (by kernel_rfl) (AOK.cons (fun ρ a w hs hz hΓ hp => gp (d_assign (vI rfl))) AOK.nil rfl) (fun vs1 => ?_)
  refine T.nil ?_
  refine T.norm ?_
  refine T.seq ?_
  refine T.seq ?_
  refine T.region mix 1 [5] [0] [(sp (TB.sv x0))] (by kernel_rfl) (AOK.cons (fun ρ a w hs hz hΓ hp => gp (d_move (hΓ 0 rfl))) AOK.nil rfl) (fun vs2 => ?_)
  refine T.nil ?_
  refine T.norm ?_
  refine T.cond (b := x0) (fun _ _ h => h) (fun hc => ?_) (fun hc => ?_)
  · replace hF := iteT hF hc
    refine T.seq ?_
    refine T.region mix 2 [6, 4] [0, 1] [(sp ((TI .i64).sv x1)), (sp ((TI .i64).sv x1))] (by kernel_rfl) (AOK.cons (fun ρ a w hs hz hΓ hp => gp (d_move (hΓ 1 rfl))) (AOK.cons (fun ρ a w hs hz hΓ hp => gp (d_assign (hp 0 _ rfl rfl).1)) AOK.nil rfl) rfl) (fun vs3 => ?_)
    refine T.nil ?_
    refine T.norm ?_
    refine T.ret ?_
    obtain rfl := Option.some.inj hF
    refine T.fin0 fun ρ a w st => ?_
    exact ⟨_, results_one rfl rfl, (st.env 4)⟩
  · replace hF := iteF hF hc
    refine T.skip ?_
    refine T.norm ?_
    refine T.seq ?_
    refine T.region mix 1 [4] [0] [(sp ((TI .i64).sv 0))] (by kernel_rfl) (AOK.cons (fun ρ a w hs hz hΓ hp => gp (d_assign (vI rfl))) AOK.nil rfl) (fun vs4 => ?_)
    refine T.nil ?_
    refine T.norm ?_
    refine T.ret ?_
    obtain rfl := Option.some.inj hF
    refine T.fin0 fun ρ a w st => ?_
    exact ⟨_, results_one rfl rfl, (st.env 4)⟩

theorem c142 (w : World) (v0 v1 : Value) {σ : Heap} (hσ : σ.le (snap w)) {x0 : (List ((List Int) × (List Int) × Int))} {x1 : (((List Int) × (List Int) × Int) → Option Bool)} {r : Int} (hF : slices_IndexFunc_Stroke_Stroke x0 x1 = some r) (h0 : Y22.val σ v0 x0) (h1 : (fn1 Try.prog Y104 TB x1).p σ v1) :
    Calls Try.prog 142 #[v0, v1] w (Ret [] w σ ((TI .i64).sv r) []) := by
  unfold slices_IndexFunc_Stroke_Stroke at hF
  refine start (args := [v0, v1]) Try.func142 rfl 19 rfl [] [(0, (Y22.sv x0)), (1, (fn1 Try.prog Y104 TB x1))] [] (sat_start _ hσ) rfl (args1 rfl h0 (args1 rfl h1 (args0))) ?_
  refine T.seq ?_
  refine T.region mix 1 [4] [0] [(sp ((TI .i64).sv 0))] (by kernel_rfl) (AOK.cons (fun ρ a w hs hz hΓ hp => gp (d_assign (vI rfl))) AOK.nil rfl) (fun vs1 => ?_)
  refine T.nil ?_
  refine T.norm ?_
  refine T.seq ?_
  refine T.seq ?_
  refine T.region mix 3 [6, 7, 8] [0, 1, 0] [(sp (Y22.sv x0)), (sp ((TI .i64).sv (x0.length : Int))), (sp ((TI .i64).sv 0))] (by kernel_rfl) (AOK.cons (fun ρ a w hs hz hΓ hp => gp (d_move (hΓ 0 rfl))) (AOK.cons (fun ρ a w hs hz hΓ hp => gp (d_lenR u30 (hp 0 _ rfl rfl).1)) (AOK.cons (fun ρ a w hs hz hΓ hp => gp (d_move (vI rfl))) AOK.nil rfl) rfl) rfl) (fun vs2 => ?_)
  refine T.nil ?_
  refine T.norm ?_
  obtain ⟨yl3, e4, hF⟩ := bindS hF
  refine T.joinD (ι := Int × (Unit)) (fun p => yl3 = .inl p.1) (Γ' := fun p => E []) (H' := fun p => HL []) (fun p hy => ?_) (fun hk => ?_)
  · obtain ⟨o8, _⟩ := p
    cases hy
    refine T.norm ?_
    refine T.seq ?_
    refine T.region mix 1 [4] [0] [(sp ((TI .i64).sv (-1)))] (by kernel_rfl) (AOK.cons (fun ρ a w hs hz hΓ hp => gp (d_assign (vI rfl))) AOK.nil rfl) (fun vs5 => ?_)
    refine T.nil ?_
    refine T.norm ?_
    refine T.ret ?_
    obtain rfl := Option.some.inj hF
    refine T.fin0 fun ρ a w st => ?_
    exact ⟨_, results_one rfl rfl, (st.env 4)⟩
  · skip
    refine T.block ?_
    refine T.loop (f := slices_IndexFunc_Stroke_Stroke_l1 x0 x1) (σ := Int) (Z := Unit) (fun s z => E [(0, (Y22.sv x0)), (1, (fn1 Try.prog Y104 TB x1)), (7, ((TI .i64).sv (x0.length : Int))), (8, ((TI .i64).sv s))]) (fun s z => HL []) e4 () (fun φ h => T.toh h ⟨fun _ _ h => h, fun _ _ h => h, fun _ _ h => h, fun _ _ h => h, trivial⟩ trivial) (fun k s z uu3 hu3 hn3 => ?_)
    obtain ⟨s8, rfl⟩ : ∃ q, q = s := ⟨_, rfl⟩
    dsimp only [slices_IndexFunc_Stroke_Stroke_l1] at hu3
    refine T.seq ?_
    refine T.region mix 1 [9] [0] [(sp (TB.sv (decide (s8 < (x0.length : Int)))))] (by kernel_rfl) (AOK.cons (fun ρ a w hs hz hΓ hp => gp (d_lss (hΓ 8 rfl) (hΓ 7 rfl))) AOK.nil rfl) (fun vs6 => ?_)
    refine T.nil ?_
    refine T.norm ?_
    refine T.seq ?_
    refine T.cond (b := (decide (s8 < (x0.length : Int)))) (fun _ _ h => h) (fun hc => ?_) (fun hc => ?_)
    · replace hu3 := iteT hu3 hc
      refine T.skip ?_
      refine T.norm ?_
      refine T.seq ?_
      refine T.block ?_
      refine T.seq ?_
      refine T.region mix 2 [10, 5] [0, 1] [(sp ((TI .i64).sv s8)), (sp ((TI .i64).sv s8))] (by kernel_rfl) (AOK.cons (fun ρ a w hs hz hΓ hp => gp (d_move (hΓ 8 rfl))) (AOK.cons (fun ρ a w hs hz hΓ hp => gp (d_assign (hp 0 _ rfl rfl).1)) AOK.nil rfl) rfl) (fun vs7 => ?_)
      refine T.nil ?_
      refine T.norm ?_
      refine T.seq ?_
      obtain ⟨x14, e9, hu3⟩ := bindS hu3
      obtain ⟨x16, e10, hu3⟩ := bindS hu3
      refine T.region mix 6 [11, 12, 13, 14, 15, 16] [0, 0, 0, 6, 14, 31] [(sp (fn1 Try.prog Y104 TB x1)), (sp (Y22.sv x0)), (sp ((TI .i64).sv s8)), (sp ((TP Y104).sv x14)), (sp (Y104.sv x14)), (sp (TB.sv x16))] (by kernel_rfl) (AOK.cons (fun ρ a w hs hz hΓ hp => gp (d_move (hΓ 1 rfl))) (AOK.cons (fun ρ a w hs hz hΓ hp => gp (d_move (hΓ 0 rfl))) (AOK.cons (fun ρ a w hs hz hΓ hp => gp (d_move (hΓ 5 rfl))) (AOK.cons (fun ρ a w hs hz hΓ hp => gp (d_idxR u30 y84 (hp 1 _ rfl rfl).1 (hp 2 _ rfl rfl).1 e9)) (AOK.cons (fun ρ a w hs hz hΓ hp => gp (d_load y84 hs.le (hp 3 _ rfl rfl).1)) (AOK.cons (fun ρ a w hs hz hΓ hp => gp (d_callV1 hs.le flat_TB ((hp 0 _ rfl rfl).1) ((hp 4 _ rfl rfl).1) e10)) AOK.nil rfl) rfl) rfl) rfl) rfl) rfl) (fun vs8 => ?_)
      refine T.nil ?_
      refine T.norm ?_
      refine T.cond (b := x16) (fun _ _ h => h) (fun hc => ?_) (fun hc => ?_)
      · replace hu3 := iteT hu3 hc
        refine T.seq ?_
        refine T.region mix 2 [17, 4] [0, 1] [(sp ((TI .i64).sv s8)), (sp ((TI .i64).sv s8))] (by kernel_rfl) (AOK.cons (fun ρ a w hs hz hΓ hp => gp (d_move (hΓ 5 rfl))) (AOK.cons (fun ρ a w hs hz hΓ hp => gp (d_assign (hp 0 _ rfl rfl).1)) AOK.nil rfl) rfl) (fun vs11 => ?_)
        refine T.nil ?_
        refine T.norm ?_
        refine T.ret ?_
        obtain rfl := Option.some.inj hu3
        cases hn3
        obtain rfl := Option.some.inj hF
        refine T.fin0 fun ρ a w st => ?_
        exact ⟨_, results_one rfl rfl, (st.env 4)⟩
      · replace hu3 := iteF hu3 hc
        refine T.skip ?_
        refine T.fallX ?_
        refine T.norm ?_
        refine T.region mix 2 [18, 8] [0, 1] [(sp ((TI .i64).sv (IntKind.i64.wrap (s8 + 1)))), (sp ((TI .i64).sv (IntKind.i64.wrap (s8 + 1))))] (by kernel_rfl) (AOK.cons (fun ρ a w hs hz hΓ hp => gp (d_add (hΓ 8 rfl) (vI rfl))) (AOK.cons (fun ρ a w hs hz hΓ hp => gp (d_move (hp 0 _ rfl rfl).1)) AOK.nil rfl) rfl) (fun vs12 => ?_)
        refine T.nil ?_
        obtain rfl := Option.some.inj hu3
        exact T.again hn3 () (fun φ h => T.toh h ⟨fun _ _ h => h, fun _ _ h => h, fun _ _ h => h, fun _ _ h => h, trivial⟩ trivial)
    · replace hu3 := iteF hu3 hc
      refine T.exit ?_
      obtain rfl := Option.some.inj hu3
      repeat (first | refine T.passX ?_ | refine T.inX (by decide) ?_)
      refine T.hereX ?_
      exact T.toh (hk (s8, ()) (Eq.symm hn3)) trivial trivial

theorem c114 (w : World) (v0 v1 : Value) {σ : Heap} (hσ : σ.le (snap w)) {x0 : (List ((List Int) × (List Int) × Int))} {x1 : (((List Int) × (List Int) × Int) → Option Bool)} {r : Bool} (hF : slices_ContainsFunc_Stroke_Stroke x0 x1 = some r) (h0 : Y22.val σ v0 x0) (h1 : (fn1 Try.prog Y104 TB x1).p σ v1) :
    Calls Try.prog 114 #[v0, v1] w (Ret [] w σ (TB.sv r) []) := by
  unfold slices_ContainsFunc_Stroke_Stroke at hF
  refine start (args := [v0, v1]) Try.func114 rfl 9 rfl [] [(0, (Y22.sv x0)), (1, (fn1 Try.prog Y104 TB x1))] [] (sat_start _ hσ) rfl (args1 rfl h0 (args1 rfl h1 (args0))) ?_
  refine T.seq ?_
  refine T.region mix 1 [4] [0] [(sp (TB.sv false))] (by kernel_rfl) (AOK.cons (fun ρ a w hs hz hΓ hp => gp (d_assign (vB _))) AOK.nil rfl) (fun vs1 => ?_)
  refine T.nil ?_
  refine T.norm ?_
  refine T.seq ?_
  obtain ⟨x7, e3, hF⟩ := bindS hF
  refine T.region mix 5 [5, 6, 7, 8, 4] [0, 0, 3, 7, 15] [(sp (Y22.sv x0)), (sp (fn1 Try.prog Y104 TB x1)), (sp ((TI .i64).sv x7)), (sp (TB.sv (decide (0 ≤ x7)))), (sp (TB.sv (decide (0 ≤ x7))))] (by kernel_rfl) (AOK.cons (fun ρ a w hs hz hΓ hp => gp (d_move (hΓ 0 rfl))) (AOK.cons (fun ρ a w hs hz hΓ hp => gp (d_move (hΓ 1 rfl))) (AOK.cons (fun ρ a w hs hz hΓ hp => gp (d_call fn142 hs.le mapA2 (c142 w _ _ hs.le e3 ((hp 0 _ rfl rfl).1) ((hp 1 _ rfl rfl).1)))) (AOK.cons (fun ρ a w hs hz hΓ hp => gp (d_geq (hp 2 _ rfl rfl).1 (vI rfl))) (AOK.cons (fun ρ a w hs hz hΓ hp => gp (d_assign (hp 3 _ rfl rfl).1)) AOK.nil rfl) rfl) rfl) rfl) rfl) (fun vs2 => ?_)
  refine T.nil ?_
  refine T.norm ?_
  refine T.ret ?_
  obtain rfl := Option.some.inj hF
  refine T.fin0 fun ρ a w st => ?_
  exact ⟨_, results_one rfl rfl, (st.env 4)⟩

theorem c63 (w : World) (v0 : Value) {σ : Heap} (hσ : σ.le (snap w)) {x0 : (List Int)} {r : Int} (hF : impl_first x0 = some r) (h0 : Y26.val σ v0 x0) :
    Calls Try.prog 63 #[v0] w (Ret [] w σ ((TI .i64).sv r) []) := by
  unfold impl_first at hF
  refine start (args := [v0]) Try.func63 rfl 15 rfl [] [(0, (Y26.sv x0))] [] (sat_start _ hσ) rfl (args1 rfl h0 (args0)) ?_
  refine T.seq ?_
  refine T.region mix 1 [2] [0] [(sp ((TI .i64).sv 0))] (by kernel_rfl) (AOK.cons (fun ρ a w hs hz hΓ hp => gp (d_assign (vI rfl))) AOK.nil rfl) (fun vs1 => ?_)
  refine T.nil ?_
  refine T.norm ?_
  refine T.seq ?_
  refine T.seq ?_
  refine T.region mix 3 [5, 6, 7] [0, 1, 0] [(sp (Y26.sv x0)), (sp ((TI .i64).sv (x0.length : Int))), (sp ((TI .i64).sv 0))] (by kernel_rfl) (AOK.cons (fun ρ a w hs hz hΓ hp => gp (d_move (hΓ 0 rfl))) (AOK.cons (fun ρ a w hs hz hΓ hp => gp (d_lenR u26 (hp 0 _ rfl rfl).1)) (AOK.cons (fun ρ a w hs hz hΓ hp => gp (d_move (vI rfl))) AOK.nil rfl) rfl) rfl) (fun vs2 => ?_)
  refine T.nil ?_
  refine T.norm ?_
  obtain ⟨yl3, e4, hF⟩ := bindS hF
  refine T.joinD (ι := Int × (Unit)) (fun p => yl3 = .inl p.1) (Γ' := fun p => E []) (H' := fun p => HL []) (fun p hy => ?_) (fun hk => ?_)
  · obtain ⟨o7, _⟩ := p
    cases hy
    refine T.norm ?_
    refine T.seq ?_
    refine T.region mix 1 [2] [0] [(sp ((TI .i64).sv 0))] (by kernel_rfl) (AOK.cons (fun ρ a w hs hz hΓ hp => gp (d_assign (vI rfl))) AOK.nil rfl) (fun vs5 => ?_)
    refine T.nil ?_
    refine T.norm ?_
    refine T.ret ?_
    obtain rfl := Option.some.inj hF
    refine T.fin0 fun ρ a w st => ?_
    exact ⟨_, results_one rfl rfl, (st.env 2)⟩
  · skip
    refine T.block ?_
    refine T.loop (f := impl_first_l1 x0) (σ := Int) (Z := Unit) (fun s z => E [(5, (Y26.sv x0)), (6, ((TI .i64).sv (x0.length : Int))), (7, ((TI .i64).sv s))]) (fun s z => HL []) e4 () (fun φ h => T.toh h ⟨fun _ _ h => h, fun _ _ h => h, fun _ _ h => h, trivial⟩ trivial) (fun k s z uu3 hu3 hn3 => ?_)
    obtain ⟨s7, rfl⟩ : ∃ q, q = s := ⟨_, rfl⟩
    dsimp only [impl_first_l1] at hu3
    refine T.seq ?_
    refine T.region mix 1 [8] [0] [(sp (TB.sv (decide (s7 < (x0.length : Int)))))] (by kernel_rfl) (AOK.cons (fun ρ a w hs hz hΓ hp => gp (d_lss (hΓ 7 rfl) (hΓ 6 rfl))) AOK.nil rfl) (fun vs6 => ?_)
    refine T.nil ?_
    refine T.norm ?_
    refine T.seq ?_
    refine T.cond (b := (decide (s7 < (x0.length : Int)))) (fun _ _ h => h) (fun hc => ?_) (fun hc => ?_)
    · replace hu3 := iteT hu3 hc
      refine T.skip ?_
      refine T.norm ?_
      refine T.seq ?_
      refine T.block ?_
      refine T.seq ?_
      obtain ⟨x9, e8, hu3⟩ := bindS hu3
      refine T.region mix 3 [9, 10, 4] [0, 1, 3] [(sp ((TP (TI .i64)).sv x9)), (sp ((TI .i64).sv x9)), (sp ((TI .i64).sv x9))] (by kernel_rfl) (AOK.cons (fun ρ a w hs hz hΓ hp => gp (d_idxR u26 y2 (hΓ 5 rfl) (hΓ 7 rfl) e8)) (AOK.cons (fun ρ a w hs hz hΓ hp => gp (d_load y2 hs.le (hp 0 _ rfl rfl).1)) (AOK.cons (fun ρ a w hs hz hΓ hp => gp (d_assign (hp 1 _ rfl rfl).1)) AOK.nil rfl) rfl) rfl) (fun vs7 => ?_)
      refine T.nil ?_
      refine T.norm ?_
      refine T.seq ?_
      refine T.region mix 2 [11, 12] [0, 1] [(sp ((TI .i64).sv x9)), (sp (TB.sv (decide (x9 ≠ 0))))] (by kernel_rfl) (AOK.cons (fun ρ a w hs hz hΓ hp => gp (d_move (hΓ 4 rfl))) (AOK.cons (fun ρ a w hs hz hΓ hp => gp (d_neq (hp 0 _ rfl rfl).1 (vI rfl))) AOK.nil rfl) rfl) (fun vs9 => ?_)
      refine T.nil ?_
      refine T.norm ?_
      refine T.cond (b := (decide (x9 ≠ 0))) (fun _ _ h => h) (fun hc => ?_) (fun hc => ?_)
      · replace hu3 := iteT hu3 hc
        refine T.seq ?_
        refine T.region mix 2 [13, 2] [0, 1] [(sp ((TI .i64).sv x9)), (sp ((TI .i64).sv x9))] (by kernel_rfl) (AOK.cons (fun ρ a w hs hz hΓ hp => gp (d_move (hΓ 4 rfl))) (AOK.cons (fun ρ a w hs hz hΓ hp => gp (d_assign (hp 0 _ rfl rfl).1)) AOK.nil rfl) rfl) (fun vs10 => ?_)
        refine T.nil ?_
        refine T.norm ?_
        refine T.ret ?_
        obtain rfl := Option.some.inj hu3
        cases hn3
        obtain rfl := Option.some.inj hF
        refine T.fin0 fun ρ a w st => ?_
        exact ⟨_, results_one rfl rfl, (st.env 2)⟩
      · replace hu3 := iteF hu3 hc
        refine T.skip ?_
        refine T.fallX ?_
        refine T.norm ?_
        refine T.region mix 2 [14, 7] [0, 1] [(sp ((TI .i64).sv (IntKind.i64.wrap (s7 + 1)))), (sp ((TI .i64).sv (IntKind.i64.wrap (s7 + 1))))] (by kernel_rfl) (AOK.cons (fun ρ a w hs hz hΓ hp => gp (d_add (hΓ 7 rfl) (vI rfl))) (AOK.cons (fun ρ a w hs hz hΓ hp => gp (d_move (hp 0 _ rfl rfl).1)) AOK.nil rfl) rfl) (fun vs11 => ?_)
        refine T.nil ?_
        obtain rfl := Option.some.inj hu3
        exact T.again hn3 () (fun φ h => T.toh h ⟨fun _ _ h => h, fun _ _ h => h, fun _ _ h => h, trivial⟩ trivial)
    · replace hu3 := iteF hu3 hc
      refine T.exit ?_
      obtain rfl := Option.some.inj hu3
      repeat (first | refine T.passX ?_ | refine T.inX (by decide) ?_)
      refine T.hereX ?_
      exact T.toh (hk (s7, ()) (Eq.symm hn3)) trivial trivial

theorem c101 (w : World) (v0 : Value) {σ : Heap} (hσ : σ.le (snap w)) {x0 : Int} {r : Bool} (hF : impl_isDash x0 = some r) (h0 : (TI .i8).val σ v0 x0) :
    Calls Try.prog 101 #[v0] w (Ret [] w σ (TB.sv r) []) := by
  unfold impl_isDash at hF
  refine start (args := [v0]) Try.func101 rfl 6 rfl [] [(0, ((TI .i8).sv x0))] [] (sat_start _ hσ) rfl (args1 rfl h0 (args0)) ?_
  refine T.seq ?_
  refine T.region mix 1 [2] [0] [(sp (TB.sv false))] (by kernel_rfl) (AOK.cons (fun ρ a w hs hz hΓ hp => gp (d_assign (vB _))) AOK.nil rfl) (fun vs1 => ?_)
  refine T.nil ?_
  refine T.norm ?_
  refine T.seq ?_
  obtain ⟨x5, e3, hF⟩ := bindS hF
  refine T.region mix 4 [3, 4, 5, 2] [0, 1, 3, 7] [(sp ((TI .i8).sv x0)), (sp ((TI .i64).sv x0)), (sp (TB.sv x5)), (sp (TB.sv x5))] (by kernel_rfl) (AOK.cons (fun ρ a w hs hz hΓ hp => gp (d_move (hΓ 0 rfl))) (AOK.cons (fun ρ a w hs hz hΓ hp => gp (d_widen u82 u2 rfl (hp 0 _ rfl rfl).1)) (AOK.cons (fun ρ a w hs hz hΓ hp => gp (d_call fn72 hs.le mapA3 (c72 w _ _ _ hs.le e3 ((hp 1 _ rfl rfl).1) (vI rfl) (vI rfl)))) (AOK.cons (fun ρ a w hs hz hΓ hp => gp (d_assign (hp 2 _ rfl rfl).1)) AOK.nil rfl) rfl) rfl) rfl) (fun vs2 => ?_)
  refine T.nil ?_
  refine T.norm ?_
  refine T.ret ?_
  obtain rfl := Option.some.inj hF
  refine T.fin0 fun ρ a w st => ?_
  exact ⟨_, results_one rfl rfl, (st.env 2)⟩

theorem c106 (w : World) (v0 : Value) {σ : Heap} (hσ : σ.le (snap w)) {x0 : ((List Int) × (List Int) × Int)} {r : Bool} (hF : impl_ValidStroke x0 = some r) (h0 : Y104.val σ v0 x0) :
    Calls Try.prog 106 #[v0] w (Ret [] w σ (TB.sv r) []) := by
  unfold impl_ValidStroke at hF
  refine start (args := [v0]) Try.func106 rfl 14 rfl [] [(0, (Y104.sv x0))] [] (sat_start _ hσ) rfl (args1 rfl h0 (args0)) ?_
  refine T.seq ?_
  refine T.region mix 2 [1, 2] [0, 0] [(sp ((TP Y104).sv x0)), (sp (TB.sv false))] (by kernel_rfl) (AOK.cons (fun ρ a w hs hz hΓ hp => gp (d_box hs.le (hΓ 0 rfl))) (AOK.cons (fun ρ a w hs hz hΓ hp => gp (d_assign (vB _))) AOK.nil rfl) rfl) (fun vs1 => ?_)
  refine T.nil ?_
  refine T.norm ?_
  refine T.seq ?_
  obtain ⟨x8, e3, hF⟩ := bindS hF
  obtain ⟨x13, e5, hF⟩ := bindS hF
  obtain ⟨x12, e6⟩ : ∃ (x12 : Bool), x8 = true → impl_isDash x0.2.2 = some x12 ∧ x12 = x13 := by
    by_cases hb : x8 = true
    · replace e5 := iteT e5 hb
      obtain ⟨x12, e4, e5⟩ := bindS e5
      exact ⟨x12, fun _ => ⟨e4, Option.some.inj e5⟩⟩
    · exact ⟨default, fun h => absurd h hb⟩
  have e7 : x8 = false → false = x13 := fun h => Option.some.inj (iteF e5 h)
  refine T.region mix 12 [3, 4, 5, 6, 7, 8, 9, 10, 11, 12, 13, 2] [0, 1, 0, 4, 15, 31, 63, 127, 255, 511, 1023, 2047] [(sp ((TP Y24).sv x0.1)), (sp (Y24.sv x0.1)), (sp ((TP Y24).sv x0.2.1)), (sp (Y24.sv x0.2.1)), (sp (Y49.sv ([x0.1, x0.2.1] : List (List Int)))), (sp (TB.sv x8)), (sp (TB.sv x8)), (sp (SRel.when (x8 = true) ((TP (TI .i8)).sv x0.2.2))), (sp (SRel.when (x8 = true) ((TI .i8).sv x0.2.2))), (sp (SRel.when (x8 = true) (TB.sv x12))), (sp (TB.sv x13)), (sp (TB.sv x13))] (by kernel_rfl) (AOK.cons (fun ρ a w hs hz hΓ hp => gp (d_fieldP fa84_0 (hΓ 1 rfl) (At.fst (At.refl _ _)))) (AOK.cons (fun ρ a w hs hz hΓ hp => gp (d_load y32 hs.le (hp 0 _ rfl rfl).1)) (AOK.cons (fun ρ a w hs hz hΓ hp => gp (d_fieldP fa84_1 (hΓ 1 rfl) (At.fst (At.snd (At.refl _ _))))) (AOK.cons (fun ρ a w hs hz hΓ hp => gp (d_load y32 hs.le (hp 2 _ rfl rfl).1)) (AOK.cons (fun ρ a w hs hz hΓ hp => gp (d_buildSl hs.le u49 y32 z32 (by decide) (by decide) zc32 (Fills.part rfl (hp 1 _ rfl rfl).1 (At.nth (At.refl _ _) 0 rfl) (Fills.part rfl (hp 3 _ rfl rfl).1 (At.nth (At.refl _ _) 1 rfl) (Fills.done _))))) (AOK.cons (fun ρ a w hs hz hΓ hp => gp (d_call fn65 hs.le mapA1 (c65 w _ hs.le e3 ((hp 4 _ rfl rfl).1)))) (AOK.cons (fun ρ a w hs hz hΓ hp => gp (d_move (hp 5 _ rfl rfl).1)) (AOK.cons (fun ρ a w hs hz hΓ hp => gg (g := 6) (d := 9) hz rfl (hp 6 _ rfl rfl).1 rfl (fun hc => d_fieldP fa84_2 (hΓ 1 rfl) (At.snd (At.snd (At.refl _ _))))) (AOK.cons (fun ρ a w hs hz hΓ hp => gg (g := 6) (d := 9) hz rfl (hp 6 _ rfl rfl).1 rfl (fun hc => d_load y82 hs.le ((hp 7 _ rfl rfl).1 hc))) (AOK.cons (fun ρ a w hs hz hΓ hp => gg (g := 6) (d := 9) hz rfl (hp 6 _ rfl rfl).1 rfl (fun hc => d_call fn101 hs.le mapA1 (c101 w _ hs.le (e6 hc).1 ((hp 8 _ rfl rfl).1 hc)))) (AOK.cons (fun ρ a w hs hz hΓ hp => gp (d_pick (hp 6 _ rfl rfl).1 (fun hc => (pE ((e6 hc).2) ((hp 9 _ rfl rfl).1 hc))) (fun hc => pC (e7 hc)))) (AOK.cons (fun ρ a w hs hz hΓ hp => gp (d_assign (hp 10 _ rfl rfl).1)) AOK.nil rfl) rfl) rfl) rfl) rfl) rfl) rfl) rfl) rfl) rfl) rfl) rfl) (fun vs2 => ?_)
  refine T.nil ?_
  refine T.norm ?_
  refine T.ret ?_
  obtain rfl := Option.some.inj hF
  refine T.fin0 fun ρ a w st => ?_
  exact ⟨_, results_one rfl rfl, (st.env 2)⟩

theorem c115 (w : World) (v0 : Value) {σ : Heap} (hσ : σ.le (snap w)) {x0 : ((List Int) × (List Int) × Int)} {r : Bool} (hF : impl_strokesCode_c1 x0 = some r) (h0 : Y104.val σ v0 x0) :
    Calls Try.prog 115 #[v0] w (Ret [] w σ (TB.sv r) []) := by
  unfold impl_strokesCode_c1 at hF
  refine start (args := [v0]) Try.func115 rfl 6 rfl [] [(0, (Y104.sv x0))] [] (sat_start _ hσ) rfl (args1 rfl h0 (args0)) ?_
  refine T.seq ?_
  refine T.region mix 2 [1, 2] [0, 0] [(sp ((TP Y104).sv x0)), (sp (TB.sv false))] (by kernel_rfl) (AOK.cons (fun ρ a w hs hz hΓ hp => gp (d_box hs.le (hΓ 0 rfl))) (AOK.cons (fun ρ a w hs hz hΓ hp => gp (d_assign (vB _))) AOK.nil rfl) rfl) (fun vs1 => ?_)
  refine T.nil ?_
  refine T.norm ?_
  refine T.seq ?_
  obtain ⟨x4, e3, hF⟩ := bindS hF
  refine T.region mix 4 [3, 4, 5, 2] [0, 1, 3, 7] [(sp (Y104.sv x0)), (sp (TB.sv x4)), (sp (TB.sv (!x4))), (sp (TB.sv (!x4)))] (by kernel_rfl) (AOK.cons (fun ρ a w hs hz hΓ hp => gp (d_load y84 hs.le (hΓ 1 rfl))) (AOK.cons (fun ρ a w hs hz hΓ hp => gp (d_call fn106 hs.le mapA1 (c106 w _ hs.le e3 ((hp 0 _ rfl rfl).1)))) (AOK.cons (fun ρ a w hs hz hΓ hp => gp (d_not (hp 1 _ rfl rfl).1)) (AOK.cons (fun ρ a w hs hz hΓ hp => gp (d_assign (hp 2 _ rfl rfl).1)) AOK.nil rfl) rfl) rfl) rfl) (fun vs2 => ?_)
  refine T.nil ?_
  refine T.norm ?_
  refine T.ret ?_
  obtain rfl := Option.some.inj hF
  refine T.fin0 fun ρ a w st => ?_
  exact ⟨_, results_one rfl rfl, (st.env 2)⟩

theorem c66 (w : World) (v0 : Value) {σ : Heap} (hσ : σ.le (snap w)) {x0 : (List ((List Int) × (List Int) × Int))} {r : Int} (hF : impl_strokesCode x0 = some r) (h0 : Y22.val σ v0 x0) :
    Calls Try.prog 66 #[v0] w (Ret [] w σ ((TI .i64).sv r) []) := by
  unfold impl_strokesCode at hF
  refine start (args := [v0]) Try.func66 rfl 14 rfl [] [(0, (Y22.sv x0))] [] (sat_start _ hσ) rfl (args1 rfl h0 (args0)) ?_
  refine T.seq ?_
  refine T.region mix 1 [2] [0] [(sp ((TI .i64).sv 0))] (by kernel_rfl) (AOK.cons (fun ρ a w hs hz hΓ hp => gp (d_assign (vI rfl))) AOK.nil rfl) (fun vs1 => ?_)
  refine T.nil ?_
  refine T.norm ?_
  refine T.seq ?_
  obtain ⟨x5, e3, hF⟩ := bindS hF
  refine T.region mix 3 [4, 5, 3] [0, 1, 3] [(sp (Y22.sv x0)), (sp (TB.sv x5)), (sp (TB.sv x5))] (by kernel_rfl) (AOK.cons (fun ρ a w hs hz hΓ hp => gp (d_move (hΓ 0 rfl))) (AOK.cons (fun ρ a w hs hz hΓ hp => gp (d_call fn114 hs.le mapA2 (c114 w _ _ hs.le e3 ((hp 0 _ rfl rfl).1) (fv1 fn115 flat_TB (fun w σ u0 x0 y hσ h0 hf => c115 w _  hσ hf h0))))) (AOK.cons (fun ρ a w hs hz hΓ hp => gp (d_assign (hp 1 _ rfl rfl).1)) AOK.nil rfl) rfl) rfl) (fun vs2 => ?_)
  refine T.nil ?_
  refine T.norm ?_
  refine T.seq ?_
  obtain ⟨x7, e5, hF⟩ := bindS hF
  obtain ⟨x11, e6, hF⟩ := bindS hF
  obtain ⟨x13, e7, hF⟩ := bindS hF
  refine T.region mix 9 [6, 7, 8, 9, 10, 11, 12, 13, 2] [0, 1, 0, 4, 12, 31, 63, 127, 255] [(sp (TB.sv x5)), (sp ((TI .i64).sv x7)), (sp (Y22.sv x0)), (sp ((TI .i64).sv (x0.length : Int))), (sp (TB.sv (decide (60 < (x0.length : Int))))), (sp ((TI .i64).sv x11)), (sp (Y26.sv ([x7, x11] : List Int))), (sp ((TI .i64).sv x13)), (sp ((TI .i64).sv x13))] (by kernel_rfl) (AOK.cons (fun ρ a w hs hz hΓ hp => gp (d_move (hΓ 3 rfl))) (AOK.cons (fun ρ a w hs hz hΓ hp => gp (d_call fn64 hs.le mapA2 (c64 w _ _ hs.le e5 ((hp 0 _ rfl rfl).1) (vI rfl)))) (AOK.cons (fun ρ a w hs hz hΓ hp => gp (d_move (hΓ 0 rfl))) (AOK.cons (fun ρ a w hs hz hΓ hp => gp (d_lenR u30 (hp 2 _ rfl rfl).1)) (AOK.cons (fun ρ a w hs hz hΓ hp => gp (d_gtr (hp 3 _ rfl rfl).1 (vI rfl))) (AOK.cons (fun ρ a w hs hz hΓ hp => gp (d_call fn64 hs.le mapA2 (c64 w _ _ hs.le e6 ((hp 4 _ rfl rfl).1) (vI rfl)))) (AOK.cons (fun ρ a w hs hz hΓ hp => gp (d_buildSl hs.le u26 y2 z2 (by decide) (by decide) zc2 (Fills.part rfl (hp 1 _ rfl rfl).1 (At.nth (At.refl _ _) 0 rfl) (Fills.part rfl (hp 5 _ rfl rfl).1 (At.nth (At.refl _ _) 1 rfl) (Fills.done _))))) (AOK.cons (fun ρ a w hs hz hΓ hp => gp (d_call fn63 hs.le mapA1 (c63 w _ hs.le e7 ((hp 6 _ rfl rfl).1)))) (AOK.cons (fun ρ a w hs hz hΓ hp => gp (d_assign (hp 7 _ rfl rfl).1)) AOK.nil rfl) rfl) rfl) rfl) rfl) rfl) rfl) rfl) rfl) (fun vs4 => ?_)
  refine T.nil ?_
  refine T.norm ?_
  refine T.ret ?_
  obtain rfl := Option.some.inj hF
  refine T.fin0 fun ρ a w st => ?_
  exact ⟨_, results_one rfl rfl, (st.env 2)⟩

theorem c116 (w : World) (v0 v1 : Value) {σ : Heap} (hσ : σ.le (snap w)) {x0 : (List Int)} {x1 : Int} {r : Int} (hF : slices_Index_int64_int64 x0 x1 = some r) (h0 : Y26.val σ v0 x0) (h1 : (TI .i64).val σ v1 x1) :
    Calls Try.prog 116 #[v0, v1] w (Ret [] w σ ((TI .i64).sv r) []) := by
  unfold slices_Index_int64_int64 at hF
  refine start (args := [v0, v1]) Try.func116 rfl 19 rfl [] [(0, (Y26.sv x0)), (1, ((TI .i64).sv x1))] [] (sat_start _ hσ) rfl (args1 rfl h0 (args1 rfl h1 (args0))) ?_
  refine T.seq ?_
  refine T.region mix 1 [4] [0] [(sp ((TI .i64).sv 0))] (by kernel_rfl) (AOK.cons (fun ρ a w hs hz hΓ hp => gp (d_assign (vI rfl))) AOK.nil rfl) (fun vs1 => ?_)
  refine T.nil ?_
  refine T.norm ?_
  refine T.seq ?_
  refine T.seq ?_
  refine T.region mix 3 [6, 7, 8] [0, 1, 0] [(sp (Y26.sv x0)), (sp ((TI .i64).sv (x0.length : Int))), (sp ((TI .i64).sv 0))] (by kernel_rfl) (AOK.cons (fun ρ a w hs hz hΓ hp => gp (d_move (hΓ 0 rfl))) (AOK.cons (fun ρ a w hs hz hΓ hp => gp (d_lenR u26 (hp 0 _ rfl rfl).1)) (AOK.cons (fun ρ a w hs hz hΓ hp => gp (d_move (vI rfl))) AOK.nil rfl) rfl) rfl) (fun vs2 => ?_)
  refine T.nil ?_
  refine T.norm ?_
  obtain ⟨yl3, e4, hF⟩ := bindS hF
  refine T.joinD (ι := Int × (Unit)) (fun p => yl3 = .inl p.1) (Γ' := fun p => E []) (H' := fun p => HL []) (fun p hy => ?_) (fun hk => ?_)
  · obtain ⟨o8, _⟩ := p
    cases hy
    refine T.norm ?_
    refine T.seq ?_
    refine T.region mix 1 [4] [0] [(sp ((TI .i64).sv (-1)))] (by kernel_rfl) (AOK.cons (fun ρ a w hs hz hΓ hp => gp (d_assign (vI rfl))) AOK.nil rfl) (fun vs5 => ?_)
    refine T.nil ?_
    refine T.norm ?_
    refine T.ret ?_
    obtain rfl := Option.some.inj hF
    refine T.fin0 fun ρ a w st => ?_
    exact ⟨_, results_one rfl rfl, (st.env 4)⟩
  · skip
    refine T.block ?_
    refine T.loop (f := slices_Index_int64_int64_l1 x0 x1) (σ := Int) (Z := Unit) (fun s z => E [(0, (Y26.sv x0)), (1, ((TI .i64).sv x1)), (7, ((TI .i64).sv (x0.length : Int))), (8, ((TI .i64).sv s))]) (fun s z => HL []) e4 () (fun φ h => T.toh h ⟨fun _ _ h => h, fun _ _ h => h, fun _ _ h => h, fun _ _ h => h, trivial⟩ trivial) (fun k s z uu3 hu3 hn3 => ?_)
    obtain ⟨s8, rfl⟩ : ∃ q, q = s := ⟨_, rfl⟩
    dsimp only [slices_Index_int64_int64_l1] at hu3
    refine T.seq ?_
    refine T.region mix 1 [9] [0] [(sp (TB.sv (decide (s8 < (x0.length : Int)))))] (by kernel_rfl) (AOK.cons (fun ρ a w hs hz hΓ hp => gp (d_lss (hΓ 8 rfl) (hΓ 7 rfl))) AOK.nil rfl) (fun vs6 => ?_)
    refine T.nil ?_
    refine T.norm ?_
    refine T.seq ?_
    refine T.cond (b := (decide (s8 < (x0.length : Int)))) (fun _ _ h => h) (fun hc => ?_) (fun hc => ?_)
    · replace hu3 := iteT hu3 hc
      refine T.skip ?_
      refine T.norm ?_
      refine T.seq ?_
      refine T.block ?_
      refine T.seq ?_
      refine T.region mix 2 [10, 5] [0, 1] [(sp ((TI .i64).sv s8)), (sp ((TI .i64).sv s8))] (by kernel_rfl) (AOK.cons (fun ρ a w hs hz hΓ hp => gp (d_move (hΓ 8 rfl))) (AOK.cons (fun ρ a w hs hz hΓ hp => gp (d_assign (hp 0 _ rfl rfl).1)) AOK.nil rfl) rfl) (fun vs7 => ?_)
      refine T.nil ?_
      refine T.norm ?_
      refine T.seq ?_
      obtain ⟨x14, e9, hu3⟩ := bindS hu3
      refine T.region mix 6 [11, 12, 13, 14, 15, 16] [0, 0, 0, 6, 14, 31] [(sp ((TI .i64).sv x1)), (sp (Y26.sv x0)), (sp ((TI .i64).sv s8)), (sp ((TP (TI .i64)).sv x14)), (sp ((TI .i64).sv x14)), (sp (TB.sv (decide (x1 = x14))))] (by kernel_rfl) (AOK.cons (fun ρ a w hs hz hΓ hp => gp (d_move (hΓ 1 rfl))) (AOK.cons (fun ρ a w hs hz hΓ hp => gp (d_move (hΓ 0 rfl))) (AOK.cons (fun ρ a w hs hz hΓ hp => gp (d_move (hΓ 5 rfl))) (AOK.cons (fun ρ a w hs hz hΓ hp => gp (d_idxR u26 y2 (hp 1 _ rfl rfl).1 (hp 2 _ rfl rfl).1 e9)) (AOK.cons (fun ρ a w hs hz hΓ hp => gp (d_load y2 hs.le (hp 3 _ rfl rfl).1)) (AOK.cons (fun ρ a w hs hz hΓ hp => gp (d_eql (hp 0 _ rfl rfl).1 (hp 4 _ rfl rfl).1)) AOK.nil rfl) rfl) rfl) rfl) rfl) rfl) (fun vs8 => ?_)
      refine T.nil ?_
      refine T.norm ?_
      refine T.cond (b := (decide (x1 = x14))) (fun _ _ h => h) (fun hc => ?_) (fun hc => ?_)
      · replace hu3 := iteT hu3 hc
        refine T.seq ?_
        refine T.region mix 2 [17, 4] [0, 1] [(sp ((TI .i64).sv s8)), (sp ((TI .i64).sv s8))] (by kernel_rfl) (AOK.cons (fun ρ a w hs hz hΓ hp => gp (d_move (hΓ 5 rfl))) (AOK.cons (fun ρ a w hs hz hΓ hp => gp (d_assign (hp 0 _ rfl rfl).1)) AOK.nil rfl) rfl) (fun vs10 => ?_)
        refine T.nil ?_
        refine T.norm ?_
        refine T.ret ?_
        obtain rfl := Option.some.inj hu3
        cases hn3
        obtain rfl := Option.some.inj hF
        refine T.fin0 fun ρ a w st => ?_
        exact ⟨_, results_one rfl rfl, (st.env 4)⟩
      · replace hu3 := iteF hu3 hc
        refine T.skip ?_
        refine T.fallX ?_
        refine T.norm ?_
        refine T.region mix 2 [18, 8] [0, 1] [(sp ((TI .i64).sv (IntKind.i64.wrap (s8 + 1)))), (sp ((TI .i64).sv (IntKind.i64.wrap (s8 + 1))))] (by kernel_rfl) (AOK.cons (fun ρ a w hs hz hΓ hp => gp (d_add (hΓ 8 rfl) (vI rfl))) (AOK.cons (fun ρ a w hs hz hΓ hp => gp (d_move (hp 0 _ rfl rfl).1)) AOK.nil rfl) rfl) (fun vs11 => ?_)
        refine T.nil ?_
        obtain rfl := Option.some.inj hu3
        exact T.again hn3 () (fun φ h => T.toh h ⟨fun _ _ h => h, fun _ _ h => h, fun _ _ h => h, fun _ _ h => h, trivial⟩ trivial)
    · replace hu3 := iteF hu3 hc
      refine T.exit ?_
      obtain rfl := Option.some.inj hu3
      repeat (first | refine T.passX ?_ | refine T.inX (by decide) ?_)
      refine T.hereX ?_
      exact T.toh (hk (s8, ()) (Eq.symm hn3)) trivial trivial

theorem c67 (w : World) (v0 v1 : Value) {σ : Heap} (hσ : σ.le (snap w)) {x0 : (List Int)} {x1 : Int} {r : Bool} (hF : slices_Contains_int64_int64 x0 x1 = some r) (h0 : Y26.val σ v0 x0) (h1 : (TI .i64).val σ v1 x1) :
    Calls Try.prog 67 #[v0, v1] w (Ret [] w σ (TB.sv r) []) := by
  unfold slices_Contains_int64_int64 at hF
  refine start (args := [v0, v1]) Try.func67 rfl 9 rfl [] [(0, (Y26.sv x0)), (1, ((TI .i64).sv x1))] [] (sat_start _ hσ) rfl (args1 rfl h0 (args1 rfl h1 (args0))) ?_
  refine T.seq ?_
  refine T.region mix 1 [4] [0] [(sp (TB.sv false))] (by kernel_rfl) (AOK.cons (fun ρ a w hs hz hΓ hp => gp (d_assign (vB _))) AOK.nil rfl) (fun vs1 => ?_)
  refine T.nil ?_
  refine T.norm ?_
  refine T.seq ?_
  obtain ⟨x7, e3, hF⟩ := bindS hF
  refine T.region mix 5 [5, 6, 7, 8, 4] [0, 0, 3, 7, 15] [(sp (Y26.sv x0)), (sp ((TI .i64).sv x1)), (sp ((TI .i64).sv x7)), (sp (TB.sv (decide (0 ≤ x7)))), (sp (TB.sv (decide (0 ≤ x7))))] (by kernel_rfl) (AOK.cons (fun ρ a w hs hz hΓ hp => gp (d_move (hΓ 0 rfl))) (AOK.cons (fun ρ a w hs hz hΓ hp => gp (d_move (hΓ 1 rfl))) (AOK.cons (fun ρ a w hs hz hΓ hp => gp (d_call fn116 hs.le mapA2 (c116 w _ _ hs.le e3 ((hp 0 _ rfl rfl).1) ((hp 1 _ rfl rfl).1)))) (AOK.cons (fun ρ a w hs hz hΓ hp => gp (d_geq (hp 2 _ rfl rfl).1 (vI rfl))) (AOK.cons (fun ρ a w hs hz hΓ hp => gp (d_assign (hp 3 _ rfl rfl).1)) AOK.nil rfl) rfl) rfl) rfl) rfl) (fun vs2 => ?_)
  refine T.nil ?_
  refine T.norm ?_
  refine T.ret ?_
  obtain rfl := Option.some.inj hF
  refine T.fin0 fun ρ a w st => ?_
  exact ⟨_, results_one rfl rfl, (st.env 4)⟩

theorem c46 (w : World) (v0 v1 : Value) {σ : Heap} (hσ : σ.le (snap w)) {x0 : (List Int)} {x1 : (List Int)} {r : Int} (hF : impl_DistanceOf x0 x1 = some r) (h0 : Y24.val σ v0 x0) (h1 : Y24.val σ v1 x1) :
    Calls Try.prog 46 #[v0, v1] w (Ret [] w σ ((TI .i64).sv r) []) := by
  unfold impl_DistanceOf at hF
  refine start (args := [v0, v1]) Try.func46 rfl 28 rfl [] [(0, (Y24.sv x0)), (1, (Y24.sv x1))] [] (sat_start _ hσ) rfl (args1 rfl h0 (args1 rfl h1 (args0))) ?_
  refine T.seq ?_
  refine T.region mix 3 [2, 3, 4] [0, 0, 0] [(sp ((TP Y24).sv x0)), (sp ((TP Y24).sv x1)), (sp ((TI .i64).sv 0))] (by kernel_rfl) (AOK.cons (fun ρ a w hs hz hΓ hp => gp (d_box hs.le (hΓ 0 rfl))) (AOK.cons (fun ρ a w hs hz hΓ hp => gp (d_box hs.le (hΓ 1 rfl))) (AOK.cons (fun ρ a w hs hz hΓ hp => gp (d_assign (vI rfl))) AOK.nil rfl) rfl) rfl) (fun vs1 => ?_)
  refine T.nil ?_
  refine T.norm ?_
  refine T.seq ?_
  refine T.region mix 16 [7, 8, 9, 10, 11, 12, 13, 14, 15, 16, 17, 18, 19, 20, 5, 6] [0, 1, 3, 0, 8, 24, 63, 0, 128, 384, 0, 1024, 3072, 8064, 127, 32767] [(sp ((TP (TI .i16)).sv (nth x0 0))), (sp ((TI .i16).sv (nth x0 0))), (sp ((TI .i64).sv (nth x0 0))), (sp ((TP (TI .i16)).sv (nth x1 0))), (sp ((TI .i16).sv (nth x1 0))), (sp ((TI .i64).sv (nth x1 0))), (sp ((TI .i64).sv (IntKind.i64.wrap ((nth x0 0) - (nth x1 0))))), (sp ((TP (TI .i16)).sv (nth x0 1))), (sp ((TI .i16).sv (nth x0 1))), (sp ((TI .i64).sv (nth x0 1))), (sp ((TP (TI .i16)).sv (nth x1 1))), (sp ((TI .i16).sv (nth x1 1))), (sp ((TI .i64).sv (nth x1 1))), (sp ((TI .i64).sv (IntKind.i64.wrap ((nth x0 1) - (nth x1 1))))), (sp ((TI .i64).sv (IntKind.i64.wrap ((nth x0 0) - (nth x1 0))))), (sp ((TI .i64).sv (IntKind.i64.wrap ((nth x0 1) - (nth x1 1)))))] (by kernel_rfl) (AOK.cons (fun ρ a w hs hz hΓ hp => gp (d_idxPc .i64 0 u32 y23 (hΓ 2 rfl) rfl)) (AOK.cons (fun ρ a w hs hz hΓ hp => gp (d_load y23 hs.le (hp 0 _ rfl rfl).1)) (AOK.cons (fun ρ a w hs hz hΓ hp => gp (d_widen u23 u2 rfl (hp 1 _ rfl rfl).1)) (AOK.cons (fun ρ a w hs hz hΓ hp => gp (d_idxPc .i64 0 u32 y23 (hΓ 3 rfl) rfl)) (AOK.cons (fun ρ a w hs hz hΓ hp => gp (d_load y23 hs.le (hp 3 _ rfl rfl).1)) (AOK.cons (fun ρ a w hs hz hΓ hp => gp (d_widen u23 u2 rfl (hp 4 _ rfl rfl).1)) (AOK.cons (fun ρ a w hs hz hΓ hp => gp (d_sub (hp 2 _ rfl rfl).1 (hp 5 _ rfl rfl).1)) (AOK.cons (fun ρ a w hs hz hΓ hp => gp (d_idxPc .i64 1 u32 y23 (hΓ 2 rfl) rfl)) (AOK.cons (fun ρ a w hs hz hΓ hp => gp (d_load y23 hs.le (hp 7 _ rfl rfl).1)) (AOK.cons (fun ρ a w hs hz hΓ hp => gp (d_widen u23 u2 rfl (hp 8 _ rfl rfl).1)) (AOK.cons (fun ρ a w hs hz hΓ hp => gp (d_idxPc .i64 1 u32 y23 (hΓ 3 rfl) rfl)) (AOK.cons (fun ρ a w hs hz hΓ hp => gp (d_load y23 hs.le (hp 10 _ rfl rfl).1)) (AOK.cons (fun ρ a w hs hz hΓ hp => gp (d_widen u23 u2 rfl (hp 11 _ rfl rfl).1)) (AOK.cons (fun ρ a w hs hz hΓ hp => gp (d_sub (hp 9 _ rfl rfl).1 (hp 12 _ rfl rfl).1)) (AOK.cons (fun ρ a w hs hz hΓ hp => gp (d_assign (hp 6 _ rfl rfl).1)) (AOK.cons (fun ρ a w hs hz hΓ hp => gp (d_assign (hp 13 _ rfl rfl).1)) AOK.nil rfl) rfl) rfl) rfl) rfl) rfl) rfl) rfl) rfl) rfl) rfl) rfl) rfl) rfl) rfl) rfl) (fun vs2 => ?_)
  refine T.nil ?_
  refine T.norm ?_
  refine T.seq ?_
  refine T.region mix 8 [21, 22, 23, 24, 25, 26, 27, 4] [0, 0, 2, 0, 0, 16, 63, 127] [(sp ((TI .i64).sv (IntKind.i64.wrap ((nth x0 0) - (nth x1 0))))), (sp ((TI .i64).sv (IntKind.i64.wrap ((nth x0 0) - (nth x1 0))))), (sp ((TI .i64).sv (IntKind.i64.wrap (0 - (IntKind.i64.wrap ((nth x0 0) - (nth x1 0))))))), (sp ((TI .i64).sv (IntKind.i64.wrap ((nth x0 1) - (nth x1 1))))), (sp ((TI .i64).sv (IntKind.i64.wrap ((nth x0 1) - (nth x1 1))))), (sp ((TI .i64).sv (IntKind.i64.wrap (0 - (IntKind.i64.wrap ((nth x0 1) - (nth x1 1))))))), (sp ((TI .i64).sv (max (max (max (IntKind.i64.wrap ((nth x0 0) - (nth x1 0))) (IntKind.i64.wrap (0 - (IntKind.i64.wrap ((nth x0 0) - (nth x1 0)))))) (IntKind.i64.wrap ((nth x0 1) - (nth x1 1)))) (IntKind.i64.wrap (0 - (IntKind.i64.wrap ((nth x0 1) - (nth x1 1)))))))), (sp ((TI .i64).sv (max (max (max (IntKind.i64.wrap ((nth x0 0) - (nth x1 0))) (IntKind.i64.wrap (0 - (IntKind.i64.wrap ((nth x0 0) - (nth x1 0)))))) (IntKind.i64.wrap ((nth x0 1) - (nth x1 1)))) (IntKind.i64.wrap (0 - (IntKind.i64.wrap ((nth x0 1) - (nth x1 1))))))))] (by kernel_rfl) (AOK.cons (fun ρ a w hs hz hΓ hp => gp (d_move (hΓ 5 rfl))) (AOK.cons (fun ρ a w hs hz hΓ hp => gp (d_move (hΓ 5 rfl))) (AOK.cons (fun ρ a w hs hz hΓ hp => gp (d_neg (hp 1 _ rfl rfl).1)) (AOK.cons (fun ρ a w hs hz hΓ hp => gp (d_move (hΓ 6 rfl))) (AOK.cons (fun ρ a w hs hz hΓ hp => gp (d_move (hΓ 6 rfl))) (AOK.cons (fun ρ a w hs hz hΓ hp => gp (d_neg (hp 4 _ rfl rfl).1)) (AOK.cons (fun ρ a w hs hz hΓ hp => gp (d_max4 (hp 0 _ rfl rfl).1 (hp 2 _ rfl rfl).1 (hp 3 _ rfl rfl).1 (hp 5 _ rfl rfl).1)) (AOK.cons (fun ρ a w hs hz hΓ hp => gp (d_assign (hp 6 _ rfl rfl).1)) AOK.nil rfl) rfl) rfl) rfl) rfl) rfl) rfl) rfl) (fun vs3 => ?_)
  refine T.nil ?_
  refine T.norm ?_
  refine T.ret ?_
  obtain rfl := Option.some.inj hF
  refine T.fin0 fun ρ a w st => ?_
  exact ⟨_, results_one rfl rfl, (st.env 4)⟩

theorem c68 (w : World) (v0 v1 : Value) {σ : Heap} (hσ : σ.le (snap w)) {x0 : ((List Int) × (List Int) × Int)} {x1 : Bool} {r : ((List Int) × (List Int))} (hF : impl_Stroke_ends x0 x1 = some r) (h0 : Y104.val σ v0 x0) (h1 : TB.val σ v1 x1) :
    Calls Try.prog 68 #[v0, v1] w (Ret [] w σ (SRel.tup2 (Y24.sv r.1) (Y24.sv r.2)) []) := by
  unfold impl_Stroke_ends at hF
  refine start (args := [v0, v1]) Try.func68 rfl 15 rfl [] [(0, (Y104.sv x0)), (1, (TB.sv x1))] [] (sat_start _ hσ) rfl (args1 rfl h0 (args1 rfl h1 (args0))) ?_
  refine T.seq ?_
  refine T.region mix 3 [2, 4, 5] [0, 0, 0] [(sp ((TP Y104).sv x0)), (sO SRel.any [(1, (boxR 32 Y24 (List.replicate 2 0)))]), (sO SRel.any [(2, (boxR 32 Y24 (List.replicate 2 0)))])] (by kernel_rfl) (AOK.cons (fun ρ a w hs hz hΓ hp => gp (d_box hs.le (hΓ 0 rfl))) (AOK.cons (fun ρ a w hs hz hΓ hp => g_alloc hs.le z32 zc32) (AOK.cons (fun ρ a w hs hz hΓ hp => g_alloc hs.le z32 zc32) AOK.nil rfl) rfl) rfl) (fun vs1 => ?_)
  refine T.nil ?_
  refine T.norm ?_
  refine T.seq ?_
  refine T.seq ?_
  refine T.region mix 1 [6] [0] [(sp (TB.sv x1))] (by kernel_rfl) (AOK.cons (fun ρ a w hs hz hΓ hp => gp (d_move (hΓ 1 rfl))) AOK.nil rfl) (fun vs2 => ?_)
  refine T.nil ?_
  refine T.norm ?_
  refine T.cond (b := x1) (fun _ _ h => h) (fun hc => ?_) (fun hc => ?_)
  · replace hF := iteT hF hc
    refine T.seq ?_
    refine T.region mix 6 [7, 8, 9, 10, 19, 20] [0, 1, 0, 4, 3, 31] [(sp ((TP Y24).sv x0.2.1)), (sp (Y24.sv x0.2.1)), (sp ((TP Y24).sv x0.1)), (sp (Y24.sv x0.1)), (sT 1 (fun _ => (boxR 32 Y24 x0.2.1 (vs1 1)))), (sT 2 (fun _ => (boxR 32 Y24 x0.1 (vs1 2))))] (by kernel_rfl) (AOK.cons (fun ρ a w hs hz hΓ hp => gp (d_fieldP fa84_1 (hΓ 2 rfl) (At.fst (At.snd (At.refl _ _))))) (AOK.cons (fun ρ a w hs hz hΓ hp => gp (d_load y32 hs.le (hp 0 _ rfl rfl).1)) (AOK.cons (fun ρ a w hs hz hΓ hp => gp (d_fieldP fa84_0 (hΓ 2 rfl) (At.fst (At.refl _ _)))) (AOK.cons (fun ρ a w hs hz hΓ hp => gp (d_load y32 hs.le (hp 2 _ rfl rfl).1)) (AOK.consT (fun ρ a w hs hz hΓ hp => gt_store hs 1 y32 rfl (.inl ⟨(hΓ 4 rfl).1, rfl⟩) ((hp 1 _ rfl rfl).1) (At.refl Y24 (List.replicate 2 0)) rfl rfl) (AOK.consT (fun ρ a w hs hz hΓ hp => gt_store hs 2 y32 rfl (.inl ⟨(hΓ 5 rfl).1, rfl⟩) ((hp 3 _ rfl rfl).1) (At.refl Y24 (List.replicate 2 0)) rfl rfl) AOK.nil rfl) rfl) rfl) rfl) rfl) rfl) (fun vs3 => ?_)
    refine T.nil ?_
    refine T.norm ?_
    refine T.ret ?_
    obtain rfl := Option.some.inj hF
    refine T.fin0 fun ρ a w st => ?_
    obtain ⟨q0, hr0, hv0⟩ := rv_cell y32 st.sat 1 rfl (st.env 4).1
    obtain ⟨q1, hr1, hv1⟩ := rv_cell y32 st.sat 2 rfl (st.env 5).1
    exact ⟨_, results_two rfl hr0 hr1, ⟨_, _, rfl, hv0, hv1⟩⟩
  · replace hF := iteF hF hc
    refine T.skip ?_
    refine T.norm ?_
    refine T.seq ?_
    refine T.region mix 6 [11, 12, 13, 14, 19, 20] [0, 1, 0, 4, 3, 31] [(sp ((TP Y24).sv x0.1)), (sp (Y24.sv x0.1)), (sp ((TP Y24).sv x0.2.1)), (sp (Y24.sv x0.2.1)), (sT 1 (fun _ => (boxR 32 Y24 x0.1 (vs1 1)))), (sT 2 (fun _ => (boxR 32 Y24 x0.2.1 (vs1 2))))] (by kernel_rfl) (AOK.cons (fun ρ a w hs hz hΓ hp => gp (d_fieldP fa84_0 (hΓ 2 rfl) (At.fst (At.refl _ _)))) (AOK.cons (fun ρ a w hs hz hΓ hp => gp (d_load y32 hs.le (hp 0 _ rfl rfl).1)) (AOK.cons (fun ρ a w hs hz hΓ hp => gp (d_fieldP fa84_1 (hΓ 2 rfl) (At.fst (At.snd (At.refl _ _))))) (AOK.cons (fun ρ a w hs hz hΓ hp => gp (d_load y32 hs.le (hp 2 _ rfl rfl).1)) (AOK.consT (fun ρ a w hs hz hΓ hp => gt_store hs 1 y32 rfl (.inl ⟨(hΓ 4 rfl).1, rfl⟩) ((hp 1 _ rfl rfl).1) (At.refl Y24 (List.replicate 2 0)) rfl rfl) (AOK.consT (fun ρ a w hs hz hΓ hp => gt_store hs 2 y32 rfl (.inl ⟨(hΓ 5 rfl).1, rfl⟩) ((hp 3 _ rfl rfl).1) (At.refl Y24 (List.replicate 2 0)) rfl rfl) AOK.nil rfl) rfl) rfl) rfl) rfl) rfl) (fun vs4 => ?_)
    refine T.nil ?_
    refine T.norm ?_
    refine T.ret ?_
    obtain rfl := Option.some.inj hF
    refine T.fin0 fun ρ a w st => ?_
    obtain ⟨q0, hr0, hv0⟩ := rv_cell y32 st.sat 1 rfl (st.env 4).1
    obtain ⟨q1, hr1, hv1⟩ := rv_cell y32 st.sat 2 rfl (st.env 5).1
    exact ⟨_, results_two rfl hr0 hr1, ⟨_, _, rfl, hv0, hv1⟩⟩

theorem c14 (w : World) (v0 v1 : Value) {σ : Heap} (hσ : σ.le (snap w)) {x0 : (List ((List Int) × (List Int) × Int))} {x1 : (List Int)} {r : ((List Int) × (List Bool) × Int)} (hF : impl_OrderStrokes x0 x1 = some r) (h0 : Y22.val σ v0 x0) (h1 : Y24.val σ v1 x1) :
    Calls Try.prog 14 #[v0, v1] w (Ret [] w σ (SRel.tup3 SRel.any SRel.any ((TI .i64).sv r.2.2)) [fun v => slR 2 (TI .i64) r.1 (comp 0 v), fun v => slR 4 TB r.2.1 (comp 1 v)]) := by
  unfold impl_OrderStrokes at hF
  refine start (args := [v0, v1]) Try.func14 rfl 92 rfl [] [(0, (Y22.sv x0)), (1, (Y24.sv x1))] [] (sat_start _ hσ) rfl (args1 rfl h0 (args1 rfl h1 (args0))) ?_
  refine T.seq ?_
  refine T.region mix 4 [3, 4, 5, 6] [0, 0, 2, 6] [(sp ((TP Y24).sv x1)), (sO SRel.any [(1, (slR 2 (TI .i64) []))]), (sO SRel.any [(2, (slR 4 TB []))]), (sp ((TI .i64).sv 0))] (by kernel_rfl) (AOK.cons (fun ρ a w hs hz hΓ hp => gp (d_box hs.le (hΓ 1 rfl))) (AOK.cons (fun ρ a w hs hz hΓ hp => g_nilSl) (AOK.cons (fun ρ a w hs hz hΓ hp => g_nilSl) (AOK.cons (fun ρ a w hs hz hΓ hp => gp (d_assign (vI rfl))) AOK.nil rfl) rfl) rfl) rfl) (fun vs1 => ?_)
  refine T.nil ?_
  refine T.norm ?_
  refine T.seq ?_
  refine T.seq ?_
  obtain ⟨x21, e3, hF⟩ := bindS hF
  obtain ⟨x23, e4, hF⟩ := bindS hF
  obtain ⟨x25, e5, hF⟩ := bindS hF
  obtain ⟨x27, e6, hF⟩ := bindS hF
  refine T.region mix 10 [19, 20, 21, 22, 23, 24, 25, 26, 27, 7] [0, 1, 3, 7, 15, 0, 63, 127, 255, 511] [(sp (Y24.sv x1)), (sp (Y49.sv ([x1] : List (List Int)))), (sp (TB.sv x21)), (sp (TB.sv (!x21))), (sp ((TI .i64).sv x23)), (sp (Y22.sv x0)), (sp ((TI .i64).sv x25)), (sp (Y26.sv ([x23, x25] : List Int))), (sp ((TI .i64).sv x27)), (sp ((TI .i64).sv x27))] (by kernel_rfl) (AOK.cons (fun ρ a w hs hz hΓ hp => gp (d_load y32 hs.le (hΓ 3 rfl))) (AOK.cons (fun ρ a w hs hz hΓ hp => gp (d_buildSl hs.le u49 y32 z32 (by decide) (by decide) zc32 (Fills.part rfl (hp 0 _ rfl rfl).1 (At.nth (At.refl _ _) 0 rfl) (Fills.done _)))) (AOK.cons (fun ρ a w hs hz hΓ hp => gp (d_call fn65 hs.le mapA1 (c65 w _ hs.le e3 ((hp 1 _ rfl rfl).1)))) (AOK.cons (fun ρ a w hs hz hΓ hp => gp (d_not (hp 2 _ rfl rfl).1)) (AOK.cons (fun ρ a w hs hz hΓ hp => gp (d_call fn64 hs.le mapA2 (c64 w _ _ hs.le e4 ((hp 3 _ rfl rfl).1) (vI rfl)))) (AOK.cons (fun ρ a w hs hz hΓ hp => gp (d_move (hΓ 0 rfl))) (AOK.cons (fun ρ a w hs hz hΓ hp => gp (d_call fn66 hs.le mapA1 (c66 w _ hs.le e5 ((hp 5 _ rfl rfl).1)))) (AOK.cons (fun ρ a w hs hz hΓ hp => gp (d_buildSl hs.le u26 y2 z2 (by decide) (by decide) zc2 (Fills.part rfl (hp 4 _ rfl rfl).1 (At.nth (At.refl _ _) 0 rfl) (Fills.part rfl (hp 6 _ rfl rfl).1 (At.nth (At.refl _ _) 1 rfl) (Fills.done _))))) (AOK.cons (fun ρ a w hs hz hΓ hp => gp (d_call fn63 hs.le mapA1 (c63 w _ hs.le e6 ((hp 7 _ rfl rfl).1)))) (AOK.cons (fun ρ a w hs hz hΓ hp => gp (d_assign (hp 8 _ rfl rfl).1)) AOK.nil rfl) rfl) rfl) rfl) rfl) rfl) rfl) rfl) rfl) rfl) (fun vs2 => ?_)
  refine T.nil ?_
  refine T.norm ?_
  refine T.seq ?_
  refine T.region mix 2 [28, 29] [0, 1] [(sp ((TI .i64).sv x27)), (sp (TB.sv (decide (x27 ≠ 0))))] (by kernel_rfl) (AOK.cons (fun ρ a w hs hz hΓ hp => gp (d_move (hΓ 7 rfl))) (AOK.cons (fun ρ a w hs hz hΓ hp => gp (d_neq (hp 0 _ rfl rfl).1 (vI rfl))) AOK.nil rfl) rfl) (fun vs7 => ?_)
  refine T.nil ?_
  refine T.norm ?_
  refine T.cond (b := (decide (x27 ≠ 0))) (fun _ _ h => h) (fun hc => ?_) (fun hc => ?_)
  · replace hF := iteT hF hc
    refine T.seq ?_
    refine T.region mix 4 [30, 4, 5, 6] [0, 0, 2, 7] [(sp ((TI .i64).sv x27)), (sO SRel.any [(3, (slR 2 (TI .i64) []))]), (sO SRel.any [(4, (slR 4 TB []))]), (sp ((TI .i64).sv x27))] (by kernel_rfl) (AOK.cons (fun ρ a w hs hz hΓ hp => gp (d_move (hΓ 7 rfl))) (AOK.cons (fun ρ a w hs hz hΓ hp => g_nilSl) (AOK.cons (fun ρ a w hs hz hΓ hp => g_nilSl) (AOK.cons (fun ρ a w hs hz hΓ hp => gp (d_assign (hp 0 _ rfl rfl).1)) AOK.nil rfl) rfl) rfl) rfl) (fun vs8 => ?_)
    refine T.nil ?_
    refine T.norm ?_
    refine T.ret ?_
    obtain rfl := Option.some.inj hF
    refine T.fin fun ρ a w st => ?_
    exact ⟨_, results_three rfl rfl rfl rfl, ⟨_, _, _, rfl, trivial, trivial, (st.env 6)⟩, own2 (own_at (id := 3) (st.env 4).1 rfl) (own_at (id := 4) (st.env 5).1 rfl), apart2 rfl (own_at (id := 3) (st.env 4).1 rfl) (own_at (id := 4) (st.env 5).1 rfl)⟩
  · replace hF := iteF hF hc
    refine T.skip ?_
    refine T.norm ?_
    refine T.seq ?_
    refine T.region mix 6 [31, 32, 33, 10, 8, 9] [0, 0, 0, 0, 9, 27, 63] [(sO SRel.any [(5, (slR 2 (TI .i64) ([] : List Int)))]), (sO SRel.any [(6, (slR 4 TB ([] : List Bool)))]), (sp (Y24.sv x1)), (sO SRel.any [(7, (boxR 32 Y24 (List.replicate 2 0)))]), (al 0 (id)), (al 1 (id))] (by kernel_rfl) (AOK.cons (fun ρ a w hs hz hΓ hp => g_buildSl hs.le u26 y2 z2 (by decide) (by decide) zc2 (Fills.done _)) (AOK.cons (fun ρ a w hs hz hΓ hp => g_buildSl hs.le u27 y4 z4 (by decide) (by decide) zc4 (Fills.done _)) (AOK.cons (fun ρ a w hs hz hΓ hp => gp (d_load y32 hs.le (hΓ 3 rfl))) (AOK.cons (fun ρ a w hs hz hΓ hp => g_alloc hs.le z32 zc32) (AOK.cons (fun ρ a w hs hz hΓ hp => al_assign rfl) (AOK.cons (fun ρ a w hs hz hΓ hp => al_assign rfl) AOK.nil rfl) rfl) rfl) rfl) rfl) rfl) (fun vs9 => ?_)
    refine T.store 7 y32 rfl (fun ρ a w st => ⟨.inl ⟨(st.env 10).1, rfl⟩, (st.env 33)⟩) (At.refl Y24 (List.replicate 2 0)) ?_
    refine T.nil ?_
    refine T.norm ?_
    refine T.seq ?_
    obtain ⟨yl10, e11, hF⟩ := bindS hF
    refine T.joinD (ι := ((List Int) × (List Bool) × (List Int)) × (Value × Value)) (fun p => yl10 = p.1) (Γ' := fun p => E [(8, (SRel.eq p.2.1)), (9, (SRel.eq p.2.2))]) (H' := fun p => HL [(5, (slR 2 (TI .i64) p.1.1 p.2.1)), (6, (slR 4 TB p.1.2.1 p.2.2)), (7, (boxR 32 Y24 p.1.2.2 (vs9 3)))]) (fun p hy => ?_) (fun hk => ?_)
    · obtain ⟨⟨or5, or6, or7⟩, ⟨z5_12, z6_13⟩⟩ := p
      cases hy
      refine T.norm ?_
      refine T.seq ?_
      refine T.region mix 5 [90, 91, 4, 5, 6] [0, 0, 1, 7, 15] [(sp (SRel.eq z5_12)), (sp (SRel.eq z6_13)), (sp (SRel.eq z5_12)), (sp (SRel.eq z6_13)), (sp ((TI .i64).sv 0))] (by kernel_rfl) (AOK.cons (fun ρ a w hs hz hΓ hp => gp (d_move (hΓ 8 rfl))) (AOK.cons (fun ρ a w hs hz hΓ hp => gp (d_move (hΓ 9 rfl))) (AOK.cons (fun ρ a w hs hz hΓ hp => gp (d_assign (hp 0 _ rfl rfl).1)) (AOK.cons (fun ρ a w hs hz hΓ hp => gp (d_assign (hp 1 _ rfl rfl).1)) (AOK.cons (fun ρ a w hs hz hΓ hp => gp (d_assign (vI rfl))) AOK.nil rfl) rfl) rfl) rfl) rfl) (fun vs14 => ?_)
      refine T.nil ?_
      refine T.norm ?_
      refine T.ret ?_
      obtain rfl := Option.some.inj hF
      refine T.fin fun ρ a w st => ?_
      exact ⟨_, results_three rfl rfl rfl rfl, ⟨_, _, _, rfl, trivial, trivial, (st.env 6)⟩, own2 (own_at (id := 5) (st.env 4) rfl) (own_at (id := 6) (st.env 5) rfl), apart2 rfl (own_at (id := 5) (st.env 4) rfl) (own_at (id := 6) (st.env 5) rfl)⟩
    · skip
      refine T.block ?_
      refine T.loop (f := impl_OrderStrokes_l1 x0) (σ := ((List Int) × (List Bool) × (List Int))) (Z := Value × Value) (fun s z => E [(0, (Y22.sv x0)), (8, (SRel.eq z.1)), (9, (SRel.eq z.2)), (10, (SRel.eq (vs9 3)))]) (fun s z => HL [(5, (slR 2 (TI .i64) s.1 z.1)), (6, (slR 4 TB s.2.1 z.2)), (7, (boxR 32 Y24 s.2.2 (vs9 3)))]) e11 ((vs9 0), (vs9 1)) (fun φ h => T.toh h ⟨fun _ _ h => h, fun _ _ h => h, fun _ _ h => h, fun _ _ h => h.1, trivial⟩ ⟨rfl, rfl, rfl, trivial⟩) (fun k s z uu10 hu10 hn10 => ?_)
      obtain ⟨sr5, sr6, sr7⟩ := s
      obtain ⟨z5, z6⟩ := z
      dsimp only [impl_OrderStrokes_l1] at hu10
      refine T.seq ?_
      refine T.seq ?_
      refine T.region mix 5 [34, 35, 36, 37, 38] [0, 1, 0, 4, 15] [(sp (SRel.eq z5)), (sp ((TI .i64).sv (sr5.length : Int))), (sp (Y22.sv x0)), (sp ((TI .i64).sv (x0.length : Int))), (sp (TB.sv (decide ((sr5.length : Int) < (x0.length : Int)))))] (by kernel_rfl) (AOK.cons (fun ρ a w hs hz hΓ hp => gp (d_move (hΓ 8 rfl))) (AOK.cons (fun ρ a w hs hz hΓ hp => gp (d_lenS u26 hs 5 rfl (hp 0 _ rfl rfl).1)) (AOK.cons (fun ρ a w hs hz hΓ hp => gp (d_move (hΓ 0 rfl))) (AOK.cons (fun ρ a w hs hz hΓ hp => gp (d_lenR u30 (hp 2 _ rfl rfl).1)) (AOK.cons (fun ρ a w hs hz hΓ hp => gp (d_lss (hp 1 _ rfl rfl).1 (hp 3 _ rfl rfl).1)) AOK.nil rfl) rfl) rfl) rfl) rfl) (fun vs15 => ?_)
      refine T.nil ?_
      refine T.norm ?_
      refine T.cond (b := (decide ((sr5.length : Int) < (x0.length : Int)))) (fun _ _ h => h) (fun hc => ?_) (fun hc => ?_)
      · replace hu10 := iteT hu10 hc
        refine T.skip ?_
        refine T.norm ?_
        refine T.block ?_
        refine T.seq ?_
        refine T.region mix 3 [11, 12, 13] [0, 1, 3] [(sp ((TI .i64).sv (-1))), (sp (TB.sv false)), (sp ((TI .i64).sv 0))] (by kernel_rfl) (AOK.cons (fun ρ a w hs hz hΓ hp => gp (d_assign (vI rfl))) (AOK.cons (fun ρ a w hs hz hΓ hp => gp (d_assign (vB _))) (AOK.cons (fun ρ a w hs hz hΓ hp => gp (d_assign (vI rfl))) AOK.nil rfl) rfl) rfl) (fun vs16 => ?_)
        refine T.nil ?_
        refine T.norm ?_
        refine T.seq ?_
        refine T.seq ?_
        refine T.region mix 3 [39, 40, 41] [0, 1, 0] [(sp (Y22.sv x0)), (sp ((TI .i64).sv (x0.length : Int))), (sp ((TI .i64).sv 0))] (by kernel_rfl) (AOK.cons (fun ρ a w hs hz hΓ hp => gp (d_move (hΓ 0 rfl))) (AOK.cons (fun ρ a w hs hz hΓ hp => gp (d_lenR u30 (hp 0 _ rfl rfl).1)) (AOK.cons (fun ρ a w hs hz hΓ hp => gp (d_move (vI rfl))) AOK.nil rfl) rfl) rfl) (fun vs17 => ?_)
        refine T.nil ?_
        refine T.norm ?_
        obtain ⟨yl18, e19, hu10⟩ := bindS hu10
        refine T.joinD (ι := (Int × Bool × Int × Int) × (Unit)) (fun p => yl18 = p.1) (Γ' := fun p => E [(0, (Y22.sv x0)), (8, (SRel.eq z5)), (9, (SRel.eq z6)), (10, (SRel.eq (vs9 3))), (11, ((TI .i64).sv p.1.1)), (12, (TB.sv p.1.2.1))]) (H' := fun p => HL [(5, (slR 2 (TI .i64) sr5 z5)), (6, (slR 4 TB sr6 z6)), (7, (boxR 32 Y24 sr7 (vs9 3)))]) (fun p hy => ?_) (fun hk => ?_)
        · obtain ⟨⟨o11, o12, o13, o41⟩, _⟩ := p
          cases hy
          refine T.norm ?_
          refine T.seq ?_
          obtain ⟨x76, e21, hu10⟩ := bindS hu10
          obtain ⟨x79, e22, hu10⟩ := bindS hu10
          refine T.region mix 9 [74, 75, 76, 77, 78, 79, 73, 80, 81] [0, 0, 3, 7, 0, 31, 63, 127, 127, 511] [(sp (Y22.sv x0)), (sp ((TI .i64).sv o11)), (sp ((TP Y104).sv x76)), (sp (Y104.sv x76)), (sp (TB.sv o12)), (sp (SRel.tup2 (Y24.sv x79.1) (Y24.sv x79.2))), (sp (SRel.tup2 (Y24.sv x79.1) (Y24.sv x79.2))), (sp (Y24.sv x79.1)), (sp (Y24.sv x79.2))] (by kernel_rfl) (AOK.cons (fun ρ a w hs hz hΓ hp => gp (d_move (hΓ 0 rfl))) (AOK.cons (fun ρ a w hs hz hΓ hp => gp (d_move (hΓ 11 rfl))) (AOK.cons (fun ρ a w hs hz hΓ hp => gp (d_idxR u30 y84 (hp 0 _ rfl rfl).1 (hp 1 _ rfl rfl).1 e21)) (AOK.cons (fun ρ a w hs hz hΓ hp => gp (d_load y84 hs.le (hp 2 _ rfl rfl).1)) (AOK.cons (fun ρ a w hs hz hΓ hp => gp (d_move (hΓ 12 rfl))) (AOK.cons (fun ρ a w hs hz hΓ hp => gp (d_call fn68 hs.le mapA2 (c68 w _ _ hs.le e22 ((hp 3 _ rfl rfl).1) ((hp 4 _ rfl rfl).1)))) (AOK.cons (fun ρ a w hs hz hΓ hp => gp (d_move (hp 5 _ rfl rfl).1)) (AOK.cons (fun ρ a w hs hz hΓ hp => gp (d_extract2_0 (hp 6 _ rfl rfl).1)) (AOK.cons (fun ρ a w hs hz hΓ hp => gp (d_extract2_1 (hp 6 _ rfl rfl).1)) AOK.nil rfl) rfl) rfl) rfl) rfl) rfl) rfl) rfl) rfl) (fun vs20 => ?_)
          refine T.store 7 y32 rfl (fun ρ a w st => ⟨.inl ⟨(st.env 10), rfl⟩, (st.env 81)⟩) (At.refl Y24 sr7) ?_
          refine T.nil ?_
          refine T.norm ?_
          refine T.region mix 3 [82, 83, 84] [0, 0, 2, 7, 0, 0, 32, 127, 255, 511] [(sp (SRel.eq z5)), (sp ((TI .i64).sv o11)), (sp (Y26.sv ([o11] : List Int)))] (by kernel_rfl) (AOK.cons (fun ρ a w hs hz hΓ hp => gp (d_move (hΓ 8 rfl))) (AOK.cons (fun ρ a w hs hz hΓ hp => gp (d_move (hΓ 11 rfl))) (AOK.cons (fun ρ a w hs hz hΓ hp => gp (d_buildSl hs.le u26 y2 z2 (by decide) (by decide) zc2 (Fills.part rfl (hp 1 _ rfl rfl).1 (At.nth (At.refl _ _) 0 rfl) (Fills.done _)))) AOK.nil rfl) rfl) rfl) (fun vs23 => ?_)
          obtain ⟨x85, e24, hu10⟩ := bindS hu10
          obtain ⟨e24l, rfl⟩ := app_get e24
          refine T.append 5 rfl u26 i2 rfl rfl (fun ρ a w st => ⟨(st.env 82), (cells_ro (by decide) st.sat.le (st.env 84))⟩) e24l (fun v85 => ?_)
          refine T.does (R := (SRel.eq z6)) rfl (fun ρ a w st => have hs := st.sat; d_move (st.env 9)) ?_
          refine T.does (R := (TB.sv o12)) rfl (fun ρ a w st => have hs := st.sat; d_move (st.env 12)) ?_
          refine T.does (R := (Y27.sv ([o12] : List Bool))) rfl (fun ρ a w st => have hs := st.sat; d_buildSl hs.le u27 y4 z4 (by decide) (by decide) zc4 (Fills.part rfl (st.env 87) (At.nth (At.refl _ _) 0 rfl) (Fills.done _))) ?_
          obtain ⟨x89, e25, hu10⟩ := bindS hu10
          obtain ⟨e25l, rfl⟩ := app_get e25
          refine T.append 6 rfl u27 i4 rfl rfl (fun ρ a w st => ⟨(st.env 86), (cells_ro (by decide) st.sat.le (st.env 88))⟩) e25l (fun v89 => ?_)
          refine T.does (R := (SRel.eq v85)) rfl (fun ρ a w st => have hs := st.sat; d_assign (st.env 85)) ?_
          refine T.does (R := (SRel.eq v89)) rfl (fun ρ a w st => have hs := st.sat; d_assign (st.env 89)) ?_
          refine T.nil ?_
          refine T.fallX ?_
          obtain rfl := Option.some.inj hu10
          exact T.again hn10 (v85, v89) (fun φ h => T.toh h ⟨fun _ _ h => h, fun _ _ h => h, fun _ _ h => h, fun _ _ h => h, trivial⟩ ⟨rfl, rfl, rfl, trivial⟩)
        · skip
          refine T.block ?_
          refine T.loop (f := impl_OrderStrokes_l2 x0 sr5 sr7) (σ := (Int × Bool × Int × Int)) (Z := Unit) (fun s z => E [(0, (Y22.sv x0)), (8, (SRel.eq z5)), (9, (SRel.eq z6)), (10, (SRel.eq (vs9 3))), (11, ((TI .i64).sv s.1)), (12, (TB.sv s.2.1)), (13, ((TI .i64).sv s.2.2.1)), (39, (Y22.sv x0)), (40, ((TI .i64).sv (x0.length : Int))), (41, ((TI .i64).sv s.2.2.2))]) (fun s z => HL [(5, (slR 2 (TI .i64) sr5 z5)), (6, (slR 4 TB sr6 z6)), (7, (boxR 32 Y24 sr7 (vs9 3)))]) e19 () (fun φ h => T.toh h ⟨fun _ _ h => h, fun _ _ h => h, fun _ _ h => h, fun _ _ h => h, fun _ _ h => h, fun _ _ h => h, fun _ _ h => h, fun _ _ h => h, fun _ _ h => h, fun _ _ h => h, trivial⟩ ⟨rfl, rfl, rfl, trivial⟩) (fun k s z uu18 hu18 hn18 => ?_)
          obtain ⟨s11, s12, s13, s41⟩ := s
          dsimp only [impl_OrderStrokes_l2] at hu18
          refine T.seq ?_
          refine T.region mix 1 [42] [0] [(sp (TB.sv (decide (s41 < (x0.length : Int)))))] (by kernel_rfl) (AOK.cons (fun ρ a w hs hz hΓ hp => gp (d_lss (hΓ 41 rfl) (hΓ 40 rfl))) AOK.nil rfl) (fun vs26 => ?_)
          refine T.nil ?_
          refine T.norm ?_
          refine T.seq ?_
          refine T.cond (b := (decide (s41 < (x0.length : Int)))) (fun _ _ h => h) (fun hc => ?_) (fun hc => ?_)
          · replace hu18 := iteT hu18 hc
            refine T.skip ?_
            refine T.norm ?_
            refine T.seq ?_
            refine T.joinD (ι := (Int × Bool × Int) × (Unit)) (fun p => impl_OrderStrokes_k1 s41 p.1 = some uu18) (Γ' := fun p => E [(0, (Y22.sv x0)), (8, (SRel.eq z5)), (9, (SRel.eq z6)), (10, (SRel.eq (vs9 3))), (11, ((TI .i64).sv p.1.1)), (12, (TB.sv p.1.2.1)), (13, ((TI .i64).sv p.1.2.2)), (39, (Y22.sv x0)), (40, ((TI .i64).sv (x0.length : Int))), (41, ((TI .i64).sv s41))]) (H' := fun p => HL [(5, (slR 2 (TI .i64) sr5 z5)), (6, (slR 4 TB sr6 z6)), (7, (boxR 32 Y24 sr7 (vs9 3)))]) (fun p hy => ?_) (fun hk27 => ?_)
            · obtain ⟨⟨j11, j12, j13⟩, _⟩ := p
              replace hu18 := hy
              dsimp only [impl_OrderStrokes_k1] at hu18
              refine T.norm ?_
              refine T.region mix 2 [72, 41] [0, 1] [(sp ((TI .i64).sv (IntKind.i64.wrap (s41 + 1)))), (sp ((TI .i64).sv (IntKind.i64.wrap (s41 + 1))))] (by kernel_rfl) (AOK.cons (fun ρ a w hs hz hΓ hp => gp (d_add (hΓ 41 rfl) (vI rfl))) (AOK.cons (fun ρ a w hs hz hΓ hp => gp (d_move (hp 0 _ rfl rfl).1)) AOK.nil rfl) rfl) (fun vs28 => ?_)
              refine T.nil ?_
              obtain rfl := Option.some.inj hu18
              exact T.again hn18 () (fun φ h => T.toh h ⟨fun _ _ h => h, fun _ _ h => h, fun _ _ h => h, fun _ _ h => h, fun _ _ h => h, fun _ _ h => h, fun _ _ h => h, fun _ _ h => h, fun _ _ h => h, fun _ _ h => h, trivial⟩ ⟨rfl, rfl, rfl, trivial⟩)
            · skip
              refine T.block ?_
              refine T.seq ?_
              obtain ⟨x44, e30, hu18⟩ := bindS hu18
              refine T.region mix 5 [43, 44, 45, 15, 14] [0, 0, 2, 0, 15, 31] [(sp ((TI .i64).sv s41)), (sp ((TP Y104).sv x44)), (sp (Y104.sv x44)), (sO SRel.any [(8, (boxR 84 Y104 ((List.replicate 2 0), (List.replicate 2 0), 0)))]), (sp ((TI .i64).sv s41))] (by kernel_rfl) (AOK.cons (fun ρ a w hs hz hΓ hp => gp (d_move (hΓ 41 rfl))) (AOK.cons (fun ρ a w hs hz hΓ hp => gp (d_idxR u30 y84 (hΓ 39 rfl) (hΓ 41 rfl) e30)) (AOK.cons (fun ρ a w hs hz hΓ hp => gp (d_load y84 hs.le (hp 1 _ rfl rfl).1)) (AOK.cons (fun ρ a w hs hz hΓ hp => g_alloc hs.le z84 zc84) (AOK.cons (fun ρ a w hs hz hΓ hp => gp (d_assign (hp 0 _ rfl rfl).1)) AOK.nil rfl) rfl) rfl) rfl) rfl) (fun vs29 => ?_)
              refine T.store 8 y84 rfl (fun ρ a w st => ⟨.inl ⟨(st.env 15).1, rfl⟩, (st.env 45)⟩) (At.refl Y104 ((List.replicate 2 0), (List.replicate 2 0), 0)) ?_
              refine T.nil ?_
              refine T.norm ?_
              refine T.seq ?_
              refine T.seq ?_
              obtain ⟨x48, e32, hu18⟩ := bindS hu18
              refine T.region mix 3 [46, 47, 48] [0, 0, 3] [(sp (SRel.eq z5)), (sp ((TI .i64).sv s41)), (sp (TB.sv x48))] (by kernel_rfl) (AOK.cons (fun ρ a w hs hz hΓ hp => gp (d_move (hΓ 8 rfl))) (AOK.cons (fun ρ a w hs hz hΓ hp => gp (d_move (hΓ 14 rfl))) (AOK.cons (fun ρ a w hs hz hΓ hp => gp (d_callF fn67 (loose_sv flat_TB) mapA2 (c67 w _ _ (Heap.le_refl _) e32 (sl_ro hs 5 rfl (hp 0 _ rfl rfl).1) (Ty.val_mono _ hs.le (hp 1 _ rfl rfl).1)))) AOK.nil rfl) rfl) rfl) (fun vs31 => ?_)
              refine T.nil ?_
              refine T.norm ?_
              refine T.cond (b := x48) (fun _ _ h => h) (fun hc => ?_) (fun hc => ?_)
              · replace hu18 := iteT hu18 hc
                refine T.exit ?_
                repeat (first | refine T.passX ?_ | refine T.inX (by decide) ?_)
                refine T.hereX ?_
                exact T.toh (hk27 ((s11, s12, s13), ()) hu18) ⟨fun _ _ h => h, fun _ _ h => h, fun _ _ h => h, fun _ _ h => h, fun _ _ h => h, fun _ _ h => h, fun _ _ h => h, fun _ _ h => h, fun _ _ h => h, fun _ _ h => h, trivial⟩ ⟨rfl, rfl, rfl, trivial⟩
              · replace hu18 := iteF hu18 hc
                refine T.skip ?_
                refine T.norm ?_
                refine T.seq ?_
                obtain ⟨x52, e34, hu18⟩ := bindS hu18
                obtain ⟨x56, e35, hu18⟩ := bindS hu18
                refine T.region mix 10 [49, 50, 51, 52, 53, 54, 55, 56, 16, 17] [0, 0, 2, 7, 0, 0, 32, 127, 255, 511] [(sp (Y24.sv sr7)), (sp (SRel.eq (at_ (vs29 3) (0 + 0)))), (sp (Y24.sv x44.1)), (sp ((TI .i64).sv x52)), (sp (Y24.sv sr7)), (sp (SRel.eq (at_ (vs29 3) (0 + 2)))), (sp (Y24.sv x44.2.1)), (sp ((TI .i64).sv x56)), (sp ((TI .i64).sv x52)), (sp ((TI .i64).sv x56))] (by kernel_rfl) (AOK.cons (fun ρ a w hs hz hΓ hp => gp (d_loadO y32 hs 7 rfl (.inl ⟨(hΓ 10 rfl), rfl⟩) (At.refl Y24 sr7))) (AOK.cons (fun ρ a w hs hz hΓ hp => gp (d_fieldO fa84_0 hs 8 rfl (.inl ⟨(hΓ 15 rfl).1, rfl⟩))) (AOK.cons (fun ρ a w hs hz hΓ hp => gp (d_loadO y32 hs 8 rfl (.inr (hp 1 _ rfl rfl).1) (At.fst (At.refl Y104 x44)))) (AOK.cons (fun ρ a w hs hz hΓ hp => gp (d_call fn46 hs.le mapA2 (c46 w _ _ hs.le e34 ((hp 0 _ rfl rfl).1) ((hp 2 _ rfl rfl).1)))) (AOK.cons (fun ρ a w hs hz hΓ hp => gp (d_loadO y32 hs 7 rfl (.inl ⟨(hΓ 10 rfl), rfl⟩) (At.refl Y24 sr7))) (AOK.cons (fun ρ a w hs hz hΓ hp => gp (d_fieldO fa84_1 hs 8 rfl (.inl ⟨(hΓ 15 rfl).1, rfl⟩))) (AOK.cons (fun ρ a w hs hz hΓ hp => gp (d_loadO y32 hs 8 rfl (.inr (hp 5 _ rfl rfl).1) (At.fst (At.snd (At.refl Y104 x44))))) (AOK.cons (fun ρ a w hs hz hΓ hp => gp (d_call fn46 hs.le mapA2 (c46 w _ _ hs.le e35 ((hp 4 _ rfl rfl).1) ((hp 6 _ rfl rfl).1)))) (AOK.cons (fun ρ a w hs hz hΓ hp => gp (d_assign (hp 3 _ rfl rfl).1)) (AOK.cons (fun ρ a w hs hz hΓ hp => gp (d_assign (hp 7 _ rfl rfl).1)) AOK.nil rfl) rfl) rfl) rfl) rfl) rfl) rfl) rfl) rfl) rfl) (fun vs33 => ?_)
                refine T.nil ?_
                refine T.norm ?_
                refine T.seq ?_
                refine T.region mix 4 [57, 58, 59, 18] [0, 0, 3, 7] [(sp ((TI .i64).sv x52)), (sp ((TI .i64).sv x56)), (sp ((TI .i64).sv (min x52 x56))), (sp ((TI .i64).sv (min x52 x56)))] (by kernel_rfl) (AOK.cons (fun ρ a w hs hz hΓ hp => gp (d_move (hΓ 16 rfl))) (AOK.cons (fun ρ a w hs hz hΓ hp => gp (d_move (hΓ 17 rfl))) (AOK.cons (fun ρ a w hs hz hΓ hp => gp (d_min2 (hp 0 _ rfl rfl).1 (hp 1 _ rfl rfl).1)) (AOK.cons (fun ρ a w hs hz hΓ hp => gp (d_assign (hp 2 _ rfl rfl).1)) AOK.nil rfl) rfl) rfl) rfl) (fun vs36 => ?_)
                refine T.nil ?_
                refine T.norm ?_
                refine T.seq ?_
                refine T.region mix 7 [60, 61, 62, 63, 64, 65, 66] [0, 1, 3, 7, 7, 31, 63] [(sp ((TI .i64).sv s11)), (sp (TB.sv (decide (s11 < 0)))), (sp (TB.sv (decide (s11 < 0)))), (sp (SRel.when ((decide (s11 < 0)) = false) ((TI .i64).sv (min x52 x56)))), (sp (SRel.when ((decide (s11 < 0)) = false) ((TI .i64).sv s13))), (sp (SRel.when ((decide (s11 < 0)) = false) (TB.sv (decide ((min x52 x56) < s13))))), (sp (TB.sv ((decide (s11 < 0)) || (decide ((min x52 x56) < s13)))))] (by kernel_rfl) (AOK.cons (fun ρ a w hs hz hΓ hp => gp (d_move (hΓ 11 rfl))) (AOK.cons (fun ρ a w hs hz hΓ hp => gp (d_lss (hp 0 _ rfl rfl).1 (vI rfl))) (AOK.cons (fun ρ a w hs hz hΓ hp => gp (d_move (hp 1 _ rfl rfl).1)) (AOK.cons (fun ρ a w hs hz hΓ hp => gg (g := 2) (d := 62) hz rfl (hp 2 _ rfl rfl).1 rfl (fun hc => d_move (hΓ 18 rfl))) (AOK.cons (fun ρ a w hs hz hΓ hp => gg (g := 2) (d := 62) hz rfl (hp 2 _ rfl rfl).1 rfl (fun hc => d_move (hΓ 13 rfl))) (AOK.cons (fun ρ a w hs hz hΓ hp => gg (g := 2) (d := 62) hz rfl (hp 2 _ rfl rfl).1 rfl (fun hc => d_lss ((hp 3 _ rfl rfl).1 hc) ((hp 4 _ rfl rfl).1 hc))) (AOK.cons (fun ρ a w hs hz hΓ hp => gp (d_pick (hp 2 _ rfl rfl).1 (fun hc => pON hc) (fun hc => pO hc ((hp 5 _ rfl rfl).1 hc)))) AOK.nil rfl) rfl) rfl) rfl) rfl) rfl) rfl) (fun vs37 => ?_)
                refine T.nil ?_
                refine T.norm ?_
                obtain ⟨yy, e38, hu18⟩ := bindS hu18
                obtain ⟨y11, y12, y13⟩ := yy
                refine T.joinS (Γ' := fun (z : Unit) => E [(0, (Y22.sv x0)), (8, (SRel.eq z5)), (9, (SRel.eq z6)), (10, (SRel.eq (vs9 3))), (11, ((TI .i64).sv y11)), (12, (TB.sv y12)), (13, ((TI .i64).sv y13)), (39, (Y22.sv x0)), (40, ((TI .i64).sv (x0.length : Int))), (41, ((TI .i64).sv s41))]) (H' := fun (z : Unit) => HL [(5, (slR 2 (TI .i64) sr5 z5)), (6, (slR 4 TB sr6 z6)), (7, (boxR 32 Y24 sr7 (vs9 3)))]) (fun zz => ?_) (fun hk => ?_)
                · skip
                  refine T.fallX ?_
                  exact T.toh (hk27 ((y11, y12, y13), ()) hu18) ⟨fun _ _ h => h, fun _ _ h => h, fun _ _ h => h, fun _ _ h => h, fun _ _ h => h, fun _ _ h => h, fun _ _ h => h, fun _ _ h => h, fun _ _ h => h, fun _ _ h => h, trivial⟩ ⟨rfl, rfl, rfl, trivial⟩
                · refine T.cond (b := ((decide (s11 < 0)) || (decide ((min x52 x56) < s13)))) (fun _ _ h => h) (fun hc => ?_) (fun hc => ?_)
                  · replace e38 := iteT e38 hc
                    refine T.region mix 8 [67, 68, 69, 70, 71, 11, 12, 13] [0, 0, 0, 6, 0, 1, 47, 127] [(sp ((TI .i64).sv s41)), (sp ((TI .i64).sv x56)), (sp ((TI .i64).sv x52)), (sp (TB.sv (decide (x56 < x52)))), (sp ((TI .i64).sv (min x52 x56))), (sp ((TI .i64).sv s41)), (sp (TB.sv (decide (x56 < x52)))), (sp ((TI .i64).sv (min x52 x56)))] (by kernel_rfl) (AOK.cons (fun ρ a w hs hz hΓ hp => gp (d_move (hΓ 14 rfl))) (AOK.cons (fun ρ a w hs hz hΓ hp => gp (d_move (hΓ 17 rfl))) (AOK.cons (fun ρ a w hs hz hΓ hp => gp (d_move (hΓ 16 rfl))) (AOK.cons (fun ρ a w hs hz hΓ hp => gp (d_lss (hp 1 _ rfl rfl).1 (hp 2 _ rfl rfl).1)) (AOK.cons (fun ρ a w hs hz hΓ hp => gp (d_move (hΓ 18 rfl))) (AOK.cons (fun ρ a w hs hz hΓ hp => gp (d_assign (hp 0 _ rfl rfl).1)) (AOK.cons (fun ρ a w hs hz hΓ hp => gp (d_assign (hp 3 _ rfl rfl).1)) (AOK.cons (fun ρ a w hs hz hΓ hp => gp (d_assign (hp 4 _ rfl rfl).1)) AOK.nil rfl) rfl) rfl) rfl) rfl) rfl) rfl) rfl) (fun vs39 => ?_)
                    refine T.nil ?_
                    cases e38
                    exact T.toh (hk ()) ⟨fun _ _ h => h, fun _ _ h => h, fun _ _ h => h, fun _ _ h => h, fun _ _ h => h, fun _ _ h => h, fun _ _ h => h, fun _ _ h => h, fun _ _ h => h, fun _ _ h => h, trivial⟩ ⟨rfl, rfl, rfl, trivial⟩
                  · replace e38 := iteF e38 hc
                    refine T.skip ?_
                    cases e38
                    exact T.toh (hk ()) ⟨fun _ _ h => h, fun _ _ h => h, fun _ _ h => h, fun _ _ h => h, fun _ _ h => h, fun _ _ h => h, fun _ _ h => h, fun _ _ h => h, fun _ _ h => h, fun _ _ h => h, trivial⟩ ⟨rfl, rfl, rfl, trivial⟩
          · replace hu18 := iteF hu18 hc
            refine T.exit ?_
            obtain rfl := Option.some.inj hu18
            repeat (first | refine T.passX ?_ | refine T.inX (by decide) ?_)
            refine T.hereX ?_
            exact T.toh (hk ((s11, s12, s13, s41), ()) (Eq.symm hn18)) ⟨fun _ _ h => h, fun _ _ h => h, fun _ _ h => h, fun _ _ h => h, fun _ _ h => h, fun _ _ h => h, trivial⟩ ⟨rfl, rfl, rfl, trivial⟩
      · replace hu10 := iteF hu10 hc
        refine T.exit ?_
        obtain rfl := Option.some.inj hu10
        repeat (first | refine T.passX ?_ | refine T.inX (by decide) ?_)
        refine T.hereX ?_
        exact T.toh (hk ((sr5, sr6, sr7), (z5, z6)) (Eq.symm hn10)) ⟨fun _ _ h => h, fun _ _ h => h, trivial⟩ ⟨rfl, rfl, rfl, trivial⟩

theorem c15 (w : World) (v0 v1 : Value) {σ : Heap} (hσ : σ.le (snap w)) {x0 : (List Int)} {x1 : (List Int)} {r : Bool} (hF : laws_eqInt64S x0 x1 = some r) (h0 : Y26.val σ v0 x0) (h1 : Y26.val σ v1 x1) :
    Calls Try.prog 15 #[v0, v1] w (Ret [] w σ (TB.sv r) []) := by
  unfold laws_eqInt64S at hF
  refine start (args := [v0, v1]) Try.func15 rfl 26 rfl [] [(0, (Y26.sv x0)), (1, (Y26.sv x1))] [] (sat_start _ hσ) rfl (args1 rfl h0 (args1 rfl h1 (args0))) ?_
  refine T.seq ?_
  refine T.region mix 1 [4] [0] [(sp (TB.sv false))] (by kernel_rfl) (AOK.cons (fun ρ a w hs hz hΓ hp => gp (d_assign (vB _))) AOK.nil rfl) (fun vs1 => ?_)
  refine T.nil ?_
  refine T.norm ?_
  refine T.seq ?_
  refine T.seq ?_
  refine T.region mix 5 [6, 7, 8, 9, 10] [0, 1, 0, 4, 15] [(sp (Y26.sv x0)), (sp ((TI .i64).sv (x0.length : Int))), (sp (Y26.sv x1)), (sp ((TI .i64).sv (x1.length : Int))), (sp (TB.sv (decide ((x0.length : Int) ≠ (x1.length : Int)))))] (by kernel_rfl) (AOK.cons (fun ρ a w hs hz hΓ hp => gp (d_move (hΓ 0 rfl))) (AOK.cons (fun ρ a w hs hz hΓ hp => gp (d_lenR u26 (hp 0 _ rfl rfl).1)) (AOK.cons (fun ρ a w hs hz hΓ hp => gp (d_move (hΓ 1 rfl))) (AOK.cons (fun ρ a w hs hz hΓ hp => gp (d_lenR u26 (hp 2 _ rfl rfl).1)) (AOK.cons (fun ρ a w hs hz hΓ hp => gp (d_neq (hp 1 _ rfl rfl).1 (hp 3 _ rfl rfl).1)) AOK.nil rfl) rfl) rfl) rfl) rfl) (fun vs2 => ?_)
  refine T.nil ?_
  refine T.norm ?_
  refine T.cond (b := (decide ((x0.length : Int) ≠ (x1.length : Int)))) (fun _ _ h => h) (fun hc => ?_) (fun hc => ?_)
  · replace hF := iteT hF hc
    refine T.seq ?_
    refine T.region mix 1 [4] [0] [(sp (TB.sv false))] (by kernel_rfl) (AOK.cons (fun ρ a w hs hz hΓ hp => gp (d_assign (vB _))) AOK.nil rfl) (fun vs3 => ?_)
    refine T.nil ?_
    refine T.norm ?_
    refine T.ret ?_
    obtain rfl := Option.some.inj hF
    refine T.fin0 fun ρ a w st => ?_
    exact ⟨_, results_one rfl rfl, (st.env 4)⟩
  · replace hF := iteF hF hc
    refine T.skip ?_
    refine T.norm ?_
    refine T.seq ?_
    refine T.seq ?_
    refine T.region mix 1 [5] [0] [(sp ((TI .i64).sv 0))] (by kernel_rfl) (AOK.cons (fun ρ a w hs hz hΓ hp => gp (d_assign (vI rfl))) AOK.nil rfl) (fun vs4 => ?_)
    refine T.nil ?_
    refine T.norm ?_
    obtain ⟨yl5, e6, hF⟩ := bindS hF
    refine T.joinD (ι := Int × (Unit)) (fun p => yl5 = .inl p.1) (Γ' := fun p => E []) (H' := fun p => HL []) (fun p hy => ?_) (fun hk => ?_)
    · obtain ⟨o5, _⟩ := p
      cases hy
      refine T.norm ?_
      refine T.seq ?_
      refine T.region mix 1 [4] [0] [(sp (TB.sv true))] (by kernel_rfl) (AOK.cons (fun ρ a w hs hz hΓ hp => gp (d_assign (vB _))) AOK.nil rfl) (fun vs7 => ?_)
      refine T.nil ?_
      refine T.norm ?_
      refine T.ret ?_
      obtain rfl := Option.some.inj hF
      refine T.fin0 fun ρ a w st => ?_
      exact ⟨_, results_one rfl rfl, (st.env 4)⟩
    · skip
      refine T.block ?_
      refine T.loop (f := laws_eqInt64S_l1 x0 x1) (σ := Int) (Z := Unit) (fun s z => E [(0, (Y26.sv x0)), (1, (Y26.sv x1)), (5, ((TI .i64).sv s))]) (fun s z => HL []) e6 () (fun φ h => T.toh h ⟨fun _ _ h => h, fun _ _ h => h, fun _ _ h => h, trivial⟩ trivial) (fun k s z uu5 hu5 hn5 => ?_)
      obtain ⟨s5, rfl⟩ : ∃ q, q = s := ⟨_, rfl⟩
      dsimp only [laws_eqInt64S_l1] at hu5
      refine T.seq ?_
      refine T.seq ?_
      refine T.region mix 4 [11, 12, 13, 14] [0, 0, 2, 7] [(sp ((TI .i64).sv s5)), (sp (Y26.sv x0)), (sp ((TI .i64).sv (x0.length : Int))), (sp (TB.sv (decide (s5 < (x0.length : Int)))))] (by kernel_rfl) (AOK.cons (fun ρ a w hs hz hΓ hp => gp (d_move (hΓ 5 rfl))) (AOK.cons (fun ρ a w hs hz hΓ hp => gp (d_move (hΓ 0 rfl))) (AOK.cons (fun ρ a w hs hz hΓ hp => gp (d_lenR u26 (hp 1 _ rfl rfl).1)) (AOK.cons (fun ρ a w hs hz hΓ hp => gp (d_lss (hp 0 _ rfl rfl).1 (hp 2 _ rfl rfl).1)) AOK.nil rfl) rfl) rfl) rfl) (fun vs8 => ?_)
      refine T.nil ?_
      refine T.norm ?_
      refine T.cond (b := (decide (s5 < (x0.length : Int)))) (fun _ _ h => h) (fun hc => ?_) (fun hc => ?_)
      · replace hu5 := iteT hu5 hc
        refine T.skip ?_
        refine T.norm ?_
        refine T.seq ?_
        refine T.block ?_
        refine T.seq ?_
        obtain ⟨x19, e10, hu5⟩ := bindS hu5
        obtain ⟨x23, e11, hu5⟩ := bindS hu5
        refine T.region mix 9 [17, 18, 19, 20, 21, 22, 23, 24, 25] [0, 0, 3, 7, 0, 0, 48, 112, 255] [(sp (Y26.sv x0)), (sp ((TI .i64).sv s5)), (sp ((TP (TI .i64)).sv x19)), (sp ((TI .i64).sv x19)), (sp (Y26.sv x1)), (sp ((TI .i64).sv s5)), (sp ((TP (TI .i64)).sv x23)), (sp ((TI .i64).sv x23)), (sp (TB.sv (decide (x19 ≠ x23))))] (by kernel_rfl) (AOK.cons (fun ρ a w hs hz hΓ hp => gp (d_move (hΓ 0 rfl))) (AOK.cons (fun ρ a w hs hz hΓ hp => gp (d_move (hΓ 5 rfl))) (AOK.cons (fun ρ a w hs hz hΓ hp => gp (d_idxR u26 y2 (hp 0 _ rfl rfl).1 (hp 1 _ rfl rfl).1 e10)) (AOK.cons (fun ρ a w hs hz hΓ hp => gp (d_load y2 hs.le (hp 2 _ rfl rfl).1)) (AOK.cons (fun ρ a w hs hz hΓ hp => gp (d_move (hΓ 1 rfl))) (AOK.cons (fun ρ a w hs hz hΓ hp => gp (d_move (hΓ 5 rfl))) (AOK.cons (fun ρ a w hs hz hΓ hp => gp (d_idxR u26 y2 (hp 4 _ rfl rfl).1 (hp 5 _ rfl rfl).1 e11)) (AOK.cons (fun ρ a w hs hz hΓ hp => gp (d_load y2 hs.le (hp 6 _ rfl rfl).1)) (AOK.cons (fun ρ a w hs hz hΓ hp => gp (d_neq (hp 3 _ rfl rfl).1 (hp 7 _ rfl rfl).1)) AOK.nil rfl) rfl) rfl) rfl) rfl) rfl) rfl) rfl) rfl) (fun vs9 => ?_)
        refine T.nil ?_
        refine T.norm ?_
        refine T.cond (b := (decide (x19 ≠ x23))) (fun _ _ h => h) (fun hc => ?_) (fun hc => ?_)
        · replace hu5 := iteT hu5 hc
          refine T.seq ?_
          refine T.region mix 1 [4] [0] [(sp (TB.sv false))] (by kernel_rfl) (AOK.cons (fun ρ a w hs hz hΓ hp => gp (d_assign (vB _))) AOK.nil rfl) (fun vs12 => ?_)
          refine T.nil ?_
          refine T.norm ?_
          refine T.ret ?_
          obtain rfl := Option.some.inj hu5
          cases hn5
          obtain rfl := Option.some.inj hF
          refine T.fin0 fun ρ a w st => ?_
          exact ⟨_, results_one rfl rfl, (st.env 4)⟩
        · replace hu5 := iteF hu5 hc
          refine T.skip ?_
          refine T.fallX ?_
          refine T.norm ?_
          refine T.region mix 3 [15, 16, 5] [0, 1, 3] [(sp ((TI .i64).sv s5)), (sp ((TI .i64).sv (IntKind.i64.wrap (s5 + 1)))), (sp ((TI .i64).sv (IntKind.i64.wrap (s5 + 1))))] (by kernel_rfl) (AOK.cons (fun ρ a w hs hz hΓ hp => gp (d_move (hΓ 5 rfl))) (AOK.cons (fun ρ a w hs hz hΓ hp => gp (d_add (hp 0 _ rfl rfl).1 (vI rfl))) (AOK.cons (fun ρ a w hs hz hΓ hp => gp (d_assign (hp 1 _ rfl rfl).1)) AOK.nil rfl) rfl) rfl) (fun vs13 => ?_)
          refine T.nil ?_
          obtain rfl := Option.some.inj hu5
          exact T.again hn5 () (fun φ h => T.toh h ⟨fun _ _ h => h, fun _ _ h => h, fun _ _ h => h, trivial⟩ trivial)
      · replace hu5 := iteF hu5 hc
        refine T.exit ?_
        obtain rfl := Option.some.inj hu5
        repeat (first | refine T.passX ?_ | refine T.inX (by decide) ?_)
        refine T.hereX ?_
        exact T.toh (hk (s5, ()) (Eq.symm hn5)) trivial trivial

theorem c16 (w : World) (v0 v1 : Value) {σ : Heap} (hσ : σ.le (snap w)) {x0 : (List Bool)} {x1 : (List Bool)} {r : Bool} (hF : laws_eqBoolS x0 x1 = some r) (h0 : Y27.val σ v0 x0) (h1 : Y27.val σ v1 x1) :
    Calls Try.prog 16 #[v0, v1] w (Ret [] w σ (TB.sv r) []) := by
  unfold laws_eqBoolS at hF
  refine start (args := [v0, v1]) Try.func16 rfl 26 rfl [] [(0, (Y27.sv x0)), (1, (Y27.sv x1))] [] (sat_start _ hσ) rfl (args1 rfl h0 (args1 rfl h1 (args0))) ?_
  refine T.seq ?_
  refine T.region mix 1 [4] [0] [(sp (TB.sv false))] (by kernel_rfl) (AOK.cons (fun ρ a w hs hz hΓ hp => gp (d_assign (vB _))) AOK.nil rfl) (fun vs1 => ?_)
  refine T.nil ?_
  refine T.norm ?_
  refine T.seq ?_
  refine T.seq ?_
  refine T.region mix 5 [6, 7, 8, 9, 10] [0, 1, 0, 4, 15] [(sp (Y27.sv x0)), (sp ((TI .i64).sv (x0.length : Int))), (sp (Y27.sv x1)), (sp ((TI .i64).sv (x1.length : Int))), (sp (TB.sv (decide ((x0.length : Int) ≠ (x1.length : Int)))))] (by kernel_rfl) (AOK.cons (fun ρ a w hs hz hΓ hp => gp (d_move (hΓ 0 rfl))) (AOK.cons (fun ρ a w hs hz hΓ hp => gp (d_lenR u27 (hp 0 _ rfl rfl).1)) (AOK.cons (fun ρ a w hs hz hΓ hp => gp (d_move (hΓ 1 rfl))) (AOK.cons (fun ρ a w hs hz hΓ hp => gp (d_lenR u27 (hp 2 _ rfl rfl).1)) (AOK.cons (fun ρ a w hs hz hΓ hp => gp (d_neq (hp 1 _ rfl rfl).1 (hp 3 _ rfl rfl).1)) AOK.nil rfl) rfl) rfl) rfl) rfl) (fun vs2 => ?_)
  refine T.nil ?_
  refine T.norm ?_
  refine T.cond (b := (decide ((x0.length : Int) ≠ (x1.length : Int)))) (fun _ _ h => h) (fun hc => ?_) (fun hc => ?_)
  · replace hF := iteT hF hc
    refine T.seq ?_
    refine T.region mix 1 [4] [0] [(sp (TB.sv false))] (by kernel_rfl) (AOK.cons (fun ρ a w hs hz hΓ hp => gp (d_assign (vB _))) AOK.nil rfl) (fun vs3 => ?_)
    refine T.nil ?_
    refine T.norm ?_
    refine T.ret ?_
    obtain rfl := Option.some.inj hF
    refine T.fin0 fun ρ a w st => ?_
    exact ⟨_, results_one rfl rfl, (st.env 4)⟩
  · replace hF := iteF hF hc
    refine T.skip ?_
    refine T.norm ?_
    refine T.seq ?_
    refine T.seq ?_
    refine T.region mix 1 [5] [0] [(sp ((TI .i64).sv 0))] (by kernel_rfl) (AOK.cons (fun ρ a w hs hz hΓ hp => gp (d_assign (vI rfl))) AOK.nil rfl) (fun vs4 => ?_)
    refine T.nil ?_
    refine T.norm ?_
    obtain ⟨yl5, e6, hF⟩ := bindS hF
    refine T.joinD (ι := Int × (Unit)) (fun p => yl5 = .inl p.1) (Γ' := fun p => E []) (H' := fun p => HL []) (fun p hy => ?_) (fun hk => ?_)
    · obtain ⟨o5, _⟩ := p
      cases hy
      refine T.norm ?_
      refine T.seq ?_
      refine T.region mix 1 [4] [0] [(sp (TB.sv true))] (by kernel_rfl) (AOK.cons (fun ρ a w hs hz hΓ hp => gp (d_assign (vB _))) AOK.nil rfl) (fun vs7 => ?_)
      refine T.nil ?_
      refine T.norm ?_
      refine T.ret ?_
      obtain rfl := Option.some.inj hF
      refine T.fin0 fun ρ a w st => ?_
      exact ⟨_, results_one rfl rfl, (st.env 4)⟩
    · skip
      refine T.block ?_
      refine T.loop (f := laws_eqBoolS_l1 x0 x1) (σ := Int) (Z := Unit) (fun s z => E [(0, (Y27.sv x0)), (1, (Y27.sv x1)), (5, ((TI .i64).sv s))]) (fun s z => HL []) e6 () (fun φ h => T.toh h ⟨fun _ _ h => h, fun _ _ h => h, fun _ _ h => h, trivial⟩ trivial) (fun k s z uu5 hu5 hn5 => ?_)
      obtain ⟨s5, rfl⟩ : ∃ q, q = s := ⟨_, rfl⟩
      dsimp only [laws_eqBoolS_l1] at hu5
      refine T.seq ?_
      refine T.seq ?_
      refine T.region mix 4 [11, 12, 13, 14] [0, 0, 2, 7] [(sp ((TI .i64).sv s5)), (sp (Y27.sv x0)), (sp ((TI .i64).sv (x0.length : Int))), (sp (TB.sv (decide (s5 < (x0.length : Int)))))] (by kernel_rfl) (AOK.cons (fun ρ a w hs hz hΓ hp => gp (d_move (hΓ 5 rfl))) (AOK.cons (fun ρ a w hs hz hΓ hp => gp (d_move (hΓ 0 rfl))) (AOK.cons (fun ρ a w hs hz hΓ hp => gp (d_lenR u27 (hp 1 _ rfl rfl).1)) (AOK.cons (fun ρ a w hs hz hΓ hp => gp (d_lss (hp 0 _ rfl rfl).1 (hp 2 _ rfl rfl).1)) AOK.nil rfl) rfl) rfl) rfl) (fun vs8 => ?_)
      refine T.nil ?_
      refine T.norm ?_
      refine T.cond (b := (decide (s5 < (x0.length : Int)))) (fun _ _ h => h) (fun hc => ?_) (fun hc => ?_)
      · replace hu5 := iteT hu5 hc
        refine T.skip ?_
        refine T.norm ?_
        refine T.seq ?_
        refine T.block ?_
        refine T.seq ?_
        obtain ⟨x19, e10, hu5⟩ := bindS hu5
        obtain ⟨x23, e11, hu5⟩ := bindS hu5
        refine T.region mix 9 [17, 18, 19, 20, 21, 22, 23, 24, 25] [0, 0, 3, 7, 0, 0, 48, 112, 255] [(sp (Y27.sv x0)), (sp ((TI .i64).sv s5)), (sp ((TP TB).sv x19)), (sp (TB.sv x19)), (sp (Y27.sv x1)), (sp ((TI .i64).sv s5)), (sp ((TP TB).sv x23)), (sp (TB.sv x23)), (sp (TB.sv (x19 != x23)))] (by kernel_rfl) (AOK.cons (fun ρ a w hs hz hΓ hp => gp (d_move (hΓ 0 rfl))) (AOK.cons (fun ρ a w hs hz hΓ hp => gp (d_move (hΓ 5 rfl))) (AOK.cons (fun ρ a w hs hz hΓ hp => gp (d_idxR u27 y4 (hp 0 _ rfl rfl).1 (hp 1 _ rfl rfl).1 e10)) (AOK.cons (fun ρ a w hs hz hΓ hp => gp (d_load y4 hs.le (hp 2 _ rfl rfl).1)) (AOK.cons (fun ρ a w hs hz hΓ hp => gp (d_move (hΓ 1 rfl))) (AOK.cons (fun ρ a w hs hz hΓ hp => gp (d_move (hΓ 5 rfl))) (AOK.cons (fun ρ a w hs hz hΓ hp => gp (d_idxR u27 y4 (hp 4 _ rfl rfl).1 (hp 5 _ rfl rfl).1 e11)) (AOK.cons (fun ρ a w hs hz hΓ hp => gp (d_load y4 hs.le (hp 6 _ rfl rfl).1)) (AOK.cons (fun ρ a w hs hz hΓ hp => gp (d_neqB u4 (hp 3 _ rfl rfl).1 (hp 7 _ rfl rfl).1)) AOK.nil rfl) rfl) rfl) rfl) rfl) rfl) rfl) rfl) rfl) (fun vs9 => ?_)
        refine T.nil ?_
        refine T.norm ?_
        refine T.cond (b := (x19 != x23)) (fun _ _ h => h) (fun hc => ?_) (fun hc => ?_)
        · replace hu5 := iteT hu5 hc
          refine T.seq ?_
          refine T.region mix 1 [4] [0] [(sp (TB.sv false))] (by kernel_rfl) (AOK.cons (fun ρ a w hs hz hΓ hp => gp (d_assign (vB _))) AOK.nil rfl) (fun vs12 => ?_)
          refine T.nil ?_
          refine T.norm ?_
          refine T.ret ?_
          obtain rfl := Option.some.inj hu5
          cases hn5
          obtain rfl := Option.some.inj hF
          refine T.fin0 fun ρ a w st => ?_
          exact ⟨_, results_one rfl rfl, (st.env 4)⟩
        · replace hu5 := iteF hu5 hc
          refine T.skip ?_
          refine T.fallX ?_
          refine T.norm ?_
          refine T.region mix 3 [15, 16, 5] [0, 1, 3] [(sp ((TI .i64).sv s5)), (sp ((TI .i64).sv (IntKind.i64.wrap (s5 + 1)))), (sp ((TI .i64).sv (IntKind.i64.wrap (s5 + 1))))] (by kernel_rfl) (AOK.cons (fun ρ a w hs hz hΓ hp => gp (d_move (hΓ 5 rfl))) (AOK.cons (fun ρ a w hs hz hΓ hp => gp (d_add (hp 0 _ rfl rfl).1 (vI rfl))) (AOK.cons (fun ρ a w hs hz hΓ hp => gp (d_assign (hp 1 _ rfl rfl).1)) AOK.nil rfl) rfl) rfl) (fun vs13 => ?_)
          refine T.nil ?_
          obtain rfl := Option.some.inj hu5
          exact T.again hn5 () (fun φ h => T.toh h ⟨fun _ _ h => h, fun _ _ h => h, fun _ _ h => h, trivial⟩ trivial)
      · replace hu5 := iteF hu5 hc
        refine T.exit ?_
        obtain rfl := Option.some.inj hu5
        repeat (first | refine T.passX ?_ | refine T.inX (by decide) ?_)
        refine T.hereX ?_
        exact T.toh (hk (s5, ()) (Eq.symm hn5)) trivial trivial

theorem c74 (w : World) (v0 v1 : Value) {σ : Heap} (hσ : σ.le (snap w)) {x0 : (List Int)} {x1 : (List Int)} {r : Bool} (hF : laws_eqMark x0 x1 = some r) (h0 : Y24.val σ v0 x0) (h1 : Y24.val σ v1 x1) :
    Calls Try.prog 74 #[v0, v1] w (Ret [] w σ (TB.sv r) []) := by
  unfold laws_eqMark at hF
  refine start (args := [v0, v1]) Try.func74 rfl 17 rfl [] [(0, (Y24.sv x0)), (1, (Y24.sv x1))] [] (sat_start _ hσ) rfl (args1 rfl h0 (args1 rfl h1 (args0))) ?_
  refine T.seq ?_
  refine T.region mix 3 [2, 3, 4] [0, 0, 0] [(sp ((TP Y24).sv x0)), (sp ((TP Y24).sv x1)), (sp (TB.sv false))] (by kernel_rfl) (AOK.cons (fun ρ a w hs hz hΓ hp => gp (d_box hs.le (hΓ 0 rfl))) (AOK.cons (fun ρ a w hs hz hΓ hp => gp (d_box hs.le (hΓ 1 rfl))) (AOK.cons (fun ρ a w hs hz hΓ hp => gp (d_assign (vB _))) AOK.nil rfl) rfl) rfl) (fun vs1 => ?_)
  refine T.nil ?_
  refine T.norm ?_
  refine T.seq ?_
  refine T.seq ?_
  refine T.region mix 1 [5] [0] [(sp ((TI .i64).sv 0))] (by kernel_rfl) (AOK.cons (fun ρ a w hs hz hΓ hp => gp (d_assign (vI rfl))) AOK.nil rfl) (fun vs2 => ?_)
  refine T.nil ?_
  refine T.norm ?_
  obtain ⟨yl3, e4, hF⟩ := bindS hF
  refine T.joinD (ι := Int × (Unit)) (fun p => yl3 = .inl p.1) (Γ' := fun p => E []) (H' := fun p => HL []) (fun p hy => ?_) (fun hk => ?_)
  · obtain ⟨o5, _⟩ := p
    cases hy
    refine T.norm ?_
    refine T.seq ?_
    refine T.region mix 1 [4] [0] [(sp (TB.sv true))] (by kernel_rfl) (AOK.cons (fun ρ a w hs hz hΓ hp => gp (d_assign (vB _))) AOK.nil rfl) (fun vs5 => ?_)
    refine T.nil ?_
    refine T.norm ?_
    refine T.ret ?_
    obtain rfl := Option.some.inj hF
    refine T.fin0 fun ρ a w st => ?_
    exact ⟨_, results_one rfl rfl, (st.env 4)⟩
  · skip
    refine T.block ?_
    refine T.loop (f := laws_eqMark_l1 x0 x1) (σ := Int) (Z := Unit) (fun s z => E [(2, ((TP Y24).sv x0)), (3, ((TP Y24).sv x1)), (5, ((TI .i64).sv s))]) (fun s z => HL []) e4 () (fun φ h => T.toh h ⟨fun _ _ h => h, fun _ _ h => h, fun _ _ h => h, trivial⟩ trivial) (fun k s z uu3 hu3 hn3 => ?_)
    obtain ⟨s5, rfl⟩ : ∃ q, q = s := ⟨_, rfl⟩
    dsimp only [laws_eqMark_l1] at hu3
    refine T.seq ?_
    refine T.seq ?_
    refine T.region mix 2 [6, 7] [0, 1] [(sp ((TI .i64).sv s5)), (sp (TB.sv (decide (s5 < 2))))] (by kernel_rfl) (AOK.cons (fun ρ a w hs hz hΓ hp => gp (d_move (hΓ 5 rfl))) (AOK.cons (fun ρ a w hs hz hΓ hp => gp (d_lss (hp 0 _ rfl rfl).1 (vI rfl))) AOK.nil rfl) rfl) (fun vs6 => ?_)
    refine T.nil ?_
    refine T.norm ?_
    refine T.cond (b := (decide (s5 < 2))) (fun _ _ h => h) (fun hc => ?_) (fun hc => ?_)
    · replace hu3 := iteT hu3 hc
      refine T.skip ?_
      refine T.norm ?_
      refine T.seq ?_
      refine T.block ?_
      refine T.seq ?_
      obtain ⟨x11, e8, hu3⟩ := bindS hu3
      obtain ⟨x14, e9, hu3⟩ := bindS hu3
      refine T.region mix 7 [10, 11, 12, 13, 14, 15, 16] [0, 1, 3, 0, 8, 24, 63] [(sp ((TI .i64).sv s5)), (sp ((TP (TI .i16)).sv x11)), (sp ((TI .i16).sv x11)), (sp ((TI .i64).sv s5)), (sp ((TP (TI .i16)).sv x14)), (sp ((TI .i16).sv x14)), (sp (TB.sv (decide (x11 ≠ x14))))] (by kernel_rfl) (AOK.cons (fun ρ a w hs hz hΓ hp => gp (d_move (hΓ 5 rfl))) (AOK.cons (fun ρ a w hs hz hΓ hp => gp (d_idxP u32 y23 (hΓ 2 rfl) (hp 0 _ rfl rfl).1 e8)) (AOK.cons (fun ρ a w hs hz hΓ hp => gp (d_load y23 hs.le (hp 1 _ rfl rfl).1)) (AOK.cons (fun ρ a w hs hz hΓ hp => gp (d_move (hΓ 5 rfl))) (AOK.cons (fun ρ a w hs hz hΓ hp => gp (d_idxP u32 y23 (hΓ 3 rfl) (hp 3 _ rfl rfl).1 e9)) (AOK.cons (fun ρ a w hs hz hΓ hp => gp (d_load y23 hs.le (hp 4 _ rfl rfl).1)) (AOK.cons (fun ρ a w hs hz hΓ hp => gp (d_neq (hp 2 _ rfl rfl).1 (hp 5 _ rfl rfl).1)) AOK.nil rfl) rfl) rfl) rfl) rfl) rfl) rfl) (fun vs7 => ?_)
      refine T.nil ?_
      refine T.norm ?_
      refine T.cond (b := (decide (x11 ≠ x14))) (fun _ _ h => h) (fun hc => ?_) (fun hc => ?_)
      · replace hu3 := iteT hu3 hc
        refine T.seq ?_
        refine T.region mix 1 [4] [0] [(sp (TB.sv false))] (by kernel_rfl) (AOK.cons (fun ρ a w hs hz hΓ hp => gp (d_assign (vB _))) AOK.nil rfl) (fun vs10 => ?_)
        refine T.nil ?_
        refine T.norm ?_
        refine T.ret ?_
        obtain rfl := Option.some.inj hu3
        cases hn3
        obtain rfl := Option.some.inj hF
        refine T.fin0 fun ρ a w st => ?_
        exact ⟨_, results_one rfl rfl, (st.env 4)⟩
      · replace hu3 := iteF hu3 hc
        refine T.skip ?_
        refine T.fallX ?_
        refine T.norm ?_
        refine T.region mix 3 [8, 9, 5] [0, 1, 3] [(sp ((TI .i64).sv s5)), (sp ((TI .i64).sv (IntKind.i64.wrap (s5 + 1)))), (sp ((TI .i64).sv (IntKind.i64.wrap (s5 + 1))))] (by kernel_rfl) (AOK.cons (fun ρ a w hs hz hΓ hp => gp (d_move (hΓ 5 rfl))) (AOK.cons (fun ρ a w hs hz hΓ hp => gp (d_add (hp 0 _ rfl rfl).1 (vI rfl))) (AOK.cons (fun ρ a w hs hz hΓ hp => gp (d_assign (hp 1 _ rfl rfl).1)) AOK.nil rfl) rfl) rfl) (fun vs11 => ?_)
        refine T.nil ?_
        obtain rfl := Option.some.inj hu3
        exact T.again hn3 () (fun φ h => T.toh h ⟨fun _ _ h => h, fun _ _ h => h, fun _ _ h => h, trivial⟩ trivial)
    · replace hu3 := iteF hu3 hc
      refine T.exit ?_
      obtain rfl := Option.some.inj hu3
      repeat (first | refine T.passX ?_ | refine T.inX (by decide) ?_)
      refine T.hereX ?_
      exact T.toh (hk (s5, ()) (Eq.symm hn3)) trivial trivial

theorem c69 (w : World) (v0 v1 : Value) {σ : Heap} (hσ : σ.le (snap w)) {x0 : ((List Int) × (List Int) × Int)} {x1 : ((List Int) × (List Int) × Int)} {r : Bool} (hF : laws_eqStroke x0 x1 = some r) (h0 : Y104.val σ v0 x0) (h1 : Y104.val σ v1 x1) :
    Calls Try.prog 69 #[v0, v1] w (Ret [] w σ (TB.sv r) []) := by
  unfold laws_eqStroke at hF
  refine start (args := [v0, v1]) Try.func69 rfl 22 rfl [] [(0, (Y104.sv x0)), (1, (Y104.sv x1))] [] (sat_start _ hσ) rfl (args1 rfl h0 (args1 rfl h1 (args0))) ?_
  refine T.seq ?_
  refine T.region mix 3 [2, 3, 4] [0, 0, 0] [(sp ((TP Y104).sv x0)), (sp ((TP Y104).sv x1)), (sp (TB.sv false))] (by kernel_rfl) (AOK.cons (fun ρ a w hs hz hΓ hp => gp (d_box hs.le (hΓ 0 rfl))) (AOK.cons (fun ρ a w hs hz hΓ hp => gp (d_box hs.le (hΓ 1 rfl))) (AOK.cons (fun ρ a w hs hz hΓ hp => gp (d_assign (vB _))) AOK.nil rfl) rfl) rfl) (fun vs1 => ?_)
  refine T.nil ?_
  refine T.norm ?_
  refine T.seq ?_
  refine T.seq ?_
  obtain ⟨x9, e3, hF⟩ := bindS hF
  refine T.region mix 6 [5, 6, 7, 8, 9, 10] [0, 1, 0, 4, 15, 31] [(sp ((TP Y24).sv x0.1)), (sp (Y24.sv x0.1)), (sp ((TP Y24).sv x1.1)), (sp (Y24.sv x1.1)), (sp (TB.sv x9)), (sp (TB.sv (!x9)))] (by kernel_rfl) (AOK.cons (fun ρ a w hs hz hΓ hp => gp (d_fieldP fa84_0 (hΓ 2 rfl) (At.fst (At.refl _ _)))) (AOK.cons (fun ρ a w hs hz hΓ hp => gp (d_load y32 hs.le (hp 0 _ rfl rfl).1)) (AOK.cons (fun ρ a w hs hz hΓ hp => gp (d_fieldP fa84_0 (hΓ 3 rfl) (At.fst (At.refl _ _)))) (AOK.cons (fun ρ a w hs hz hΓ hp => gp (d_load y32 hs.le (hp 2 _ rfl rfl).1)) (AOK.cons (fun ρ a w hs hz hΓ hp => gp (d_call fn74 hs.le mapA2 (c74 w _ _ hs.le e3 ((hp 1 _ rfl rfl).1) ((hp 3 _ rfl rfl).1)))) (AOK.cons (fun ρ a w hs hz hΓ hp => gp (d_not (hp 4 _ rfl rfl).1)) AOK.nil rfl) rfl) rfl) rfl) rfl) rfl) (fun vs2 => ?_)
  refine T.nil ?_
  refine T.norm ?_
  refine T.cond (b := (!x9)) (fun _ _ h => h) (fun hc => ?_) (fun hc => ?_)
  · replace hF := iteT hF hc
    refine T.seq ?_
    refine T.region mix 1 [4] [0] [(sp (TB.sv false))] (by kernel_rfl) (AOK.cons (fun ρ a w hs hz hΓ hp => gp (d_assign (vB _))) AOK.nil rfl) (fun vs4 => ?_)
    refine T.nil ?_
    refine T.norm ?_
    refine T.ret ?_
    obtain rfl := Option.some.inj hF
    refine T.fin0 fun ρ a w st => ?_
    exact ⟨_, results_one rfl rfl, (st.env 4)⟩
  · replace hF := iteF hF hc
    refine T.skip ?_
    refine T.norm ?_
    refine T.seq ?_
    refine T.seq ?_
    obtain ⟨x15, e6, hF⟩ := bindS hF
    refine T.region mix 6 [11, 12, 13, 14, 15, 16] [0, 1, 0, 4, 15, 31] [(sp ((TP Y24).sv x0.2.1)), (sp (Y24.sv x0.2.1)), (sp ((TP Y24).sv x1.2.1)), (sp (Y24.sv x1.2.1)), (sp (TB.sv x15)), (sp (TB.sv (!x15)))] (by kernel_rfl) (AOK.cons (fun ρ a w hs hz hΓ hp => gp (d_fieldP fa84_1 (hΓ 2 rfl) (At.fst (At.snd (At.refl _ _))))) (AOK.cons (fun ρ a w hs hz hΓ hp => gp (d_load y32 hs.le (hp 0 _ rfl rfl).1)) (AOK.cons (fun ρ a w hs hz hΓ hp => gp (d_fieldP fa84_1 (hΓ 3 rfl) (At.fst (At.snd (At.refl _ _))))) (AOK.cons (fun ρ a w hs hz hΓ hp => gp (d_load y32 hs.le (hp 2 _ rfl rfl).1)) (AOK.cons (fun ρ a w hs hz hΓ hp => gp (d_call fn74 hs.le mapA2 (c74 w _ _ hs.le e6 ((hp 1 _ rfl rfl).1) ((hp 3 _ rfl rfl).1)))) (AOK.cons (fun ρ a w hs hz hΓ hp => gp (d_not (hp 4 _ rfl rfl).1)) AOK.nil rfl) rfl) rfl) rfl) rfl) rfl) (fun vs5 => ?_)
    refine T.nil ?_
    refine T.norm ?_
    refine T.cond (b := (!x15)) (fun _ _ h => h) (fun hc => ?_) (fun hc => ?_)
    · replace hF := iteT hF hc
      refine T.seq ?_
      refine T.region mix 1 [4] [0] [(sp (TB.sv false))] (by kernel_rfl) (AOK.cons (fun ρ a w hs hz hΓ hp => gp (d_assign (vB _))) AOK.nil rfl) (fun vs7 => ?_)
      refine T.nil ?_
      refine T.norm ?_
      refine T.ret ?_
      obtain rfl := Option.some.inj hF
      refine T.fin0 fun ρ a w st => ?_
      exact ⟨_, results_one rfl rfl, (st.env 4)⟩
    · replace hF := iteF hF hc
      refine T.skip ?_
      refine T.norm ?_
      refine T.seq ?_
      refine T.seq ?_
      refine T.region mix 5 [17, 18, 19, 20, 21] [0, 1, 0, 4, 15] [(sp ((TP (TI .i8)).sv x0.2.2)), (sp ((TI .i8).sv x0.2.2)), (sp ((TP (TI .i8)).sv x1.2.2)), (sp ((TI .i8).sv x1.2.2)), (sp (TB.sv (decide (x0.2.2 ≠ x1.2.2))))] (by kernel_rfl) (AOK.cons (fun ρ a w hs hz hΓ hp => gp (d_fieldP fa84_2 (hΓ 2 rfl) (At.snd (At.snd (At.refl _ _))))) (AOK.cons (fun ρ a w hs hz hΓ hp => gp (d_load y82 hs.le (hp 0 _ rfl rfl).1)) (AOK.cons (fun ρ a w hs hz hΓ hp => gp (d_fieldP fa84_2 (hΓ 3 rfl) (At.snd (At.snd (At.refl _ _))))) (AOK.cons (fun ρ a w hs hz hΓ hp => gp (d_load y82 hs.le (hp 2 _ rfl rfl).1)) (AOK.cons (fun ρ a w hs hz hΓ hp => gp (d_neq (hp 1 _ rfl rfl).1 (hp 3 _ rfl rfl).1)) AOK.nil rfl) rfl) rfl) rfl) rfl) (fun vs8 => ?_)
      refine T.nil ?_
      refine T.norm ?_
      refine T.cond (b := (decide (x0.2.2 ≠ x1.2.2))) (fun _ _ h => h) (fun hc => ?_) (fun hc => ?_)
      · replace hF := iteT hF hc
        refine T.seq ?_
        refine T.region mix 1 [4] [0] [(sp (TB.sv false))] (by kernel_rfl) (AOK.cons (fun ρ a w hs hz hΓ hp => gp (d_assign (vB _))) AOK.nil rfl) (fun vs9 => ?_)
        refine T.nil ?_
        refine T.norm ?_
        refine T.ret ?_
        obtain rfl := Option.some.inj hF
        refine T.fin0 fun ρ a w st => ?_
        exact ⟨_, results_one rfl rfl, (st.env 4)⟩
      · replace hF := iteF hF hc
        refine T.skip ?_
        refine T.norm ?_
        refine T.seq ?_
        refine T.region mix 1 [4] [0] [(sp (TB.sv true))] (by kernel_rfl) (AOK.cons (fun ρ a w hs hz hΓ hp => gp (d_assign (vB _))) AOK.nil rfl) (fun vs10 => ?_)
        refine T.nil ?_
        refine T.norm ?_
        refine T.ret ?_
        obtain rfl := Option.some.inj hF
        refine T.fin0 fun ρ a w st => ?_
        exact ⟨_, results_one rfl rfl, (st.env 4)⟩

theorem c17 (w : World) (v0 v1 : Value) {σ : Heap} (hσ : σ.le (snap w)) {x0 : (List ((List Int) × (List Int) × Int))} {x1 : (List ((List Int) × (List Int) × Int))} {r : Bool} (hF : laws_eqStrokeS x0 x1 = some r) (h0 : Y22.val σ v0 x0) (h1 : Y22.val σ v1 x1) :
    Calls Try.prog 17 #[v0, v1] w (Ret [] w σ (TB.sv r) []) := by
  unfold laws_eqStrokeS at hF
  refine start (args := [v0, v1]) Try.func17 rfl 27 rfl [] [(0, (Y22.sv x0)), (1, (Y22.sv x1))] [] (sat_start _ hσ) rfl (args1 rfl h0 (args1 rfl h1 (args0))) ?_
  refine T.seq ?_
  refine T.region mix 1 [4] [0] [(sp (TB.sv false))] (by kernel_rfl) (AOK.cons (fun ρ a w hs hz hΓ hp => gp (d_assign (vB _))) AOK.nil rfl) (fun vs1 => ?_)
  refine T.nil ?_
  refine T.norm ?_
  refine T.seq ?_
  refine T.seq ?_
  refine T.region mix 5 [6, 7, 8, 9, 10] [0, 1, 0, 4, 15] [(sp (Y22.sv x0)), (sp ((TI .i64).sv (x0.length : Int))), (sp (Y22.sv x1)), (sp ((TI .i64).sv (x1.length : Int))), (sp (TB.sv (decide ((x0.length : Int) ≠ (x1.length : Int)))))] (by kernel_rfl) (AOK.cons (fun ρ a w hs hz hΓ hp => gp (d_move (hΓ 0 rfl))) (AOK.cons (fun ρ a w hs hz hΓ hp => gp (d_lenR u30 (hp 0 _ rfl rfl).1)) (AOK.cons (fun ρ a w hs hz hΓ hp => gp (d_move (hΓ 1 rfl))) (AOK.cons (fun ρ a w hs hz hΓ hp => gp (d_lenR u30 (hp 2 _ rfl rfl).1)) (AOK.cons (fun ρ a w hs hz hΓ hp => gp (d_neq (hp 1 _ rfl rfl).1 (hp 3 _ rfl rfl).1)) AOK.nil rfl) rfl) rfl) rfl) rfl) (fun vs2 => ?_)
  refine T.nil ?_
  refine T.norm ?_
  refine T.cond (b := (decide ((x0.length : Int) ≠ (x1.length : Int)))) (fun _ _ h => h) (fun hc => ?_) (fun hc => ?_)
  · replace hF := iteT hF hc
    refine T.seq ?_
    refine T.region mix 1 [4] [0] [(sp (TB.sv false))] (by kernel_rfl) (AOK.cons (fun ρ a w hs hz hΓ hp => gp (d_assign (vB _))) AOK.nil rfl) (fun vs3 => ?_)
    refine T.nil ?_
    refine T.norm ?_
    refine T.ret ?_
    obtain rfl := Option.some.inj hF
    refine T.fin0 fun ρ a w st => ?_
    exact ⟨_, results_one rfl rfl, (st.env 4)⟩
  · replace hF := iteF hF hc
    refine T.skip ?_
    refine T.norm ?_
    refine T.seq ?_
    refine T.seq ?_
    refine T.region mix 1 [5] [0] [(sp ((TI .i64).sv 0))] (by kernel_rfl) (AOK.cons (fun ρ a w hs hz hΓ hp => gp (d_assign (vI rfl))) AOK.nil rfl) (fun vs4 => ?_)
    refine T.nil ?_
    refine T.norm ?_
    obtain ⟨yl5, e6, hF⟩ := bindS hF
    refine T.joinD (ι := Int × (Unit)) (fun p => yl5 = .inl p.1) (Γ' := fun p => E []) (H' := fun p => HL []) (fun p hy => ?_) (fun hk => ?_)
    · obtain ⟨o5, _⟩ := p
      cases hy
      refine T.norm ?_
      refine T.seq ?_
      refine T.region mix 1 [4] [0] [(sp (TB.sv true))] (by kernel_rfl) (AOK.cons (fun ρ a w hs hz hΓ hp => gp (d_assign (vB _))) AOK.nil rfl) (fun vs7 => ?_)
      refine T.nil ?_
      refine T.norm ?_
      refine T.ret ?_
      obtain rfl := Option.some.inj hF
      refine T.fin0 fun ρ a w st => ?_
      exact ⟨_, results_one rfl rfl, (st.env 4)⟩
    · skip
      refine T.block ?_
      refine T.loop (f := laws_eqStrokeS_l1 x0 x1) (σ := Int) (Z := Unit) (fun s z => E [(0, (Y22.sv x0)), (1, (Y22.sv x1)), (5, ((TI .i64).sv s))]) (fun s z => HL []) e6 () (fun φ h => T.toh h ⟨fun _ _ h => h, fun _ _ h => h, fun _ _ h => h, trivial⟩ trivial) (fun k s z uu5 hu5 hn5 => ?_)
      obtain ⟨s5, rfl⟩ : ∃ q, q = s := ⟨_, rfl⟩
      dsimp only [laws_eqStrokeS_l1] at hu5
      refine T.seq ?_
      refine T.seq ?_
      refine T.region mix 4 [11, 12, 13, 14] [0, 0, 2, 7] [(sp ((TI .i64).sv s5)), (sp (Y22.sv x0)), (sp ((TI .i64).sv (x0.length : Int))), (sp (TB.sv (decide (s5 < (x0.length : Int)))))] (by kernel_rfl) (AOK.cons (fun ρ a w hs hz hΓ hp => gp (d_move (hΓ 5 rfl))) (AOK.cons (fun ρ a w hs hz hΓ hp => gp (d_move (hΓ 0 rfl))) (AOK.cons (fun ρ a w hs hz hΓ hp => gp (d_lenR u30 (hp 1 _ rfl rfl).1)) (AOK.cons (fun ρ a w hs hz hΓ hp => gp (d_lss (hp 0 _ rfl rfl).1 (hp 2 _ rfl rfl).1)) AOK.nil rfl) rfl) rfl) rfl) (fun vs8 => ?_)
      refine T.nil ?_
      refine T.norm ?_
      refine T.cond (b := (decide (s5 < (x0.length : Int)))) (fun _ _ h => h) (fun hc => ?_) (fun hc => ?_)
      · replace hu5 := iteT hu5 hc
        refine T.skip ?_
        refine T.norm ?_
        refine T.seq ?_
        refine T.block ?_
        refine T.seq ?_
        obtain ⟨x19, e10, hu5⟩ := bindS hu5
        obtain ⟨x23, e11, hu5⟩ := bindS hu5
        obtain ⟨x25, e12, hu5⟩ := bindS hu5
        refine T.region mix 10 [17, 18, 19, 20, 21, 22, 23, 24, 25, 26] [0, 0, 3, 7, 0, 0, 48, 112, 255, 511] [(sp (Y22.sv x0)), (sp ((TI .i64).sv s5)), (sp ((TP Y104).sv x19)), (sp (Y104.sv x19)), (sp (Y22.sv x1)), (sp ((TI .i64).sv s5)), (sp ((TP Y104).sv x23)), (sp (Y104.sv x23)), (sp (TB.sv x25)), (sp (TB.sv (!x25)))] (by kernel_rfl) (AOK.cons (fun ρ a w hs hz hΓ hp => gp (d_move (hΓ 0 rfl))) (AOK.cons (fun ρ a w hs hz hΓ hp => gp (d_move (hΓ 5 rfl))) (AOK.cons (fun ρ a w hs hz hΓ hp => gp (d_idxR u30 y84 (hp 0 _ rfl rfl).1 (hp 1 _ rfl rfl).1 e10)) (AOK.cons (fun ρ a w hs hz hΓ hp => gp (d_load y84 hs.le (hp 2 _ rfl rfl).1)) (AOK.cons (fun ρ a w hs hz hΓ hp => gp (d_move (hΓ 1 rfl))) (AOK.cons (fun ρ a w hs hz hΓ hp => gp (d_move (hΓ 5 rfl))) (AOK.cons (fun ρ a w hs hz hΓ hp => gp (d_idxR u30 y84 (hp 4 _ rfl rfl).1 (hp 5 _ rfl rfl).1 e11)) (AOK.cons (fun ρ a w hs hz hΓ hp => gp (d_load y84 hs.le (hp 6 _ rfl rfl).1)) (AOK.cons (fun ρ a w hs hz hΓ hp => gp (d_call fn69 hs.le mapA2 (c69 w _ _ hs.le e12 ((hp 3 _ rfl rfl).1) ((hp 7 _ rfl rfl).1)))) (AOK.cons (fun ρ a w hs hz hΓ hp => gp (d_not (hp 8 _ rfl rfl).1)) AOK.nil rfl) rfl) rfl) rfl) rfl) rfl) rfl) rfl) rfl) rfl) (fun vs9 => ?_)
        refine T.nil ?_
        refine T.norm ?_
        refine T.cond (b := (!x25)) (fun _ _ h => h) (fun hc => ?_) (fun hc => ?_)
        · replace hu5 := iteT hu5 hc
          refine T.seq ?_
          refine T.region mix 1 [4] [0] [(sp (TB.sv false))] (by kernel_rfl) (AOK.cons (fun ρ a w hs hz hΓ hp => gp (d_assign (vB _))) AOK.nil rfl) (fun vs13 => ?_)
          refine T.nil ?_
          refine T.norm ?_
          refine T.ret ?_
          obtain rfl := Option.some.inj hu5
          cases hn5
          obtain rfl := Option.some.inj hF
          refine T.fin0 fun ρ a w st => ?_
          exact ⟨_, results_one rfl rfl, (st.env 4)⟩
        · replace hu5 := iteF hu5 hc
          refine T.skip ?_
          refine T.fallX ?_
          refine T.norm ?_
          refine T.region mix 3 [15, 16, 5] [0, 1, 3] [(sp ((TI .i64).sv s5)), (sp ((TI .i64).sv (IntKind.i64.wrap (s5 + 1)))), (sp ((TI .i64).sv (IntKind.i64.wrap (s5 + 1))))] (by kernel_rfl) (AOK.cons (fun ρ a w hs hz hΓ hp => gp (d_move (hΓ 5 rfl))) (AOK.cons (fun ρ a w hs hz hΓ hp => gp (d_add (hp 0 _ rfl rfl).1 (vI rfl))) (AOK.cons (fun ρ a w hs hz hΓ hp => gp (d_assign (hp 1 _ rfl rfl).1)) AOK.nil rfl) rfl) rfl) (fun vs14 => ?_)
          refine T.nil ?_
          obtain rfl := Option.some.inj hu5
          exact T.again hn5 () (fun φ h => T.toh h ⟨fun _ _ h => h, fun _ _ h => h, fun _ _ h => h, trivial⟩ trivial)
      · replace hu5 := iteF hu5 hc
        refine T.exit ?_
        obtain rfl := Option.some.inj hu5
        repeat (first | refine T.passX ?_ | refine T.inX (by decide) ?_)
        refine T.hereX ?_
        exact T.toh (hk (s5, ()) (Eq.symm hn5)) trivial trivial

theorem c18 (w : World) (v0 v1 : Value) {x0 : (List ((List Int) × (List Int) × Int))} {x1 : Int} {r : ((List ((List Int) × (List Int) × Int)) × Int)} (hF : laws_markStrokeS x0 x1 = some r) (hm : (slR 84 Y104 x0 v0).holds (snapX (blkOf v0).toList w) w) (h1 : (TI .i64).val (snapX (blkOf v0).toList w) v1 x1) :
    Calls Try.prog 18 #[v0, v1] w (RetM (blkOf v0).toList w ((TI .i64).sv r.2) (slR 84 Y104 r.1 v0)) := by
  unfold laws_markStrokeS at hF
  refine start (args := [v0, v1]) Try.func18 rfl 51 rfl (blkOf v0).toList [(0, (SRel.eq v0)), (1, ((TI .i64).sv x1))] [(1, (slR 84 Y104 x0 v0))] (sat_mut (r := (slR 84 Y104 x0 v0)) 1 hm) rfl (args1 rfl rfl (args1 rfl h1 (args0))) ?_
  refine T.seq ?_
  refine T.region mix 1 [4] [0] [(sp ((TI .i64).sv 0))] (by kernel_rfl) (AOK.cons (fun ρ a w hs hz hΓ hp => gp (d_assign (vI rfl))) AOK.nil rfl) (fun vs1 => ?_)
  refine T.nil ?_
  refine T.norm ?_
  refine T.seq ?_
  refine T.seq ?_
  refine T.region mix 1 [5] [0] [(sp ((TI .i64).sv 0))] (by kernel_rfl) (AOK.cons (fun ρ a w hs hz hΓ hp => gp (d_assign (vI rfl))) AOK.nil rfl) (fun vs2 => ?_)
  refine T.nil ?_
  refine T.norm ?_
  obtain ⟨yl3, e4, hF⟩ := bindS hF
  refine T.joinD (ι := (Int × Int × (List ((List Int) × (List Int) × Int))) × (Unit)) (fun p => yl3 = p.1) (Γ' := fun p => E [(1, ((TI .i64).sv p.1.1))]) (H' := fun p => HL [(1, (slR 84 Y104 p.1.2.2 v0))]) (fun p hy => ?_) (fun hk => ?_)
  · obtain ⟨⟨o1, o5, or1⟩, _⟩ := p
    cases hy
    refine T.norm ?_
    refine T.seq ?_
    refine T.region mix 2 [50, 4] [0, 1] [(sp ((TI .i64).sv o1)), (sp ((TI .i64).sv o1))] (by kernel_rfl) (AOK.cons (fun ρ a w hs hz hΓ hp => gp (d_move (hΓ 1 rfl))) (AOK.cons (fun ρ a w hs hz hΓ hp => gp (d_assign (hp 0 _ rfl rfl).1)) AOK.nil rfl) rfl) (fun vs5 => ?_)
    refine T.nil ?_
    refine T.norm ?_
    refine T.ret ?_
    obtain rfl := Option.some.inj hF
    refine T.finM fun ρ a w st => ?_
    exact ⟨_, results_one rfl rfl, fun σ => (Ty.Flat.val (flat_TI _) σ (st.env 4)), mut_on st.sat 1 rfl (loose_slR (flat_TPair (flat_TArr (flat_TI _)) (flat_TPair (flat_TArr (flat_TI _)) (flat_TI _)))) rfl⟩
  · skip
    refine T.block ?_
    refine T.loop (f := laws_markStrokeS_l1) (σ := (Int × Int × (List ((List Int) × (List Int) × Int)))) (Z := Unit) (fun s z => E [(0, (SRel.eq v0)), (1, ((TI .i64).sv s.1)), (5, ((TI .i64).sv s.2.1))]) (fun s z => HL [(1, (slR 84 Y104 s.2.2 v0))]) e4 () (fun φ h => T.toh h ⟨fun _ _ h => h, fun _ _ h => h, fun _ _ h => h, trivial⟩ ⟨rfl, trivial⟩) (fun k s z uu3 hu3 hn3 => ?_)
    obtain ⟨s1, s5, sr1⟩ := s
    dsimp only [laws_markStrokeS_l1] at hu3
    refine T.seq ?_
    refine T.seq ?_
    refine T.region mix 4 [8, 9, 10, 11] [0, 0, 2, 7] [(sp ((TI .i64).sv s5)), (sp (SRel.eq v0)), (sp ((TI .i64).sv (sr1.length : Int))), (sp (TB.sv (decide (s5 < (sr1.length : Int)))))] (by kernel_rfl) (AOK.cons (fun ρ a w hs hz hΓ hp => gp (d_move (hΓ 5 rfl))) (AOK.cons (fun ρ a w hs hz hΓ hp => gp (d_move (hΓ 0 rfl))) (AOK.cons (fun ρ a w hs hz hΓ hp => gp (d_lenS u30 hs 1 rfl (hp 1 _ rfl rfl).1)) (AOK.cons (fun ρ a w hs hz hΓ hp => gp (d_lss (hp 0 _ rfl rfl).1 (hp 2 _ rfl rfl).1)) AOK.nil rfl) rfl) rfl) rfl) (fun vs6 => ?_)
    refine T.nil ?_
    refine T.norm ?_
    refine T.cond (b := (decide (s5 < (sr1.length : Int)))) (fun _ _ h => h) (fun hc => ?_) (fun hc => ?_)
    · replace hu3 := iteT hu3 hc
      refine T.skip ?_
      refine T.norm ?_
      refine T.seq ?_
      refine T.block ?_
      refine T.seq ?_
      refine T.seq ?_
      refine T.region mix 1 [6] [0] [(sp ((TI .i64).sv 0))] (by kernel_rfl) (AOK.cons (fun ρ a w hs hz hΓ hp => gp (d_assign (vI rfl))) AOK.nil rfl) (fun vs7 => ?_)
      refine T.nil ?_
      refine T.norm ?_
      obtain ⟨yl8, e9, hu3⟩ := bindS hu3
      refine T.joinD (ι := (Int × Int × (List ((List Int) × (List Int) × Int))) × (Unit)) (fun p => yl8 = p.1) (Γ' := fun p => E [(0, (SRel.eq v0)), (1, ((TI .i64).sv p.1.1)), (5, ((TI .i64).sv s5))]) (H' := fun p => HL [(1, (slR 84 Y104 p.1.2.2 v0))]) (fun p hy => ?_) (fun hk => ?_)
      · obtain ⟨⟨o1_12, o6, or1_13⟩, _⟩ := p
        cases hy
        refine T.norm ?_
        refine T.seq ?_
        refine T.seq ?_
        refine T.region mix 1 [7] [0] [(sp ((TI .i64).sv 0))] (by kernel_rfl) (AOK.cons (fun ρ a w hs hz hΓ hp => gp (d_assign (vI rfl))) AOK.nil rfl) (fun vs14 => ?_)
        refine T.nil ?_
        refine T.norm ?_
        obtain ⟨yl15, e16, hu3⟩ := bindS hu3
        refine T.joinD (ι := (Int × Int × (List ((List Int) × (List Int) × Int))) × (Unit)) (fun p => yl15 = p.1) (Γ' := fun p => E [(0, (SRel.eq v0)), (1, ((TI .i64).sv p.1.1)), (5, ((TI .i64).sv s5))]) (H' := fun p => HL [(1, (slR 84 Y104 p.1.2.2 v0))]) (fun p hy => ?_) (fun hk => ?_)
        · obtain ⟨⟨o1_19, o7, or1_20⟩, _⟩ := p
          cases hy
          refine T.norm ?_
          refine T.seq ?_
          obtain ⟨x46, e22, hu3⟩ := bindS hu3
          refine T.region mix 6 [42, 43, 44, 45, 46, 47] [0, 0, 0, 4, 15, 31, 63] [(sp (SRel.eq v0)), (sp ((TI .i64).sv s5)), (sp ((TI .i64).sv o1_19)), (sp ((TI .i8).sv (IntKind.i8.wrap o1_19))), (sp (SRel.eq (at_ v0 (s5.toNat * Y104.n + 0)))), (sp (SRel.eq (at_ v0 (s5.toNat * Y104.n + (0 + 4)))))] (by kernel_rfl) (AOK.cons (fun ρ a w hs hz hΓ hp => gp (d_move (hΓ 0 rfl))) (AOK.cons (fun ρ a w hs hz hΓ hp => gp (d_move (hΓ 5 rfl))) (AOK.cons (fun ρ a w hs hz hΓ hp => gp (d_move (hΓ 1 rfl))) (AOK.cons (fun ρ a w hs hz hΓ hp => gp (d_conv u3 u82 (hp 2 _ rfl rfl).1)) (AOK.cons (fun ρ a w hs hz hΓ hp => gp (d_idxS u30 y84 hs 1 rfl (hp 0 _ rfl rfl).1 (hp 1 _ rfl rfl).1 e22)) (AOK.cons (fun ρ a w hs hz hΓ hp => gp (d_fieldS fa84_2 hs 1 rfl (idx_get e22).2 (hp 4 _ rfl rfl).1)) AOK.nil rfl) rfl) rfl) rfl) rfl) rfl) (fun vs21 => ?_)
          refine T.storeS 1 y82 rfl (idx_get e22).2 (fun ρ a w st => ⟨(st.env 47), (st.env 45)⟩) (At.snd (At.snd (At.refl Y104 x46))) ?_
          refine T.nil ?_
          refine T.norm ?_
          refine T.region mix 3 [48, 49, 1] [0, 1, 3] [(sp ((TI .i64).sv o1_19)), (sp ((TI .i64).sv (IntKind.i64.wrap (o1_19 + 1)))), (sp ((TI .i64).sv (IntKind.i64.wrap (o1_19 + 1))))] (by kernel_rfl) (AOK.cons (fun ρ a w hs hz hΓ hp => gp (d_move (hΓ 1 rfl))) (AOK.cons (fun ρ a w hs hz hΓ hp => gp (d_add (hp 0 _ rfl rfl).1 (vI rfl))) (AOK.cons (fun ρ a w hs hz hΓ hp => gp (d_assign (hp 1 _ rfl rfl).1)) AOK.nil rfl) rfl) rfl) (fun vs23 => ?_)
          refine T.nil ?_
          refine T.fallX ?_
          refine T.norm ?_
          refine T.region mix 3 [12, 13, 5] [0, 1, 3] [(sp ((TI .i64).sv s5)), (sp ((TI .i64).sv (IntKind.i64.wrap (s5 + 1)))), (sp ((TI .i64).sv (IntKind.i64.wrap (s5 + 1))))] (by kernel_rfl) (AOK.cons (fun ρ a w hs hz hΓ hp => gp (d_move (hΓ 5 rfl))) (AOK.cons (fun ρ a w hs hz hΓ hp => gp (d_add (hp 0 _ rfl rfl).1 (vI rfl))) (AOK.cons (fun ρ a w hs hz hΓ hp => gp (d_assign (hp 1 _ rfl rfl).1)) AOK.nil rfl) rfl) rfl) (fun vs24 => ?_)
          refine T.nil ?_
          obtain rfl := Option.some.inj hu3
          exact T.again hn3 () (fun φ h => T.toh h ⟨fun _ _ h => h, fun _ _ h => h, fun _ _ h => h, trivial⟩ ⟨rfl, trivial⟩)
        · skip
          refine T.block ?_
          refine T.loop (f := laws_markStrokeS_l3 s5) (σ := (Int × Int × (List ((List Int) × (List Int) × Int)))) (Z := Unit) (fun s z => E [(0, (SRel.eq v0)), (1, ((TI .i64).sv s.1)), (5, ((TI .i64).sv s5)), (7, ((TI .i64).sv s.2.1))]) (fun s z => HL [(1, (slR 84 Y104 s.2.2 v0))]) e16 () (fun φ h => T.toh h ⟨fun _ _ h => h, fun _ _ h => h, fun _ _ h => h, fun _ _ h => h, trivial⟩ ⟨rfl, trivial⟩) (fun k s z uu15 hu15 hn15 => ?_)
          obtain ⟨s1_17, s7, sr1_18⟩ := s
          dsimp only [laws_markStrokeS_l3] at hu15
          refine T.seq ?_
          refine T.seq ?_
          refine T.region mix 2 [28, 29] [0, 1] [(sp ((TI .i64).sv s7)), (sp (TB.sv (decide (s7 < 2))))] (by kernel_rfl) (AOK.cons (fun ρ a w hs hz hΓ hp => gp (d_move (hΓ 7 rfl))) (AOK.cons (fun ρ a w hs hz hΓ hp => gp (d_lss (hp 0 _ rfl rfl).1 (vI rfl))) AOK.nil rfl) rfl) (fun vs25 => ?_)
          refine T.nil ?_
          refine T.norm ?_
          refine T.cond (b := (decide (s7 < 2))) (fun _ _ h => h) (fun hc => ?_) (fun hc => ?_)
          · replace hu15 := iteT hu15 hc
            refine T.skip ?_
            refine T.norm ?_
            refine T.seq ?_
            refine T.block ?_
            refine T.seq ?_
            obtain ⟨x37, e27, hu15⟩ := bindS hu15
            obtain ⟨x39, e28, hu15⟩ := bindS hu15
            refine T.region mix 8 [32, 33, 34, 35, 36, 37, 38, 39] [0, 0, 0, 0, 8, 3, 35, 127, 255] [(sp (SRel.eq v0)), (sp ((TI .i64).sv s5)), (sp ((TI .i64).sv s7)), (sp ((TI .i64).sv s1_17)), (sp ((TI .i16).sv (IntKind.i16.wrap s1_17))), (sp (SRel.eq (at_ v0 (s5.toNat * Y104.n + 0)))), (sp (SRel.eq (at_ v0 (s5.toNat * Y104.n + (0 + 2))))), (sp (SRel.eq (at_ v0 (s5.toNat * Y104.n + (0 + 2 + s7.toNat * (TI .i16).n)))))] (by kernel_rfl) (AOK.cons (fun ρ a w hs hz hΓ hp => gp (d_move (hΓ 0 rfl))) (AOK.cons (fun ρ a w hs hz hΓ hp => gp (d_move (hΓ 5 rfl))) (AOK.cons (fun ρ a w hs hz hΓ hp => gp (d_move (hΓ 7 rfl))) (AOK.cons (fun ρ a w hs hz hΓ hp => gp (d_move (hΓ 1 rfl))) (AOK.cons (fun ρ a w hs hz hΓ hp => gp (d_conv u3 u23 (hp 3 _ rfl rfl).1)) (AOK.cons (fun ρ a w hs hz hΓ hp => gp (d_idxS u30 y84 hs 1 rfl (hp 0 _ rfl rfl).1 (hp 1 _ rfl rfl).1 e27)) (AOK.cons (fun ρ a w hs hz hΓ hp => gp (d_fieldS fa84_1 hs 1 rfl (idx_get e27).2 (hp 5 _ rfl rfl).1)) (AOK.cons (fun ρ a w hs hz hΓ hp => gp (d_idxSA u32 y23 hs 1 rfl (idx_get e27).2 (hp 6 _ rfl rfl).1 (At.fst (At.snd (At.refl Y104 x37))) (hp 2 _ rfl rfl).1 e28)) AOK.nil rfl) rfl) rfl) rfl) rfl) rfl) rfl) rfl) (fun vs26 => ?_)
            refine T.storeS 1 y23 rfl (idx_get e27).2 (fun ρ a w st => ⟨(st.env 39), (st.env 36)⟩) (At.elem (At.fst (At.snd (At.refl Y104 x37))) (idx_get e28).2) ?_
            refine T.nil ?_
            refine T.norm ?_
            refine T.region mix 3 [40, 41, 1] [0, 1, 3] [(sp ((TI .i64).sv s1_17)), (sp ((TI .i64).sv (IntKind.i64.wrap (s1_17 + 1)))), (sp ((TI .i64).sv (IntKind.i64.wrap (s1_17 + 1))))] (by kernel_rfl) (AOK.cons (fun ρ a w hs hz hΓ hp => gp (d_move (hΓ 1 rfl))) (AOK.cons (fun ρ a w hs hz hΓ hp => gp (d_add (hp 0 _ rfl rfl).1 (vI rfl))) (AOK.cons (fun ρ a w hs hz hΓ hp => gp (d_assign (hp 1 _ rfl rfl).1)) AOK.nil rfl) rfl) rfl) (fun vs29 => ?_)
            refine T.nil ?_
            refine T.fallX ?_
            refine T.norm ?_
            refine T.region mix 3 [30, 31, 7] [0, 1, 3] [(sp ((TI .i64).sv s7)), (sp ((TI .i64).sv (IntKind.i64.wrap (s7 + 1)))), (sp ((TI .i64).sv (IntKind.i64.wrap (s7 + 1))))] (by kernel_rfl) (AOK.cons (fun ρ a w hs hz hΓ hp => gp (d_move (hΓ 7 rfl))) (AOK.cons (fun ρ a w hs hz hΓ hp => gp (d_add (hp 0 _ rfl rfl).1 (vI rfl))) (AOK.cons (fun ρ a w hs hz hΓ hp => gp (d_assign (hp 1 _ rfl rfl).1)) AOK.nil rfl) rfl) rfl) (fun vs30 => ?_)
            refine T.nil ?_
            obtain rfl := Option.some.inj hu15
            exact T.again hn15 () (fun φ h => T.toh h ⟨fun _ _ h => h, fun _ _ h => h, fun _ _ h => h, fun _ _ h => h, trivial⟩ ⟨rfl, trivial⟩)
          · replace hu15 := iteF hu15 hc
            refine T.exit ?_
            obtain rfl := Option.some.inj hu15
            repeat (first | refine T.passX ?_ | refine T.inX (by decide) ?_)
            refine T.hereX ?_
            exact T.toh (hk ((s1_17, s7, sr1_18), ()) (Eq.symm hn15)) ⟨fun _ _ h => h, fun _ _ h => h, fun _ _ h => h, trivial⟩ ⟨rfl, trivial⟩
      · skip
        refine T.block ?_
        refine T.loop (f := laws_markStrokeS_l2 s5) (σ := (Int × Int × (List ((List Int) × (List Int) × Int)))) (Z := Unit) (fun s z => E [(0, (SRel.eq v0)), (1, ((TI .i64).sv s.1)), (5, ((TI .i64).sv s5)), (6, ((TI .i64).sv s.2.1))]) (fun s z => HL [(1, (slR 84 Y104 s.2.2 v0))]) e9 () (fun φ h => T.toh h ⟨fun _ _ h => h, fun _ _ h => h, fun _ _ h => h, fun _ _ h => h, trivial⟩ ⟨rfl, trivial⟩) (fun k s z uu8 hu8 hn8 => ?_)
        obtain ⟨s1_10, s6, sr1_11⟩ := s
        dsimp only [laws_markStrokeS_l2] at hu8
        refine T.seq ?_
        refine T.seq ?_
        refine T.region mix 2 [14, 15] [0, 1] [(sp ((TI .i64).sv s6)), (sp (TB.sv (decide (s6 < 2))))] (by kernel_rfl) (AOK.cons (fun ρ a w hs hz hΓ hp => gp (d_move (hΓ 6 rfl))) (AOK.cons (fun ρ a w hs hz hΓ hp => gp (d_lss (hp 0 _ rfl rfl).1 (vI rfl))) AOK.nil rfl) rfl) (fun vs31 => ?_)
        refine T.nil ?_
        refine T.norm ?_
        refine T.cond (b := (decide (s6 < 2))) (fun _ _ h => h) (fun hc => ?_) (fun hc => ?_)
        · replace hu8 := iteT hu8 hc
          refine T.skip ?_
          refine T.norm ?_
          refine T.seq ?_
          refine T.block ?_
          refine T.seq ?_
          obtain ⟨x23, e33, hu8⟩ := bindS hu8
          obtain ⟨x25, e34, hu8⟩ := bindS hu8
          refine T.region mix 8 [18, 19, 20, 21, 22, 23, 24, 25] [0, 0, 0, 0, 8, 3, 35, 127, 255] [(sp (SRel.eq v0)), (sp ((TI .i64).sv s5)), (sp ((TI .i64).sv s6)), (sp ((TI .i64).sv s1_10)), (sp ((TI .i16).sv (IntKind.i16.wrap s1_10))), (sp (SRel.eq (at_ v0 (s5.toNat * Y104.n + 0)))), (sp (SRel.eq (at_ v0 (s5.toNat * Y104.n + (0 + 0))))), (sp (SRel.eq (at_ v0 (s5.toNat * Y104.n + (0 + 0 + s6.toNat * (TI .i16).n)))))] (by kernel_rfl) (AOK.cons (fun ρ a w hs hz hΓ hp => gp (d_move (hΓ 0 rfl))) (AOK.cons (fun ρ a w hs hz hΓ hp => gp (d_move (hΓ 5 rfl))) (AOK.cons (fun ρ a w hs hz hΓ hp => gp (d_move (hΓ 6 rfl))) (AOK.cons (fun ρ a w hs hz hΓ hp => gp (d_move (hΓ 1 rfl))) (AOK.cons (fun ρ a w hs hz hΓ hp => gp (d_conv u3 u23 (hp 3 _ rfl rfl).1)) (AOK.cons (fun ρ a w hs hz hΓ hp => gp (d_idxS u30 y84 hs 1 rfl (hp 0 _ rfl rfl).1 (hp 1 _ rfl rfl).1 e33)) (AOK.cons (fun ρ a w hs hz hΓ hp => gp (d_fieldS fa84_0 hs 1 rfl (idx_get e33).2 (hp 5 _ rfl rfl).1)) (AOK.cons (fun ρ a w hs hz hΓ hp => gp (d_idxSA u32 y23 hs 1 rfl (idx_get e33).2 (hp 6 _ rfl rfl).1 (At.fst (At.refl Y104 x23)) (hp 2 _ rfl rfl).1 e34)) AOK.nil rfl) rfl) rfl) rfl) rfl) rfl) rfl) rfl) (fun vs32 => ?_)
          refine T.storeS 1 y23 rfl (idx_get e33).2 (fun ρ a w st => ⟨(st.env 25), (st.env 22)⟩) (At.elem (At.fst (At.refl Y104 x23)) (idx_get e34).2) ?_
          refine T.nil ?_
          refine T.norm ?_
          refine T.region mix 3 [26, 27, 1] [0, 1, 3] [(sp ((TI .i64).sv s1_10)), (sp ((TI .i64).sv (IntKind.i64.wrap (s1_10 + 1)))), (sp ((TI .i64).sv (IntKind.i64.wrap (s1_10 + 1))))] (by kernel_rfl) (AOK.cons (fun ρ a w hs hz hΓ hp => gp (d_move (hΓ 1 rfl))) (AOK.cons (fun ρ a w hs hz hΓ hp => gp (d_add (hp 0 _ rfl rfl).1 (vI rfl))) (AOK.cons (fun ρ a w hs hz hΓ hp => gp (d_assign (hp 1 _ rfl rfl).1)) AOK.nil rfl) rfl) rfl) (fun vs35 => ?_)
          refine T.nil ?_
          refine T.fallX ?_
          refine T.norm ?_
          refine T.region mix 3 [16, 17, 6] [0, 1, 3] [(sp ((TI .i64).sv s6)), (sp ((TI .i64).sv (IntKind.i64.wrap (s6 + 1)))), (sp ((TI .i64).sv (IntKind.i64.wrap (s6 + 1))))] (by kernel_rfl) (AOK.cons (fun ρ a w hs hz hΓ hp => gp (d_move (hΓ 6 rfl))) (AOK.cons (fun ρ a w hs hz hΓ hp => gp (d_add (hp 0 _ rfl rfl).1 (vI rfl))) (AOK.cons (fun ρ a w hs hz hΓ hp => gp (d_assign (hp 1 _ rfl rfl).1)) AOK.nil rfl) rfl) rfl) (fun vs36 => ?_)
          refine T.nil ?_
          obtain rfl := Option.some.inj hu8
          exact T.again hn8 () (fun φ h => T.toh h ⟨fun _ _ h => h, fun _ _ h => h, fun _ _ h => h, fun _ _ h => h, trivial⟩ ⟨rfl, trivial⟩)
        · replace hu8 := iteF hu8 hc
          refine T.exit ?_
          obtain rfl := Option.some.inj hu8
          repeat (first | refine T.passX ?_ | refine T.inX (by decide) ?_)
          refine T.hereX ?_
          exact T.toh (hk ((s1_10, s6, sr1_11), ()) (Eq.symm hn8)) ⟨fun _ _ h => h, fun _ _ h => h, fun _ _ h => h, trivial⟩ ⟨rfl, trivial⟩
    · replace hu3 := iteF hu3 hc
      refine T.exit ?_
      obtain rfl := Option.some.inj hu3
      repeat (first | refine T.passX ?_ | refine T.inX (by decide) ?_)
      refine T.hereX ?_
      exact T.toh (hk ((s1, s5, sr1), ()) (Eq.symm hn3)) ⟨fun _ _ h => h, trivial⟩ ⟨rfl, trivial⟩

theorem c19 (w : World) (v0 v1 : Value) {x0 : (List Int)} {x1 : Int} {r : ((List Int) × Int)} (hF : laws_markInt64S x0 x1 = some r) (hm : (slR 2 (TI .i64) x0 v0).holds (snapX (blkOf v0).toList w) w) (h1 : (TI .i64).val (snapX (blkOf v0).toList w) v1 x1) :
    Calls Try.prog 19 #[v0, v1] w (RetM (blkOf v0).toList w ((TI .i64).sv r.2) (slR 2 (TI .i64) r.1 v0)) := by
  unfold laws_markInt64S at hF
  refine start (args := [v0, v1]) Try.func19 rfl 19 rfl (blkOf v0).toList [(0, (SRel.eq v0)), (1, ((TI .i64).sv x1))] [(1, (slR 2 (TI .i64) x0 v0))] (sat_mut (r := (slR 2 (TI .i64) x0 v0)) 1 hm) rfl (args1 rfl rfl (args1 rfl h1 (args0))) ?_
  refine T.seq ?_
  refine T.region mix 1 [4] [0] [(sp ((TI .i64).sv 0))] (by kernel_rfl) (AOK.cons (fun ρ a w hs hz hΓ hp => gp (d_assign (vI rfl))) AOK.nil rfl) (fun vs1 => ?_)
  refine T.nil ?_
  refine T.norm ?_
  refine T.seq ?_
  refine T.seq ?_
  refine T.region mix 1 [5] [0] [(sp ((TI .i64).sv 0))] (by kernel_rfl) (AOK.cons (fun ρ a w hs hz hΓ hp => gp (d_assign (vI rfl))) AOK.nil rfl) (fun vs2 => ?_)
  refine T.nil ?_
  refine T.norm ?_
  obtain ⟨yl3, e4, hF⟩ := bindS hF
  refine T.joinD (ι := (Int × Int × (List Int)) × (Unit)) (fun p => yl3 = p.1) (Γ' := fun p => E [(1, ((TI .i64).sv p.1.1))]) (H' := fun p => HL [(1, (slR 2 (TI .i64) p.1.2.2 v0))]) (fun p hy => ?_) (fun hk => ?_)
  · obtain ⟨⟨o1, o5, or1⟩, _⟩ := p
    cases hy
    refine T.norm ?_
    refine T.seq ?_
    refine T.region mix 2 [18, 4] [0, 1] [(sp ((TI .i64).sv o1)), (sp ((TI .i64).sv o1))] (by kernel_rfl) (AOK.cons (fun ρ a w hs hz hΓ hp => gp (d_move (hΓ 1 rfl))) (AOK.cons (fun ρ a w hs hz hΓ hp => gp (d_assign (hp 0 _ rfl rfl).1)) AOK.nil rfl) rfl) (fun vs5 => ?_)
    refine T.nil ?_
    refine T.norm ?_
    refine T.ret ?_
    obtain rfl := Option.some.inj hF
    refine T.finM fun ρ a w st => ?_
    exact ⟨_, results_one rfl rfl, fun σ => (Ty.Flat.val (flat_TI _) σ (st.env 4)), mut_on st.sat 1 rfl (loose_slR (flat_TI _)) rfl⟩
  · skip
    refine T.block ?_
    refine T.loop (f := laws_markInt64S_l1) (σ := (Int × Int × (List Int))) (Z := Unit) (fun s z => E [(0, (SRel.eq v0)), (1, ((TI .i64).sv s.1)), (5, ((TI .i64).sv s.2.1))]) (fun s z => HL [(1, (slR 2 (TI .i64) s.2.2 v0))]) e4 () (fun φ h => T.toh h ⟨fun _ _ h => h, fun _ _ h => h, fun _ _ h => h, trivial⟩ ⟨rfl, trivial⟩) (fun k s z uu3 hu3 hn3 => ?_)
    obtain ⟨s1, s5, sr1⟩ := s
    dsimp only [laws_markInt64S_l1] at hu3
    refine T.seq ?_
    refine T.seq ?_
    refine T.region mix 4 [6, 7, 8, 9] [0, 0, 2, 7] [(sp ((TI .i64).sv s5)), (sp (SRel.eq v0)), (sp ((TI .i64).sv (sr1.length : Int))), (sp (TB.sv (decide (s5 < (sr1.length : Int)))))] (by kernel_rfl) (AOK.cons (fun ρ a w hs hz hΓ hp => gp (d_move (hΓ 5 rfl))) (AOK.cons (fun ρ a w hs hz hΓ hp => gp (d_move (hΓ 0 rfl))) (AOK.cons (fun ρ a w hs hz hΓ hp => gp (d_lenS u26 hs 1 rfl (hp 1 _ rfl rfl).1)) (AOK.cons (fun ρ a w hs hz hΓ hp => gp (d_lss (hp 0 _ rfl rfl).1 (hp 2 _ rfl rfl).1)) AOK.nil rfl) rfl) rfl) rfl) (fun vs6 => ?_)
    refine T.nil ?_
    refine T.norm ?_
    refine T.cond (b := (decide (s5 < (sr1.length : Int)))) (fun _ _ h => h) (fun hc => ?_) (fun hc => ?_)
    · replace hu3 := iteT hu3 hc
      refine T.skip ?_
      refine T.norm ?_
      refine T.seq ?_
      refine T.block ?_
      refine T.seq ?_
      obtain ⟨x15, e8, hu3⟩ := bindS hu3
      refine T.region mix 4 [12, 13, 14, 15] [0, 0, 0, 7, 15] [(sp (SRel.eq v0)), (sp ((TI .i64).sv s5)), (sp ((TI .i64).sv s1)), (sp (SRel.eq (at_ v0 (s5.toNat * (TI .i64).n + 0))))] (by kernel_rfl) (AOK.cons (fun ρ a w hs hz hΓ hp => gp (d_move (hΓ 0 rfl))) (AOK.cons (fun ρ a w hs hz hΓ hp => gp (d_move (hΓ 5 rfl))) (AOK.cons (fun ρ a w hs hz hΓ hp => gp (d_move (hΓ 1 rfl))) (AOK.cons (fun ρ a w hs hz hΓ hp => gp (d_idxS u26 y2 hs 1 rfl (hp 0 _ rfl rfl).1 (hp 1 _ rfl rfl).1 e8)) AOK.nil rfl) rfl) rfl) rfl) (fun vs7 => ?_)
      refine T.storeS 1 y2 rfl (idx_get e8).2 (fun ρ a w st => ⟨(st.env 15), (st.env 14)⟩) (At.refl (TI .i64) x15) ?_
      refine T.nil ?_
      refine T.norm ?_
      refine T.region mix 3 [16, 17, 1] [0, 1, 3] [(sp ((TI .i64).sv s1)), (sp ((TI .i64).sv (IntKind.i64.wrap (s1 + 1)))), (sp ((TI .i64).sv (IntKind.i64.wrap (s1 + 1))))] (by kernel_rfl) (AOK.cons (fun ρ a w hs hz hΓ hp => gp (d_move (hΓ 1 rfl))) (AOK.cons (fun ρ a w hs hz hΓ hp => gp (d_add (hp 0 _ rfl rfl).1 (vI rfl))) (AOK.cons (fun ρ a w hs hz hΓ hp => gp (d_assign (hp 1 _ rfl rfl).1)) AOK.nil rfl) rfl) rfl) (fun vs9 => ?_)
      refine T.nil ?_
      refine T.fallX ?_
      refine T.norm ?_
      refine T.region mix 3 [10, 11, 5] [0, 1, 3] [(sp ((TI .i64).sv s5)), (sp ((TI .i64).sv (IntKind.i64.wrap (s5 + 1)))), (sp ((TI .i64).sv (IntKind.i64.wrap (s5 + 1))))] (by kernel_rfl) (AOK.cons (fun ρ a w hs hz hΓ hp => gp (d_move (hΓ 5 rfl))) (AOK.cons (fun ρ a w hs hz hΓ hp => gp (d_add (hp 0 _ rfl rfl).1 (vI rfl))) (AOK.cons (fun ρ a w hs hz hΓ hp => gp (d_assign (hp 1 _ rfl rfl).1)) AOK.nil rfl) rfl) rfl) (fun vs10 => ?_)
      refine T.nil ?_
      obtain rfl := Option.some.inj hu3
      exact T.again hn3 () (fun φ h => T.toh h ⟨fun _ _ h => h, fun _ _ h => h, fun _ _ h => h, trivial⟩ ⟨rfl, trivial⟩)
    · replace hu3 := iteF hu3 hc
      refine T.exit ?_
      obtain rfl := Option.some.inj hu3
      repeat (first | refine T.passX ?_ | refine T.inX (by decide) ?_)
      refine T.hereX ?_
      exact T.toh (hk ((s1, s5, sr1), ()) (Eq.symm hn3)) ⟨fun _ _ h => h, trivial⟩ ⟨rfl, trivial⟩

theorem c20 (w : World) (v0 v1 : Value) {x0 : (List Bool)} {x1 : Int} {r : ((List Bool) × Int)} (hF : laws_markBoolS x0 x1 = some r) (hm : (slR 4 TB x0 v0).holds (snapX (blkOf v0).toList w) w) (h1 : (TI .i64).val (snapX (blkOf v0).toList w) v1 x1) :
    Calls Try.prog 20 #[v0, v1] w (RetM (blkOf v0).toList w ((TI .i64).sv r.2) (slR 4 TB r.1 v0)) := by
  unfold laws_markBoolS at hF
  refine start (args := [v0, v1]) Try.func20 rfl 21 rfl (blkOf v0).toList [(0, (SRel.eq v0)), (1, ((TI .i64).sv x1))] [(1, (slR 4 TB x0 v0))] (sat_mut (r := (slR 4 TB x0 v0)) 1 hm) rfl (args1 rfl rfl (args1 rfl h1 (args0))) ?_
  refine T.seq ?_
  refine T.region mix 1 [4] [0] [(sp ((TI .i64).sv 0))] (by kernel_rfl) (AOK.cons (fun ρ a w hs hz hΓ hp => gp (d_assign (vI rfl))) AOK.nil rfl) (fun vs1 => ?_)
  refine T.nil ?_
  refine T.norm ?_
  refine T.seq ?_
  refine T.seq ?_
  refine T.region mix 1 [5] [0] [(sp ((TI .i64).sv 0))] (by kernel_rfl) (AOK.cons (fun ρ a w hs hz hΓ hp => gp (d_assign (vI rfl))) AOK.nil rfl) (fun vs2 => ?_)
  refine T.nil ?_
  refine T.norm ?_
  obtain ⟨yl3, e4, hF⟩ := bindS hF
  refine T.joinD (ι := (Int × Int × (List Bool)) × (Unit)) (fun p => yl3 = p.1) (Γ' := fun p => E [(1, ((TI .i64).sv p.1.1))]) (H' := fun p => HL [(1, (slR 4 TB p.1.2.2 v0))]) (fun p hy => ?_) (fun hk => ?_)
  · obtain ⟨⟨o1, o5, or1⟩, _⟩ := p
    cases hy
    refine T.norm ?_
    refine T.seq ?_
    refine T.region mix 2 [20, 4] [0, 1] [(sp ((TI .i64).sv o1)), (sp ((TI .i64).sv o1))] (by kernel_rfl) (AOK.cons (fun ρ a w hs hz hΓ hp => gp (d_move (hΓ 1 rfl))) (AOK.cons (fun ρ a w hs hz hΓ hp => gp (d_assign (hp 0 _ rfl rfl).1)) AOK.nil rfl) rfl) (fun vs5 => ?_)
    refine T.nil ?_
    refine T.norm ?_
    refine T.ret ?_
    obtain rfl := Option.some.inj hF
    refine T.finM fun ρ a w st => ?_
    exact ⟨_, results_one rfl rfl, fun σ => (Ty.Flat.val (flat_TI _) σ (st.env 4)), mut_on st.sat 1 rfl (loose_slR flat_TB) rfl⟩
  · skip
    refine T.block ?_
    refine T.loop (f := laws_markBoolS_l1) (σ := (Int × Int × (List Bool))) (Z := Unit) (fun s z => E [(0, (SRel.eq v0)), (1, ((TI .i64).sv s.1)), (5, ((TI .i64).sv s.2.1))]) (fun s z => HL [(1, (slR 4 TB s.2.2 v0))]) e4 () (fun φ h => T.toh h ⟨fun _ _ h => h, fun _ _ h => h, fun _ _ h => h, trivial⟩ ⟨rfl, trivial⟩) (fun k s z uu3 hu3 hn3 => ?_)
    obtain ⟨s1, s5, sr1⟩ := s
    dsimp only [laws_markBoolS_l1] at hu3
    refine T.seq ?_
    refine T.seq ?_
    refine T.region mix 4 [6, 7, 8, 9] [0, 0, 2, 7] [(sp ((TI .i64).sv s5)), (sp (SRel.eq v0)), (sp ((TI .i64).sv (sr1.length : Int))), (sp (TB.sv (decide (s5 < (sr1.length : Int)))))] (by kernel_rfl) (AOK.cons (fun ρ a w hs hz hΓ hp => gp (d_move (hΓ 5 rfl))) (AOK.cons (fun ρ a w hs hz hΓ hp => gp (d_move (hΓ 0 rfl))) (AOK.cons (fun ρ a w hs hz hΓ hp => gp (d_lenS u27 hs 1 rfl (hp 1 _ rfl rfl).1)) (AOK.cons (fun ρ a w hs hz hΓ hp => gp (d_lss (hp 0 _ rfl rfl).1 (hp 2 _ rfl rfl).1)) AOK.nil rfl) rfl) rfl) rfl) (fun vs6 => ?_)
    refine T.nil ?_
    refine T.norm ?_
    refine T.cond (b := (decide (s5 < (sr1.length : Int)))) (fun _ _ h => h) (fun hc => ?_) (fun hc => ?_)
    · replace hu3 := iteT hu3 hc
      refine T.skip ?_
      refine T.norm ?_
      refine T.seq ?_
      refine T.block ?_
      refine T.seq ?_
      obtain ⟨x17, e8, hu3⟩ := bindS hu3
      refine T.region mix 6 [12, 13, 14, 15, 16, 17] [0, 0, 0, 4, 12, 31, 63] [(sp (SRel.eq v0)), (sp ((TI .i64).sv s5)), (sp ((TI .i64).sv s1)), (sp ((TI .i64).sv (Int.tmod s1 3))), (sp (TB.sv (decide ((Int.tmod s1 3) = 0)))), (sp (SRel.eq (at_ v0 (s5.toNat * TB.n + 0))))] (by kernel_rfl) (AOK.cons (fun ρ a w hs hz hΓ hp => gp (d_move (hΓ 0 rfl))) (AOK.cons (fun ρ a w hs hz hΓ hp => gp (d_move (hΓ 5 rfl))) (AOK.cons (fun ρ a w hs hz hΓ hp => gp (d_move (hΓ 1 rfl))) (AOK.cons (fun ρ a w hs hz hΓ hp => gp (d_rem (hp 2 _ rfl rfl).1 (vI rfl) (by decide))) (AOK.cons (fun ρ a w hs hz hΓ hp => gp (d_eql (hp 3 _ rfl rfl).1 (vI rfl))) (AOK.cons (fun ρ a w hs hz hΓ hp => gp (d_idxS u27 y4 hs 1 rfl (hp 0 _ rfl rfl).1 (hp 1 _ rfl rfl).1 e8)) AOK.nil rfl) rfl) rfl) rfl) rfl) rfl) (fun vs7 => ?_)
      refine T.storeS 1 y4 rfl (idx_get e8).2 (fun ρ a w st => ⟨(st.env 17), (st.env 16)⟩) (At.refl TB x17) ?_
      refine T.nil ?_
      refine T.norm ?_
      refine T.region mix 3 [18, 19, 1] [0, 1, 3] [(sp ((TI .i64).sv s1)), (sp ((TI .i64).sv (IntKind.i64.wrap (s1 + 1)))), (sp ((TI .i64).sv (IntKind.i64.wrap (s1 + 1))))] (by kernel_rfl) (AOK.cons (fun ρ a w hs hz hΓ hp => gp (d_move (hΓ 1 rfl))) (AOK.cons (fun ρ a w hs hz hΓ hp => gp (d_add (hp 0 _ rfl rfl).1 (vI rfl))) (AOK.cons (fun ρ a w hs hz hΓ hp => gp (d_assign (hp 1 _ rfl rfl).1)) AOK.nil rfl) rfl) rfl) (fun vs9 => ?_)
      refine T.nil ?_
      refine T.fallX ?_
      refine T.norm ?_
      refine T.region mix 3 [10, 11, 5] [0, 1, 3] [(sp ((TI .i64).sv s5)), (sp ((TI .i64).sv (IntKind.i64.wrap (s5 + 1)))), (sp ((TI .i64).sv (IntKind.i64.wrap (s5 + 1))))] (by kernel_rfl) (AOK.cons (fun ρ a w hs hz hΓ hp => gp (d_move (hΓ 5 rfl))) (AOK.cons (fun ρ a w hs hz hΓ hp => gp (d_add (hp 0 _ rfl rfl).1 (vI rfl))) (AOK.cons (fun ρ a w hs hz hΓ hp => gp (d_assign (hp 1 _ rfl rfl).1)) AOK.nil rfl) rfl) rfl) (fun vs10 => ?_)
      refine T.nil ?_
      obtain rfl := Option.some.inj hu3
      exact T.again hn3 () (fun φ h => T.toh h ⟨fun _ _ h => h, fun _ _ h => h, fun _ _ h => h, trivial⟩ ⟨rfl, trivial⟩)
    · replace hu3 := iteF hu3 hc
      refine T.exit ?_
      obtain rfl := Option.some.inj hu3
      repeat (first | refine T.passX ?_ | refine T.inX (by decide) ?_)
      refine T.hereX ?_
      exact T.toh (hk ((s1, s5, sr1), ()) (Eq.symm hn3)) ⟨fun _ _ h => h, trivial⟩ ⟨rfl, trivial⟩

theorem c21 (w : World) (v0 v1 : Value) {σ : Heap} (hσ : σ.le (snap w)) {x0 : (List Int)} {x1 : Int} {r : Int} (hF : laws_heldInt64S x0 x1 = some r) (h0 : Y26.val σ v0 x0) (h1 : (TI .i64).val σ v1 x1) :
    Calls Try.prog 21 #[v0, v1] w (Ret [] w σ ((TI .i64).sv r) []) := by
  unfold laws_heldInt64S at hF
  refine start (args := [v0, v1]) Try.func21 rfl 21 rfl [] [(0, (Y26.sv x0)), (1, ((TI .i64).sv x1))] [] (sat_start _ hσ) rfl (args1 rfl h0 (args1 rfl h1 (args0))) ?_
  refine T.seq ?_
  refine T.region mix 1 [4] [0] [(sp ((TI .i64).sv 0))] (by kernel_rfl) (AOK.cons (fun ρ a w hs hz hΓ hp => gp (d_assign (vI rfl))) AOK.nil rfl) (fun vs1 => ?_)
  refine T.nil ?_
  refine T.norm ?_
  refine T.seq ?_
  refine T.seq ?_
  refine T.region mix 1 [5] [0] [(sp ((TI .i64).sv 0))] (by kernel_rfl) (AOK.cons (fun ρ a w hs hz hΓ hp => gp (d_assign (vI rfl))) AOK.nil rfl) (fun vs2 => ?_)
  refine T.nil ?_
  refine T.norm ?_
  obtain ⟨yl3, e4, hF⟩ := bindS hF
  refine T.joinD (ι := (Int × Int) × (Unit)) (fun p => yl3 = .inl p.1) (Γ' := fun p => E [(1, ((TI .i64).sv p.1.1))]) (H' := fun p => HL []) (fun p hy => ?_) (fun hk => ?_)
  · obtain ⟨⟨o1, o5⟩, _⟩ := p
    cases hy
    refine T.norm ?_
    refine T.seq ?_
    refine T.region mix 2 [20, 4] [0, 1] [(sp ((TI .i64).sv o1)), (sp ((TI .i64).sv o1))] (by kernel_rfl) (AOK.cons (fun ρ a w hs hz hΓ hp => gp (d_move (hΓ 1 rfl))) (AOK.cons (fun ρ a w hs hz hΓ hp => gp (d_assign (hp 0 _ rfl rfl).1)) AOK.nil rfl) rfl) (fun vs5 => ?_)
    refine T.nil ?_
    refine T.norm ?_
    refine T.ret ?_
    obtain rfl := Option.some.inj hF
    refine T.fin0 fun ρ a w st => ?_
    exact ⟨_, results_one rfl rfl, (st.env 4)⟩
  · skip
    refine T.block ?_
    refine T.loop (f := laws_heldInt64S_l1 x0) (σ := (Int × Int)) (Z := Unit) (fun s z => E [(0, (Y26.sv x0)), (1, ((TI .i64).sv s.1)), (5, ((TI .i64).sv s.2))]) (fun s z => HL []) e4 () (fun φ h => T.toh h ⟨fun _ _ h => h, fun _ _ h => h, fun _ _ h => h, trivial⟩ trivial) (fun k s z uu3 hu3 hn3 => ?_)
    obtain ⟨s1, s5⟩ := s
    dsimp only [laws_heldInt64S_l1] at hu3
    refine T.seq ?_
    refine T.seq ?_
    refine T.region mix 4 [6, 7, 8, 9] [0, 0, 2, 7] [(sp ((TI .i64).sv s5)), (sp (Y26.sv x0)), (sp ((TI .i64).sv (x0.length : Int))), (sp (TB.sv (decide (s5 < (x0.length : Int)))))] (by kernel_rfl) (AOK.cons (fun ρ a w hs hz hΓ hp => gp (d_move (hΓ 5 rfl))) (AOK.cons (fun ρ a w hs hz hΓ hp => gp (d_move (hΓ 0 rfl))) (AOK.cons (fun ρ a w hs hz hΓ hp => gp (d_lenR u26 (hp 1 _ rfl rfl).1)) (AOK.cons (fun ρ a w hs hz hΓ hp => gp (d_lss (hp 0 _ rfl rfl).1 (hp 2 _ rfl rfl).1)) AOK.nil rfl) rfl) rfl) rfl) (fun vs6 => ?_)
    refine T.nil ?_
    refine T.norm ?_
    refine T.cond (b := (decide (s5 < (x0.length : Int)))) (fun _ _ h => h) (fun hc => ?_) (fun hc => ?_)
    · replace hu3 := iteT hu3 hc
      refine T.skip ?_
      refine T.norm ?_
      refine T.seq ?_
      refine T.block ?_
      refine T.seq ?_
      refine T.seq ?_
      obtain ⟨x14, e8, hu3⟩ := bindS hu3
      refine T.region mix 6 [12, 13, 14, 15, 16, 17] [0, 0, 3, 7, 0, 31] [(sp (Y26.sv x0)), (sp ((TI .i64).sv s5)), (sp ((TP (TI .i64)).sv x14)), (sp ((TI .i64).sv x14)), (sp ((TI .i64).sv s1)), (sp (TB.sv (decide (x14 ≠ s1))))] (by kernel_rfl) (AOK.cons (fun ρ a w hs hz hΓ hp => gp (d_move (hΓ 0 rfl))) (AOK.cons (fun ρ a w hs hz hΓ hp => gp (d_move (hΓ 5 rfl))) (AOK.cons (fun ρ a w hs hz hΓ hp => gp (d_idxR u26 y2 (hp 0 _ rfl rfl).1 (hp 1 _ rfl rfl).1 e8)) (AOK.cons (fun ρ a w hs hz hΓ hp => gp (d_load y2 hs.le (hp 2 _ rfl rfl).1)) (AOK.cons (fun ρ a w hs hz hΓ hp => gp (d_move (hΓ 1 rfl))) (AOK.cons (fun ρ a w hs hz hΓ hp => gp (d_neq (hp 3 _ rfl rfl).1 (hp 4 _ rfl rfl).1)) AOK.nil rfl) rfl) rfl) rfl) rfl) rfl) (fun vs7 => ?_)
      refine T.nil ?_
      refine T.norm ?_
      refine T.cond (b := (decide (x14 ≠ s1))) (fun _ _ h => h) (fun hc => ?_) (fun hc => ?_)
      · replace hu3 := iteT hu3 hc
        refine T.seq ?_
        refine T.region mix 1 [4] [0] [(sp ((TI .i64).sv (-1)))] (by kernel_rfl) (AOK.cons (fun ρ a w hs hz hΓ hp => gp (d_assign (vI rfl))) AOK.nil rfl) (fun vs9 => ?_)
        refine T.nil ?_
        refine T.norm ?_
        refine T.ret ?_
        obtain rfl := Option.some.inj hu3
        cases hn3
        obtain rfl := Option.some.inj hF
        refine T.fin0 fun ρ a w st => ?_
        exact ⟨_, results_one rfl rfl, (st.env 4)⟩
      · replace hu3 := iteF hu3 hc
        refine T.skip ?_
        refine T.norm ?_
        refine T.region mix 3 [18, 19, 1] [0, 1, 3] [(sp ((TI .i64).sv s1)), (sp ((TI .i64).sv (IntKind.i64.wrap (s1 + 1)))), (sp ((TI .i64).sv (IntKind.i64.wrap (s1 + 1))))] (by kernel_rfl) (AOK.cons (fun ρ a w hs hz hΓ hp => gp (d_move (hΓ 1 rfl))) (AOK.cons (fun ρ a w hs hz hΓ hp => gp (d_add (hp 0 _ rfl rfl).1 (vI rfl))) (AOK.cons (fun ρ a w hs hz hΓ hp => gp (d_assign (hp 1 _ rfl rfl).1)) AOK.nil rfl) rfl) rfl) (fun vs10 => ?_)
        refine T.nil ?_
        refine T.fallX ?_
        refine T.norm ?_
        refine T.region mix 3 [10, 11, 5] [0, 1, 3] [(sp ((TI .i64).sv s5)), (sp ((TI .i64).sv (IntKind.i64.wrap (s5 + 1)))), (sp ((TI .i64).sv (IntKind.i64.wrap (s5 + 1))))] (by kernel_rfl) (AOK.cons (fun ρ a w hs hz hΓ hp => gp (d_move (hΓ 5 rfl))) (AOK.cons (fun ρ a w hs hz hΓ hp => gp (d_add (hp 0 _ rfl rfl).1 (vI rfl))) (AOK.cons (fun ρ a w hs hz hΓ hp => gp (d_assign (hp 1 _ rfl rfl).1)) AOK.nil rfl) rfl) rfl) (fun vs11 => ?_)
        refine T.nil ?_
        obtain rfl := Option.some.inj hu3
        exact T.again hn3 () (fun φ h => T.toh h ⟨fun _ _ h => h, fun _ _ h => h, fun _ _ h => h, trivial⟩ trivial)
    · replace hu3 := iteF hu3 hc
      refine T.exit ?_
      obtain rfl := Option.some.inj hu3
      repeat (first | refine T.passX ?_ | refine T.inX (by decide) ?_)
      refine T.hereX ?_
      exact T.toh (hk ((s1, s5), ()) (Eq.symm hn3)) ⟨fun _ _ h => h, trivial⟩ trivial

theorem c22 (w : World) (v0 v1 : Value) {σ : Heap} (hσ : σ.le (snap w)) {x0 : (List Bool)} {x1 : Int} {r : Int} (hF : laws_heldBoolS x0 x1 = some r) (h0 : Y27.val σ v0 x0) (h1 : (TI .i64).val σ v1 x1) :
    Calls Try.prog 22 #[v0, v1] w (Ret [] w σ ((TI .i64).sv r) []) := by
  unfold laws_heldBoolS at hF
  refine start (args := [v0, v1]) Try.func22 rfl 23 rfl [] [(0, (Y27.sv x0)), (1, ((TI .i64).sv x1))] [] (sat_start _ hσ) rfl (args1 rfl h0 (args1 rfl h1 (args0))) ?_
  refine T.seq ?_
  refine T.region mix 1 [4] [0] [(sp ((TI .i64).sv 0))] (by kernel_rfl) (AOK.cons (fun ρ a w hs hz hΓ hp => gp (d_assign (vI rfl))) AOK.nil rfl) (fun vs1 => ?_)
  refine T.nil ?_
  refine T.norm ?_
  refine T.seq ?_
  refine T.seq ?_
  refine T.region mix 1 [5] [0] [(sp ((TI .i64).sv 0))] (by kernel_rfl) (AOK.cons (fun ρ a w hs hz hΓ hp => gp (d_assign (vI rfl))) AOK.nil rfl) (fun vs2 => ?_)
  refine T.nil ?_
  refine T.norm ?_
  obtain ⟨yl3, e4, hF⟩ := bindS hF
  refine T.joinD (ι := (Int × Int) × (Unit)) (fun p => yl3 = .inl p.1) (Γ' := fun p => E [(1, ((TI .i64).sv p.1.1))]) (H' := fun p => HL []) (fun p hy => ?_) (fun hk => ?_)
  · obtain ⟨⟨o1, o5⟩, _⟩ := p
    cases hy
    refine T.norm ?_
    refine T.seq ?_
    refine T.region mix 2 [22, 4] [0, 1] [(sp ((TI .i64).sv o1)), (sp ((TI .i64).sv o1))] (by kernel_rfl) (AOK.cons (fun ρ a w hs hz hΓ hp => gp (d_move (hΓ 1 rfl))) (AOK.cons (fun ρ a w hs hz hΓ hp => gp (d_assign (hp 0 _ rfl rfl).1)) AOK.nil rfl) rfl) (fun vs5 => ?_)
    refine T.nil ?_
    refine T.norm ?_
    refine T.ret ?_
    obtain rfl := Option.some.inj hF
    refine T.fin0 fun ρ a w st => ?_
    exact ⟨_, results_one rfl rfl, (st.env 4)⟩
  · skip
    refine T.block ?_
    refine T.loop (f := laws_heldBoolS_l1 x0) (σ := (Int × Int)) (Z := Unit) (fun s z => E [(0, (Y27.sv x0)), (1, ((TI .i64).sv s.1)), (5, ((TI .i64).sv s.2))]) (fun s z => HL []) e4 () (fun φ h => T.toh h ⟨fun _ _ h => h, fun _ _ h => h, fun _ _ h => h, trivial⟩ trivial) (fun k s z uu3 hu3 hn3 => ?_)
    obtain ⟨s1, s5⟩ := s
    dsimp only [laws_heldBoolS_l1] at hu3
    refine T.seq ?_
    refine T.seq ?_
    refine T.region mix 4 [6, 7, 8, 9] [0, 0, 2, 7] [(sp ((TI .i64).sv s5)), (sp (Y27.sv x0)), (sp ((TI .i64).sv (x0.length : Int))), (sp (TB.sv (decide (s5 < (x0.length : Int)))))] (by kernel_rfl) (AOK.cons (fun ρ a w hs hz hΓ hp => gp (d_move (hΓ 5 rfl))) (AOK.cons (fun ρ a w hs hz hΓ hp => gp (d_move (hΓ 0 rfl))) (AOK.cons (fun ρ a w hs hz hΓ hp => gp (d_lenR u27 (hp 1 _ rfl rfl).1)) (AOK.cons (fun ρ a w hs hz hΓ hp => gp (d_lss (hp 0 _ rfl rfl).1 (hp 2 _ rfl rfl).1)) AOK.nil rfl) rfl) rfl) rfl) (fun vs6 => ?_)
    refine T.nil ?_
    refine T.norm ?_
    refine T.cond (b := (decide (s5 < (x0.length : Int)))) (fun _ _ h => h) (fun hc => ?_) (fun hc => ?_)
    · replace hu3 := iteT hu3 hc
      refine T.skip ?_
      refine T.norm ?_
      refine T.seq ?_
      refine T.block ?_
      refine T.seq ?_
      refine T.seq ?_
      obtain ⟨x14, e8, hu3⟩ := bindS hu3
      refine T.region mix 8 [12, 13, 14, 15, 16, 17, 18, 19] [0, 0, 3, 7, 0, 16, 48, 127] [(sp (Y27.sv x0)), (sp ((TI .i64).sv s5)), (sp ((TP TB).sv x14)), (sp (TB.sv x14)), (sp ((TI .i64).sv s1)), (sp ((TI .i64).sv (Int.tmod s1 3))), (sp (TB.sv (decide ((Int.tmod s1 3) = 0)))), (sp (TB.sv (x14 != (decide ((Int.tmod s1 3) = 0)))))] (by kernel_rfl) (AOK.cons (fun ρ a w hs hz hΓ hp => gp (d_move (hΓ 0 rfl))) (AOK.cons (fun ρ a w hs hz hΓ hp => gp (d_move (hΓ 5 rfl))) (AOK.cons (fun ρ a w hs hz hΓ hp => gp (d_idxR u27 y4 (hp 0 _ rfl rfl).1 (hp 1 _ rfl rfl).1 e8)) (AOK.cons (fun ρ a w hs hz hΓ hp => gp (d_load y4 hs.le (hp 2 _ rfl rfl).1)) (AOK.cons (fun ρ a w hs hz hΓ hp => gp (d_move (hΓ 1 rfl))) (AOK.cons (fun ρ a w hs hz hΓ hp => gp (d_rem (hp 4 _ rfl rfl).1 (vI rfl) (by decide))) (AOK.cons (fun ρ a w hs hz hΓ hp => gp (d_eql (hp 5 _ rfl rfl).1 (vI rfl))) (AOK.cons (fun ρ a w hs hz hΓ hp => gp (d_neqB u4 (hp 3 _ rfl rfl).1 (hp 6 _ rfl rfl).1)) AOK.nil rfl) rfl) rfl) rfl) rfl) rfl) rfl) rfl) (fun vs7 => ?_)
      refine T.nil ?_
      refine T.norm ?_
      refine T.cond (b := (x14 != (decide ((Int.tmod s1 3) = 0)))) (fun _ _ h => h) (fun hc => ?_) (fun hc => ?_)
      · replace hu3 := iteT hu3 hc
        refine T.seq ?_
        refine T.region mix 1 [4] [0] [(sp ((TI .i64).sv (-1)))] (by kernel_rfl) (AOK.cons (fun ρ a w hs hz hΓ hp => gp (d_assign (vI rfl))) AOK.nil rfl) (fun vs9 => ?_)
        refine T.nil ?_
        refine T.norm ?_
        refine T.ret ?_
        obtain rfl := Option.some.inj hu3
        cases hn3
        obtain rfl := Option.some.inj hF
        refine T.fin0 fun ρ a w st => ?_
        exact ⟨_, results_one rfl rfl, (st.env 4)⟩
      · replace hu3 := iteF hu3 hc
        refine T.skip ?_
        refine T.norm ?_
        refine T.region mix 3 [20, 21, 1] [0, 1, 3] [(sp ((TI .i64).sv s1)), (sp ((TI .i64).sv (IntKind.i64.wrap (s1 + 1)))), (sp ((TI .i64).sv (IntKind.i64.wrap (s1 + 1))))] (by kernel_rfl) (AOK.cons (fun ρ a w hs hz hΓ hp => gp (d_move (hΓ 1 rfl))) (AOK.cons (fun ρ a w hs hz hΓ hp => gp (d_add (hp 0 _ rfl rfl).1 (vI rfl))) (AOK.cons (fun ρ a w hs hz hΓ hp => gp (d_assign (hp 1 _ rfl rfl).1)) AOK.nil rfl) rfl) rfl) (fun vs10 => ?_)
        refine T.nil ?_
        refine T.fallX ?_
        refine T.norm ?_
        refine T.region mix 3 [10, 11, 5] [0, 1, 3] [(sp ((TI .i64).sv s5)), (sp ((TI .i64).sv (IntKind.i64.wrap (s5 + 1)))), (sp ((TI .i64).sv (IntKind.i64.wrap (s5 + 1))))] (by kernel_rfl) (AOK.cons (fun ρ a w hs hz hΓ hp => gp (d_move (hΓ 5 rfl))) (AOK.cons (fun ρ a w hs hz hΓ hp => gp (d_add (hp 0 _ rfl rfl).1 (vI rfl))) (AOK.cons (fun ρ a w hs hz hΓ hp => gp (d_assign (hp 1 _ rfl rfl).1)) AOK.nil rfl) rfl) rfl) (fun vs11 => ?_)
        refine T.nil ?_
        obtain rfl := Option.some.inj hu3
        exact T.again hn3 () (fun φ h => T.toh h ⟨fun _ _ h => h, fun _ _ h => h, fun _ _ h => h, trivial⟩ trivial)
    · replace hu3 := iteF hu3 hc
      refine T.exit ?_
      obtain rfl := Option.some.inj hu3
      repeat (first | refine T.passX ?_ | refine T.inX (by decide) ?_)
      refine T.hereX ?_
      exact T.toh (hk ((s1, s5), ()) (Eq.symm hn3)) ⟨fun _ _ h => h, trivial⟩ trivial

theorem c3 (w : World) (v0 v1 : Value) {σ : Heap} (hσ : σ.le (snap w)) {x0 : (List ((List Int) × (List Int) × Int))} {x1 : (List Int)} {r : Bool} (hF : laws_FnExactOrderStrokes x0 x1 = some r) (h0 : Y22.val σ v0 x0) (h1 : Y24.val σ v1 x1) :
    Calls Try.prog 3 #[v0, v1] w (Ret [] w σ (TB.sv r) []) := by
  unfold laws_FnExactOrderStrokes at hF
  refine start (args := [v0, v1]) Try.func3 rfl 141 rfl [] [(0, (Y22.sv x0)), (1, (Y24.sv x1))] [] (sat_start _ hσ) rfl (args1 rfl h0 (args1 rfl h1 (args0))) ?_
  refine T.seq ?_
  refine T.region mix 2 [3, 4] [0, 0] [(sp ((TP Y24).sv x1)), (sp (TB.sv false))] (by kernel_rfl) (AOK.cons (fun ρ a w hs hz hΓ hp => gp (d_box hs.le (hΓ 1 rfl))) (AOK.cons (fun ρ a w hs hz hΓ hp => gp (d_assign (vB _))) AOK.nil rfl) rfl) (fun vs1 => ?_)
  refine T.nil ?_
  refine T.norm ?_
  refine T.seq ?_
  refine T.region mix 1 [5] [0] [(sp ((TI .i64).sv 1048576))] (by kernel_rfl) (AOK.cons (fun ρ a w hs hz hΓ hp => gp (d_assign (vI rfl))) AOK.nil rfl) (fun vs2 => ?_)
  refine T.nil ?_
  refine T.norm ?_
  refine T.seq ?_
  obtain ⟨x21, e4, hF⟩ := bindS hF
  refine T.region mix 4 [19, 20, 21, 5] [0, 0, 3, 7] [(sp (Y22.sv x0)), (sp ((TI .i64).sv 1048576)), (sp ((TI .i64).sv x21)), (sp ((TI .i64).sv x21))] (by kernel_rfl) (AOK.cons (fun ρ a w hs hz hΓ hp => gp (d_move (hΓ 0 rfl))) (AOK.cons (fun ρ a w hs hz hΓ hp => gp (d_move (hΓ 5 rfl))) (AOK.cons (fun ρ a w hs hz hΓ hp => gp (d_call fn10 hs.le mapA2 (c10 w _ _ hs.le e4 ((hp 0 _ rfl rfl).1) ((hp 1 _ rfl rfl).1)))) (AOK.cons (fun ρ a w hs hz hΓ hp => gp (d_assign (hp 2 _ rfl rfl).1)) AOK.nil rfl) rfl) rfl) rfl) (fun vs3 => ?_)
  refine T.nil ?_
  refine T.norm ?_
  refine T.seq ?_
  refine T.seq ?_
  refine T.region mix 2 [22, 23] [0, 1] [(sp ((TI .i64).sv x21)), (sp (TB.sv (decide (x21 < 0))))] (by kernel_rfl) (AOK.cons (fun ρ a w hs hz hΓ hp => gp (d_move (hΓ 5 rfl))) (AOK.cons (fun ρ a w hs hz hΓ hp => gp (d_lss (hp 0 _ rfl rfl).1 (vI rfl))) AOK.nil rfl) rfl) (fun vs5 => ?_)
  refine T.nil ?_
  refine T.norm ?_
  refine T.cond (b := (decide (x21 < 0))) (fun _ _ h => h) (fun hc => ?_) (fun hc => ?_)
  · replace hF := iteT hF hc
    refine T.seq ?_
    refine T.region mix 1 [4] [0] [(sp (TB.sv true))] (by kernel_rfl) (AOK.cons (fun ρ a w hs hz hΓ hp => gp (d_assign (vB _))) AOK.nil rfl) (fun vs6 => ?_)
    refine T.nil ?_
    refine T.norm ?_
    refine T.ret ?_
    obtain rfl := Option.some.inj hF
    refine T.fin0 fun ρ a w st => ?_
    exact ⟨_, results_one rfl rfl, (st.env 4)⟩
  · replace hF := iteF hF hc
    refine T.skip ?_
    refine T.norm ?_
    refine T.seq ?_
    obtain ⟨x26, e8, hF⟩ := bindS hF
    obtain ⟨x28, e9, hF⟩ := bindS hF
    obtain ⟨x29, e10, hF⟩ := bindS hF
    refine T.region mix 12 [25, 26, 27, 28, 29, 24, 30, 31, 32, 6, 7, 8] [0, 1, 0, 7, 15, 31, 63, 63, 63, 127, 767, 2047] [(sp (Y22.sv x0)), (sp (Y22.sv x26)), (sp (Y24.sv x1)), (sp (Y24.sv x28)), (sO (SRel.tup3 SRel.any SRel.any ((TI .i64).sv x29.2.2)) [(1, fun v => (slR 2 (TI .i64) x29.1) (comp 0 v)), (2, fun v => (slR 4 TB x29.2.1) (comp 1 v))]), (al 4 (id)), (al 4 (comp 0)), (al 4 (comp 1)), (sp ((TI .i64).sv x29.2.2)), (al 4 (comp 0)), (al 4 (comp 1)), (sp ((TI .i64).sv x29.2.2))] (by kernel_rfl) (AOK.cons (fun ρ a w hs hz hΓ hp => gp (d_move (hΓ 0 rfl))) (AOK.cons (fun ρ a w hs hz hΓ hp => gp (d_callR fn12 hs.le mapA1 (c12 w _ hs.le e8 ((hp 0 _ rfl rfl).1)))) (AOK.cons (fun ρ a w hs hz hΓ hp => gp (d_load y24 hs.le (hΓ 3 rfl))) (AOK.cons (fun ρ a w hs hz hΓ hp => gp (d_call fn13 hs.le mapA1 (c13 w _ hs.le e9 ((hp 2 _ rfl rfl).1)))) (AOK.cons (fun ρ a w hs hz hΓ hp => g_call fn11 hs.le mapA2 (c11 w _ _ hs.le e10 ((hp 1 _ rfl rfl).1) ((hp 3 _ rfl rfl).1))) (AOK.cons (fun ρ a w hs hz hΓ hp => al_move rfl) (AOK.cons (fun ρ a w hs hz hΓ hp => al_extract3_0 (hp 4 _ rfl rfl).1 ((hp 5 _ rfl rfl).2 _ _ rfl)) (AOK.cons (fun ρ a w hs hz hΓ hp => al_extract3_1 (hp 4 _ rfl rfl).1 ((hp 5 _ rfl rfl).2 _ _ rfl)) (AOK.cons (fun ρ a w hs hz hΓ hp => gp (d_extractE3_2 (hp 4 _ rfl rfl).1 ((hp 5 _ rfl rfl).2 _ _ rfl))) (AOK.cons (fun ρ a w hs hz hΓ hp => al_assign ((hp 6 _ rfl rfl).2 _ _ rfl)) (AOK.cons (fun ρ a w hs hz hΓ hp => al_assign ((hp 7 _ rfl rfl).2 _ _ rfl)) (AOK.cons (fun ρ a w hs hz hΓ hp => gp (d_assign (hp 8 _ rfl rfl).1)) AOK.nil rfl) rfl) rfl) rfl) rfl) rfl) rfl) rfl) rfl) rfl) rfl) rfl) (fun vs7 => ?_)
    refine T.nil ?_
    refine T.norm ?_
    refine T.seq ?_
    obtain ⟨x34, e12, hF⟩ := bindS hF
    refine T.region mix 3 [33, 34, 9] [0, 1, 3] [(sp (Y22.sv x0)), (sO SRel.any [(3, (slR 84 Y104 x34))]), (al 1 (id))] (by kernel_rfl) (AOK.cons (fun ρ a w hs hz hΓ hp => gp (d_move (hΓ 0 rfl))) (AOK.cons (fun ρ a w hs hz hΓ hp => g_call fn12 hs.le mapA1 (c12 w _ hs.le e12 ((hp 0 _ rfl rfl).1))) (AOK.cons (fun ρ a w hs hz hΓ hp => al_assign rfl) AOK.nil rfl) rfl) rfl) (fun vs11 => ?_)
    refine T.nil ?_
    refine T.norm ?_
    refine T.seq ?_
    obtain ⟨x38, e14, hF⟩ := bindS hF
    obtain ⟨x39, e15, hF⟩ := bindS hF
    refine T.region mix 11 [36, 37, 38, 39, 35, 40, 41, 42, 10, 11, 12] [0, 0, 2, 7, 15, 31, 31, 31, 63, 383, 1023] [(sp (SRel.eq (vs11 1))), (sp (Y24.sv x1)), (sp (Y24.sv x38)), (sO (SRel.tup3 SRel.any SRel.any ((TI .i64).sv x39.2.2)) [(4, fun v => (slR 2 (TI .i64) x39.1) (comp 0 v)), (5, fun v => (slR 4 TB x39.2.1) (comp 1 v))]), (al 3 (id)), (al 3 (comp 0)), (al 3 (comp 1)), (sp ((TI .i64).sv x39.2.2)), (al 3 (comp 0)), (al 3 (comp 1)), (sp ((TI .i64).sv x39.2.2))] (by kernel_rfl) (AOK.cons (fun ρ a w hs hz hΓ hp => gp (d_move (hΓ 9 rfl))) (AOK.cons (fun ρ a w hs hz hΓ hp => gp (d_load y24 hs.le (hΓ 3 rfl))) (AOK.cons (fun ρ a w hs hz hΓ hp => gp (d_call fn13 hs.le mapA1 (c13 w _ hs.le e14 ((hp 1 _ rfl rfl).1)))) (AOK.cons (fun ρ a w hs hz hΓ hp => g_callF fn14 hs.le (loose_tup3 loose_any loose_any (loose_sv (flat_TI _))) (fun e he v => by simp only [List.mem_cons, List.mem_singleton, List.not_mem_nil, or_false] at he; rcases he with rfl | rfl <;> first | exact loose_slR (flat_TI _) | exact loose_slR flat_TB) mapA2 (c14 w _ _ (Heap.le_refl _) e15 (sl_ro hs 3 rfl (hp 0 _ rfl rfl).1) (Ty.val_mono _ hs.le (hp 2 _ rfl rfl).1))) (AOK.cons (fun ρ a w hs hz hΓ hp => al_move rfl) (AOK.cons (fun ρ a w hs hz hΓ hp => al_extract3_0 (hp 3 _ rfl rfl).1 ((hp 4 _ rfl rfl).2 _ _ rfl)) (AOK.cons (fun ρ a w hs hz hΓ hp => al_extract3_1 (hp 3 _ rfl rfl).1 ((hp 4 _ rfl rfl).2 _ _ rfl)) (AOK.cons (fun ρ a w hs hz hΓ hp => gp (d_extractE3_2 (hp 3 _ rfl rfl).1 ((hp 4 _ rfl rfl).2 _ _ rfl))) (AOK.cons (fun ρ a w hs hz hΓ hp => al_assign ((hp 5 _ rfl rfl).2 _ _ rfl)) (AOK.cons (fun ρ a w hs hz hΓ hp => al_assign ((hp 6 _ rfl rfl).2 _ _ rfl)) (AOK.cons (fun ρ a w hs hz hΓ hp => gp (d_assign (hp 7 _ rfl rfl).1)) AOK.nil rfl) rfl) rfl) rfl) rfl) rfl) rfl) rfl) rfl) rfl) rfl) (fun vs13 => ?_)
    refine T.nil ?_
    refine T.norm ?_
    refine T.seq ?_
    refine T.seq ?_
    obtain ⟨x45, e17, hF⟩ := bindS hF
    obtain ⟨x52, e19, hF⟩ := bindS hF
    obtain ⟨x50, e20⟩ : ∃ (x50 : Bool), (!x45) = false → laws_eqBoolS x39.2.1 x29.2.1 = some x50 ∧ (!x50) = x52 := by
      by_cases hb : (!x45) = false
      · replace e19 := iteF e19 hb
        obtain ⟨x50, e18, e19⟩ := bindS e19
        exact ⟨x50, fun _ => ⟨e18, Option.some.inj e19⟩⟩
      · exact ⟨default, fun h => absurd h hb⟩
    have e21 : (!x45) = true → true = x52 := fun h => Option.some.inj (iteT e19 h)
    refine T.region mix 15 [43, 44, 45, 46, 47, 48, 49, 50, 51, 52, 53, 54, 55, 56, 57] [0, 0, 3, 7, 15, 31, 31, 127, 255, 511, 1023, 2047, 2047, 8191, 16383] [(sp (SRel.eq (comp 0 (vs13 3)))), (sp (SRel.eq (comp 0 (vs7 4)))), (sp (TB.sv x45)), (sp (TB.sv (!x45))), (sp (TB.sv (!x45))), (sp (SRel.when ((!x45) = false) (SRel.eq (comp 1 (vs13 3))))), (sp (SRel.when ((!x45) = false) (SRel.eq (comp 1 (vs7 4))))), (sp (SRel.when ((!x45) = false) (TB.sv x50))), (sp (SRel.when ((!x45) = false) (TB.sv (!x50)))), (sp (TB.sv x52)), (sp (TB.sv x52)), (sp (SRel.when (x52 = false) ((TI .i64).sv x39.2.2))), (sp (SRel.when (x52 = false) ((TI .i64).sv x29.2.2))), (sp (SRel.when (x52 = false) (TB.sv (decide (x39.2.2 ≠ x29.2.2))))), (sp (TB.sv (x52 || (decide (x39.2.2 ≠ x29.2.2)))))] (by kernel_rfl) (AOK.cons (fun ρ a w hs hz hΓ hp => gp (d_move (hΓ 10 rfl))) (AOK.cons (fun ρ a w hs hz hΓ hp => gp (d_move (hΓ 6 rfl))) (AOK.cons (fun ρ a w hs hz hΓ hp => gp (d_callF fn15 (loose_sv flat_TB) mapA2 (c15 w _ _ (Heap.le_refl _) e17 (sl_ro hs 4 rfl (hp 0 _ rfl rfl).1) (sl_ro hs 1 rfl (hp 1 _ rfl rfl).1)))) (AOK.cons (fun ρ a w hs hz hΓ hp => gp (d_not (hp 2 _ rfl rfl).1)) (AOK.cons (fun ρ a w hs hz hΓ hp => gp (d_move (hp 3 _ rfl rfl).1)) (AOK.cons (fun ρ a w hs hz hΓ hp => gg (g := 4) (d := 47) hz rfl (hp 4 _ rfl rfl).1 rfl (fun hc => d_move (hΓ 11 rfl))) (AOK.cons (fun ρ a w hs hz hΓ hp => gg (g := 4) (d := 47) hz rfl (hp 4 _ rfl rfl).1 rfl (fun hc => d_move (hΓ 7 rfl))) (AOK.cons (fun ρ a w hs hz hΓ hp => gg (g := 4) (d := 47) hz rfl (hp 4 _ rfl rfl).1 rfl (fun hc => d_callF fn16 (loose_sv flat_TB) mapA2 (c16 w _ _ (Heap.le_refl _) (e20 hc).1 (sl_ro hs 5 rfl ((hp 5 _ rfl rfl).1 hc)) (sl_ro hs 2 rfl ((hp 6 _ rfl rfl).1 hc))))) (AOK.cons (fun ρ a w hs hz hΓ hp => gg (g := 4) (d := 47) hz rfl (hp 4 _ rfl rfl).1 rfl (fun hc => d_not ((hp 7 _ rfl rfl).1 hc))) (AOK.cons (fun ρ a w hs hz hΓ hp => gp (d_pick (hp 4 _ rfl rfl).1 (fun hc => pC (e21 hc)) (fun hc => (pE ((e20 hc).2) ((hp 8 _ rfl rfl).1 hc))))) (AOK.cons (fun ρ a w hs hz hΓ hp => gp (d_move (hp 9 _ rfl rfl).1)) (AOK.cons (fun ρ a w hs hz hΓ hp => gg (g := 10) (d := 53) hz rfl (hp 10 _ rfl rfl).1 rfl (fun hc => d_move (hΓ 12 rfl))) (AOK.cons (fun ρ a w hs hz hΓ hp => gg (g := 10) (d := 53) hz rfl (hp 10 _ rfl rfl).1 rfl (fun hc => d_move (hΓ 8 rfl))) (AOK.cons (fun ρ a w hs hz hΓ hp => gg (g := 10) (d := 53) hz rfl (hp 10 _ rfl rfl).1 rfl (fun hc => d_neq ((hp 11 _ rfl rfl).1 hc) ((hp 12 _ rfl rfl).1 hc))) (AOK.cons (fun ρ a w hs hz hΓ hp => gp (d_pick (hp 10 _ rfl rfl).1 (fun hc => pON hc) (fun hc => pO hc ((hp 13 _ rfl rfl).1 hc)))) AOK.nil rfl) rfl) rfl) rfl) rfl) rfl) rfl) rfl) rfl) rfl) rfl) rfl) rfl) rfl) rfl) (fun vs16 => ?_)
    refine T.nil ?_
    refine T.norm ?_
    refine T.cond (b := (x52 || (decide (x39.2.2 ≠ x29.2.2)))) (fun _ _ h => h) (fun hc => ?_) (fun hc => ?_)
    · replace hF := iteT hF hc
      refine T.seq ?_
      refine T.region mix 1 [4] [0] [(sp (TB.sv false))] (by kernel_rfl) (AOK.cons (fun ρ a w hs hz hΓ hp => gp (d_assign (vB _))) AOK.nil rfl) (fun vs22 => ?_)
      refine T.nil ?_
      refine T.norm ?_
      refine T.ret ?_
      obtain rfl := Option.some.inj hF
      refine T.fin0 fun ρ a w st => ?_
      exact ⟨_, results_one rfl rfl, (st.env 4)⟩
    · replace hF := iteF hF hc
      refine T.skip ?_
      refine T.norm ?_
      refine T.seq ?_
      refine T.seq ?_
      obtain ⟨x60, e24, hF⟩ := bindS hF
      obtain ⟨x61, e25, hF⟩ := bindS hF
      refine T.region mix 5 [58, 59, 60, 61, 62] [0, 0, 2, 7, 15] [(sp (SRel.eq (vs11 1))), (sp (Y22.sv x0)), (sp (Y22.sv x60)), (sp (TB.sv x61)), (sp (TB.sv (!x61)))] (by kernel_rfl) (AOK.cons (fun ρ a w hs hz hΓ hp => gp (d_move (hΓ 9 rfl))) (AOK.cons (fun ρ a w hs hz hΓ hp => gp (d_move (hΓ 0 rfl))) (AOK.cons (fun ρ a w hs hz hΓ hp => gp (d_callR fn12 hs.le mapA1 (c12 w _ hs.le e24 ((hp 1 _ rfl rfl).1)))) (AOK.cons (fun ρ a w hs hz hΓ hp => gp (d_callF fn17 (loose_sv flat_TB) mapA2 (c17 w _ _ (Heap.le_refl _) e25 (sl_ro hs 3 rfl (hp 0 _ rfl rfl).1) (Ty.val_mono _ hs.le (hp 2 _ rfl rfl).1)))) (AOK.cons (fun ρ a w hs hz hΓ hp => gp (d_not (hp 3 _ rfl rfl).1)) AOK.nil rfl) rfl) rfl) rfl) rfl) (fun vs23 => ?_)
      refine T.nil ?_
      refine T.norm ?_
      refine T.cond (b := (!x61)) (fun _ _ h => h) (fun hc => ?_) (fun hc => ?_)
      · replace hF := iteT hF hc
        refine T.seq ?_
        refine T.region mix 1 [4] [0] [(sp (TB.sv false))] (by kernel_rfl) (AOK.cons (fun ρ a w hs hz hΓ hp => gp (d_assign (vB _))) AOK.nil rfl) (fun vs26 => ?_)
        refine T.nil ?_
        refine T.norm ?_
        refine T.ret ?_
        obtain rfl := Option.some.inj hF
        refine T.fin0 fun ρ a w st => ?_
        exact ⟨_, results_one rfl rfl, (st.env 4)⟩
      · replace hF := iteF hF hc
        refine T.skip ?_
        refine T.norm ?_
        refine T.seq ?_
        refine T.region mix 1 [13] [0] [(sp ((TI .i64).sv 1))] (by kernel_rfl) (AOK.cons (fun ρ a w hs hz hΓ hp => gp (d_assign (vI rfl))) AOK.nil rfl) (fun vs27 => ?_)
        refine T.nil ?_
        refine T.norm ?_
        refine T.seq ?_
        refine T.region mix 2 [63, 64] [0, 0, 3, 7] [(sp (SRel.eq (vs11 1))), (sp ((TI .i64).sv 1))] (by kernel_rfl) (AOK.cons (fun ρ a w hs hz hΓ hp => gp (d_move (hΓ 9 rfl))) (AOK.cons (fun ρ a w hs hz hΓ hp => gp (d_move (hΓ 13 rfl))) AOK.nil rfl) rfl) (fun vs28 => ?_)
        obtain ⟨x65, e29, hF⟩ := bindS hF
        refine T.callB (R := ((TI .i64).sv x65.2)) (r := (slR 84 Y104 x34 (vs11 1))) (r' := (slR 84 Y104 x65.1 (vs11 1))) 3 fn18 rfl rfl (loose_slR (flat_TPair (flat_TArr (flat_TI _)) (flat_TPair (flat_TArr (flat_TI _)) (flat_TI _)))) (loose_slR (flat_TPair (flat_TArr (flat_TI _)) (flat_TPair (flat_TArr (flat_TI _)) (flat_TI _)))) rfl (fun ρ a w st hle hm => ?_) ?_
        · rw [mapA2]; exact call_at (r := slR 84 Y104 x65.1) (st.env 63) (c18 w _ _  e29 (hm_at (r := slR 84 Y104 x34) (st.env 63) hm) (Ty.val_mono _ (le_at (st.env 63) hle) (st.env 64)))
        refine T.does (R := ((TI .i64).sv x65.2)) rfl (fun ρ a w st => have hs := st.sat; d_assign (st.env 65)) ?_
        refine T.nil ?_
        refine T.norm ?_
        refine T.seq ?_
        refine T.seq ?_
        obtain ⟨x73, e32, hF⟩ := bindS hF
        obtain ⟨x71, e33⟩ : ∃ (x71 : Bool), (decide (x65.2 < 0)) = false → laws_eqInt64S x39.1 x29.1 = some x71 ∧ (!x71) = x73 := by
          by_cases hb : (decide (x65.2 < 0)) = false
          · replace e32 := iteF e32 hb
            obtain ⟨x71, e31, e32⟩ := bindS e32
            exact ⟨x71, fun _ => ⟨e31, Option.some.inj e32⟩⟩
          · exact ⟨default, fun h => absurd h hb⟩
        have e34 : (decide (x65.2 < 0)) = true → true = x73 := fun h => Option.some.inj (iteT e32 h)
        obtain ⟨x79, e36, hF⟩ := bindS hF
        obtain ⟨x77, e37⟩ : ∃ (x77 : Bool), x73 = false → laws_eqBoolS x39.2.1 x29.2.1 = some x77 ∧ (!x77) = x79 := by
          by_cases hb : x73 = false
          · replace e36 := iteF e36 hb
            obtain ⟨x77, e35, e36⟩ := bindS e36
            exact ⟨x77, fun _ => ⟨e35, Option.some.inj e36⟩⟩
          · exact ⟨default, fun h => absurd h hb⟩
        have e38 : x73 = true → true = x79 := fun h => Option.some.inj (iteT e36 h)
        refine T.region mix 19 [66, 67, 68, 69, 70, 71, 72, 73, 74, 75, 76, 77, 78, 79, 80, 81, 82, 83, 84] [0, 1, 3, 7, 7, 31, 63, 127, 255, 511, 511, 2047, 4095, 8191, 16383, 32767, 32767, 131071, 262143] [(sp ((TI .i64).sv x65.2)), (sp (TB.sv (decide (x65.2 < 0)))), (sp (TB.sv (decide (x65.2 < 0)))), (sp (SRel.when ((decide (x65.2 < 0)) = false) (SRel.eq (comp 0 (vs13 3))))), (sp (SRel.when ((decide (x65.2 < 0)) = false) (SRel.eq (comp 0 (vs7 4))))), (sp (SRel.when ((decide (x65.2 < 0)) = false) (TB.sv x71))), (sp (SRel.when ((decide (x65.2 < 0)) = false) (TB.sv (!x71)))), (sp (TB.sv x73)), (sp (TB.sv x73)), (sp (SRel.when (x73 = false) (SRel.eq (comp 1 (vs13 3))))), (sp (SRel.when (x73 = false) (SRel.eq (comp 1 (vs7 4))))), (sp (SRel.when (x73 = false) (TB.sv x77))), (sp (SRel.when (x73 = false) (TB.sv (!x77)))), (sp (TB.sv x79)), (sp (TB.sv x79)), (sp (SRel.when (x79 = false) ((TI .i64).sv x39.2.2))), (sp (SRel.when (x79 = false) ((TI .i64).sv x29.2.2))), (sp (SRel.when (x79 = false) (TB.sv (decide (x39.2.2 ≠ x29.2.2))))), (sp (TB.sv (x79 || (decide (x39.2.2 ≠ x29.2.2)))))] (by kernel_rfl) (AOK.cons (fun ρ a w hs hz hΓ hp => gp (d_move (hΓ 13 rfl))) (AOK.cons (fun ρ a w hs hz hΓ hp => gp (d_lss (hp 0 _ rfl rfl).1 (vI rfl))) (AOK.cons (fun ρ a w hs hz hΓ hp => gp (d_move (hp 1 _ rfl rfl).1)) (AOK.cons (fun ρ a w hs hz hΓ hp => gg (g := 2) (d := 68) hz rfl (hp 2 _ rfl rfl).1 rfl (fun hc => d_move (hΓ 10 rfl))) (AOK.cons (fun ρ a w hs hz hΓ hp => gg (g := 2) (d := 68) hz rfl (hp 2 _ rfl rfl).1 rfl (fun hc => d_move (hΓ 6 rfl))) (AOK.cons (fun ρ a w hs hz hΓ hp => gg (g := 2) (d := 68) hz rfl (hp 2 _ rfl rfl).1 rfl (fun hc => d_callF fn15 (loose_sv flat_TB) mapA2 (c15 w _ _ (Heap.le_refl _) (e33 hc).1 (sl_ro hs 4 rfl ((hp 3 _ rfl rfl).1 hc)) (sl_ro hs 1 rfl ((hp 4 _ rfl rfl).1 hc))))) (AOK.cons (fun ρ a w hs hz hΓ hp => gg (g := 2) (d := 68) hz rfl (hp 2 _ rfl rfl).1 rfl (fun hc => d_not ((hp 5 _ rfl rfl).1 hc))) (AOK.cons (fun ρ a w hs hz hΓ hp => gp (d_pick (hp 2 _ rfl rfl).1 (fun hc => pC (e34 hc)) (fun hc => (pE ((e33 hc).2) ((hp 6 _ rfl rfl).1 hc))))) (AOK.cons (fun ρ a w hs hz hΓ hp => gp (d_move (hp 7 _ rfl rfl).1)) (AOK.cons (fun ρ a w hs hz hΓ hp => gg (g := 8) (d := 74) hz rfl (hp 8 _ rfl rfl).1 rfl (fun hc => d_move (hΓ 11 rfl))) (AOK.cons (fun ρ a w hs hz hΓ hp => gg (g := 8) (d := 74) hz rfl (hp 8 _ rfl rfl).1 rfl (fun hc => d_move (hΓ 7 rfl))) (AOK.cons (fun ρ a w hs hz hΓ hp => gg (g := 8) (d := 74) hz rfl (hp 8 _ rfl rfl).1 rfl (fun hc => d_callF fn16 (loose_sv flat_TB) mapA2 (c16 w _ _ (Heap.le_refl _) (e37 hc).1 (sl_ro hs 5 rfl ((hp 9 _ rfl rfl).1 hc)) (sl_ro hs 2 rfl ((hp 10 _ rfl rfl).1 hc))))) (AOK.cons (fun ρ a w hs hz hΓ hp => gg (g := 8) (d := 74) hz rfl (hp 8 _ rfl rfl).1 rfl (fun hc => d_not ((hp 11 _ rfl rfl).1 hc))) (AOK.cons (fun ρ a w hs hz hΓ hp => gp (d_pick (hp 8 _ rfl rfl).1 (fun hc => pC (e38 hc)) (fun hc => (pE ((e37 hc).2) ((hp 12 _ rfl rfl).1 hc))))) (AOK.cons (fun ρ a w hs hz hΓ hp => gp (d_move (hp 13 _ rfl rfl).1)) (AOK.cons (fun ρ a w hs hz hΓ hp => gg (g := 14) (d := 80) hz rfl (hp 14 _ rfl rfl).1 rfl (fun hc => d_move (hΓ 12 rfl))) (AOK.cons (fun ρ a w hs hz hΓ hp => gg (g := 14) (d := 80) hz rfl (hp 14 _ rfl rfl).1 rfl (fun hc => d_move (hΓ 8 rfl))) (AOK.cons (fun ρ a w hs hz hΓ hp => gg (g := 14) (d := 80) hz rfl (hp 14 _ rfl rfl).1 rfl (fun hc => d_neq ((hp 15 _ rfl rfl).1 hc) ((hp 16 _ rfl rfl).1 hc))) (AOK.cons (fun ρ a w hs hz hΓ hp => gp (d_pick (hp 14 _ rfl rfl).1 (fun hc => pON hc) (fun hc => pO hc ((hp 17 _ rfl rfl).1 hc)))) AOK.nil rfl) rfl) rfl) rfl) rfl) rfl) rfl) rfl) rfl) rfl) rfl) rfl) rfl) rfl) rfl) rfl) rfl) rfl) rfl) (fun vs30 => ?_)
        refine T.nil ?_
        refine T.norm ?_
        refine T.cond (b := (x79 || (decide (x39.2.2 ≠ x29.2.2)))) (fun _ _ h => h) (fun hc => ?_) (fun hc => ?_)
        · replace hF := iteT hF hc
          refine T.seq ?_
          refine T.region mix 1 [4] [0] [(sp (TB.sv false))] (by kernel_rfl) (AOK.cons (fun ρ a w hs hz hΓ hp => gp (d_assign (vB _))) AOK.nil rfl) (fun vs39 => ?_)
          refine T.nil ?_
          refine T.norm ?_
          refine T.ret ?_
          obtain rfl := Option.some.inj hF
          refine T.fin0 fun ρ a w st => ?_
          exact ⟨_, results_one rfl rfl, (st.env 4)⟩
        · replace hF := iteF hF hc
          refine T.skip ?_
          refine T.norm ?_
          refine T.seq ?_
          refine T.region mix 1 [14] [0] [(sp ((TI .i64).sv 1))] (by kernel_rfl) (AOK.cons (fun ρ a w hs hz hΓ hp => gp (d_assign (vI rfl))) AOK.nil rfl) (fun vs40 => ?_)
          refine T.nil ?_
          refine T.norm ?_
          refine T.seq ?_
          refine T.region mix 2 [85, 86] [0, 0, 3, 7] [(sp (SRel.eq (comp 0 (vs13 3)))), (sp ((TI .i64).sv 1))] (by kernel_rfl) (AOK.cons (fun ρ a w hs hz hΓ hp => gp (d_move (hΓ 10 rfl))) (AOK.cons (fun ρ a w hs hz hΓ hp => gp (d_move (hΓ 14 rfl))) AOK.nil rfl) rfl) (fun vs41 => ?_)
          obtain ⟨x87, e42, hF⟩ := bindS hF
          refine T.callB (R := ((TI .i64).sv x87.2)) (r := (slR 2 (TI .i64) x39.1 (comp 0 (vs13 3)))) (r' := (slR 2 (TI .i64) x87.1 (comp 0 (vs13 3)))) 4 fn19 rfl rfl (loose_slR (flat_TI _)) (loose_slR (flat_TI _)) rfl (fun ρ a w st hle hm => ?_) ?_
          · rw [mapA2]; exact call_at (r := slR 2 (TI .i64) x87.1) (st.env 85) (c19 w _ _  e42 (hm_at (r := slR 2 (TI .i64) x39.1) (st.env 85) hm) (Ty.val_mono _ (le_at (st.env 85) hle) (st.env 86)))
          refine T.does (R := ((TI .i64).sv x87.2)) rfl (fun ρ a w st => have hs := st.sat; d_assign (st.env 87)) ?_
          refine T.nil ?_
          refine T.norm ?_
          refine T.seq ?_
          refine T.region mix 2 [88, 89] [0, 0, 3, 7] [(sp (SRel.eq (comp 1 (vs13 3)))), (sp ((TI .i64).sv x87.2))] (by kernel_rfl) (AOK.cons (fun ρ a w hs hz hΓ hp => gp (d_move (hΓ 11 rfl))) (AOK.cons (fun ρ a w hs hz hΓ hp => gp (d_move (hΓ 14 rfl))) AOK.nil rfl) rfl) (fun vs43 => ?_)
          obtain ⟨x90, e44, hF⟩ := bindS hF
          refine T.callB (R := ((TI .i64).sv x90.2)) (r := (slR 4 TB x39.2.1 (comp 1 (vs13 3)))) (r' := (slR 4 TB x90.1 (comp 1 (vs13 3)))) 5 fn20 rfl rfl (loose_slR flat_TB) (loose_slR flat_TB) rfl (fun ρ a w st hle hm => ?_) ?_
          · rw [mapA2]; exact call_at (r := slR 4 TB x90.1) (st.env 88) (c20 w _ _  e44 (hm_at (r := slR 4 TB x39.2.1) (st.env 88) hm) (Ty.val_mono _ (le_at (st.env 88) hle) (st.env 89)))
          refine T.does (R := ((TI .i64).sv x90.2)) rfl (fun ρ a w st => have hs := st.sat; d_assign (st.env 90)) ?_
          refine T.nil ?_
          refine T.norm ?_
          refine T.seq ?_
          refine T.region mix 1 [15] [0] [(sp ((TI .i64).sv 1))] (by kernel_rfl) (AOK.cons (fun ρ a w hs hz hΓ hp => gp (d_assign (vI rfl))) AOK.nil rfl) (fun vs45 => ?_)
          refine T.nil ?_
          refine T.norm ?_
          refine T.seq ?_
          obtain ⟨x93, e47, hF⟩ := bindS hF
          refine T.region mix 4 [91, 92, 93, 15] [0, 0, 3, 7] [(sp (SRel.eq (comp 0 (vs13 3)))), (sp ((TI .i64).sv 1)), (sp ((TI .i64).sv x93)), (sp ((TI .i64).sv x93))] (by kernel_rfl) (AOK.cons (fun ρ a w hs hz hΓ hp => gp (d_move (hΓ 10 rfl))) (AOK.cons (fun ρ a w hs hz hΓ hp => gp (d_move (hΓ 15 rfl))) (AOK.cons (fun ρ a w hs hz hΓ hp => gp (d_callF fn21 (loose_sv (flat_TI _)) mapA2 (c21 w _ _ (Heap.le_refl _) e47 (sl_ro hs 4 rfl (hp 0 _ rfl rfl).1) (Ty.val_mono _ hs.le (hp 1 _ rfl rfl).1)))) (AOK.cons (fun ρ a w hs hz hΓ hp => gp (d_assign (hp 2 _ rfl rfl).1)) AOK.nil rfl) rfl) rfl) rfl) (fun vs46 => ?_)
          refine T.nil ?_
          refine T.norm ?_
          refine T.seq ?_
          refine T.seq ?_
          refine T.region mix 2 [94, 95] [0, 1] [(sp ((TI .i64).sv x93)), (sp (TB.sv (decide (x93 < 0))))] (by kernel_rfl) (AOK.cons (fun ρ a w hs hz hΓ hp => gp (d_move (hΓ 15 rfl))) (AOK.cons (fun ρ a w hs hz hΓ hp => gp (d_lss (hp 0 _ rfl rfl).1 (vI rfl))) AOK.nil rfl) rfl) (fun vs48 => ?_)
          refine T.nil ?_
          refine T.norm ?_
          refine T.cond (b := (decide (x93 < 0))) (fun _ _ h => h) (fun hc => ?_) (fun hc => ?_)
          · replace hF := iteT hF hc
            refine T.seq ?_
            refine T.region mix 1 [4] [0] [(sp (TB.sv false))] (by kernel_rfl) (AOK.cons (fun ρ a w hs hz hΓ hp => gp (d_assign (vB _))) AOK.nil rfl) (fun vs49 => ?_)
            refine T.nil ?_
            refine T.norm ?_
            refine T.ret ?_
            obtain rfl := Option.some.inj hF
            refine T.fin0 fun ρ a w st => ?_
            exact ⟨_, results_one rfl rfl, (st.env 4)⟩
          · replace hF := iteF hF hc
            refine T.skip ?_
            refine T.norm ?_
            refine T.seq ?_
            obtain ⟨x98, e51, hF⟩ := bindS hF
            refine T.region mix 4 [96, 97, 98, 15] [0, 0, 3, 7] [(sp (SRel.eq (comp 1 (vs13 3)))), (sp ((TI .i64).sv x93)), (sp ((TI .i64).sv x98)), (sp ((TI .i64).sv x98))] (by kernel_rfl) (AOK.cons (fun ρ a w hs hz hΓ hp => gp (d_move (hΓ 11 rfl))) (AOK.cons (fun ρ a w hs hz hΓ hp => gp (d_move (hΓ 15 rfl))) (AOK.cons (fun ρ a w hs hz hΓ hp => gp (d_callF fn22 (loose_sv (flat_TI _)) mapA2 (c22 w _ _ (Heap.le_refl _) e51 (sl_ro hs 5 rfl (hp 0 _ rfl rfl).1) (Ty.val_mono _ hs.le (hp 1 _ rfl rfl).1)))) (AOK.cons (fun ρ a w hs hz hΓ hp => gp (d_assign (hp 2 _ rfl rfl).1)) AOK.nil rfl) rfl) rfl) rfl) (fun vs50 => ?_)
            refine T.nil ?_
            refine T.norm ?_
            refine T.seq ?_
            refine T.seq ?_
            refine T.region mix 2 [99, 100] [0, 1] [(sp ((TI .i64).sv x98)), (sp (TB.sv (decide (x98 < 0))))] (by kernel_rfl) (AOK.cons (fun ρ a w hs hz hΓ hp => gp (d_move (hΓ 15 rfl))) (AOK.cons (fun ρ a w hs hz hΓ hp => gp (d_lss (hp 0 _ rfl rfl).1 (vI rfl))) AOK.nil rfl) rfl) (fun vs52 => ?_)
            refine T.nil ?_
            refine T.norm ?_
            refine T.cond (b := (decide (x98 < 0))) (fun _ _ h => h) (fun hc => ?_) (fun hc => ?_)
            · replace hF := iteT hF hc
              refine T.seq ?_
              refine T.region mix 1 [4] [0] [(sp (TB.sv false))] (by kernel_rfl) (AOK.cons (fun ρ a w hs hz hΓ hp => gp (d_assign (vB _))) AOK.nil rfl) (fun vs53 => ?_)
              refine T.nil ?_
              refine T.norm ?_
              refine T.ret ?_
              obtain rfl := Option.some.inj hF
              refine T.fin0 fun ρ a w st => ?_
              exact ⟨_, results_one rfl rfl, (st.env 4)⟩
            · replace hF := iteF hF hc
              refine T.skip ?_
              refine T.norm ?_
              refine T.seq ?_
              refine T.seq ?_
              refine T.region mix 3 [101, 102, 103] [0, 0, 3] [(sp ((TI .i64).sv x98)), (sp ((TI .i64).sv x90.2)), (sp (TB.sv (decide (x98 ≠ x90.2))))] (by kernel_rfl) (AOK.cons (fun ρ a w hs hz hΓ hp => gp (d_move (hΓ 15 rfl))) (AOK.cons (fun ρ a w hs hz hΓ hp => gp (d_move (hΓ 14 rfl))) (AOK.cons (fun ρ a w hs hz hΓ hp => gp (d_neq (hp 0 _ rfl rfl).1 (hp 1 _ rfl rfl).1)) AOK.nil rfl) rfl) rfl) (fun vs54 => ?_)
              refine T.nil ?_
              refine T.norm ?_
              refine T.cond (b := (decide (x98 ≠ x90.2))) (fun _ _ h => h) (fun hc => ?_) (fun hc => ?_)
              · replace hF := iteT hF hc
                refine T.seq ?_
                refine T.region mix 1 [4] [0] [(sp (TB.sv false))] (by kernel_rfl) (AOK.cons (fun ρ a w hs hz hΓ hp => gp (d_assign (vB _))) AOK.nil rfl) (fun vs55 => ?_)
                refine T.nil ?_
                refine T.norm ?_
                refine T.ret ?_
                obtain rfl := Option.some.inj hF
                refine T.fin0 fun ρ a w st => ?_
                exact ⟨_, results_one rfl rfl, (st.env 4)⟩
              · replace hF := iteF hF hc
                refine T.skip ?_
                refine T.norm ?_
                refine T.seq ?_
                obtain ⟨x106, e57, hF⟩ := bindS hF
                obtain ⟨x108, e58, hF⟩ := bindS hF
                obtain ⟨x109, e59, hF⟩ := bindS hF
                refine T.region mix 12 [105, 106, 107, 108, 109, 104, 110, 111, 112, 16, 17, 18] [0, 1, 0, 7, 15, 31, 63, 63, 63, 127, 767, 2047] [(sp (Y22.sv x0)), (sp (Y22.sv x106)), (sp (Y24.sv x1)), (sp (Y24.sv x108)), (sO (SRel.tup3 SRel.any SRel.any ((TI .i64).sv x109.2.2)) [(6, fun v => (slR 2 (TI .i64) x109.1) (comp 0 v)), (7, fun v => (slR 4 TB x109.2.1) (comp 1 v))]), (al 4 (id)), (al 4 (comp 0)), (al 4 (comp 1)), (sp ((TI .i64).sv x109.2.2)), (al 4 (comp 0)), (al 4 (comp 1)), (sp ((TI .i64).sv x109.2.2))] (by kernel_rfl) (AOK.cons (fun ρ a w hs hz hΓ hp => gp (d_move (hΓ 0 rfl))) (AOK.cons (fun ρ a w hs hz hΓ hp => gp (d_callR fn12 hs.le mapA1 (c12 w _ hs.le e57 ((hp 0 _ rfl rfl).1)))) (AOK.cons (fun ρ a w hs hz hΓ hp => gp (d_load y24 hs.le (hΓ 3 rfl))) (AOK.cons (fun ρ a w hs hz hΓ hp => gp (d_call fn13 hs.le mapA1 (c13 w _ hs.le e58 ((hp 2 _ rfl rfl).1)))) (AOK.cons (fun ρ a w hs hz hΓ hp => g_call fn14 hs.le mapA2 (c14 w _ _ hs.le e59 ((hp 1 _ rfl rfl).1) ((hp 3 _ rfl rfl).1))) (AOK.cons (fun ρ a w hs hz hΓ hp => al_move rfl) (AOK.cons (fun ρ a w hs hz hΓ hp => al_extract3_0 (hp 4 _ rfl rfl).1 ((hp 5 _ rfl rfl).2 _ _ rfl)) (AOK.cons (fun ρ a w hs hz hΓ hp => al_extract3_1 (hp 4 _ rfl rfl).1 ((hp 5 _ rfl rfl).2 _ _ rfl)) (AOK.cons (fun ρ a w hs hz hΓ hp => gp (d_extractE3_2 (hp 4 _ rfl rfl).1 ((hp 5 _ rfl rfl).2 _ _ rfl))) (AOK.cons (fun ρ a w hs hz hΓ hp => al_assign ((hp 6 _ rfl rfl).2 _ _ rfl)) (AOK.cons (fun ρ a w hs hz hΓ hp => al_assign ((hp 7 _ rfl rfl).2 _ _ rfl)) (AOK.cons (fun ρ a w hs hz hΓ hp => gp (d_assign (hp 8 _ rfl rfl).1)) AOK.nil rfl) rfl) rfl) rfl) rfl) rfl) rfl) rfl) rfl) rfl) rfl) rfl) (fun vs56 => ?_)
                refine T.nil ?_
                refine T.norm ?_
                refine T.seq ?_
                refine T.seq ?_
                obtain ⟨x115, e61, hF⟩ := bindS hF
                obtain ⟨x122, e63, hF⟩ := bindS hF
                obtain ⟨x120, e64⟩ : ∃ (x120 : Bool), (!x115) = false → laws_eqBoolS x109.2.1 x29.2.1 = some x120 ∧ (!x120) = x122 := by
                  by_cases hb : (!x115) = false
                  · replace e63 := iteF e63 hb
                    obtain ⟨x120, e62, e63⟩ := bindS e63
                    exact ⟨x120, fun _ => ⟨e62, Option.some.inj e63⟩⟩
                  · exact ⟨default, fun h => absurd h hb⟩
                have e65 : (!x115) = true → true = x122 := fun h => Option.some.inj (iteT e63 h)
                refine T.region mix 15 [113, 114, 115, 116, 117, 118, 119, 120, 121, 122, 123, 124, 125, 126, 127] [0, 0, 3, 7, 15, 31, 31, 127, 255, 511, 1023, 2047, 2047, 8191, 16383] [(sp (SRel.eq (comp 0 (vs56 4)))), (sp (SRel.eq (comp 0 (vs7 4)))), (sp (TB.sv x115)), (sp (TB.sv (!x115))), (sp (TB.sv (!x115))), (sp (SRel.when ((!x115) = false) (SRel.eq (comp 1 (vs56 4))))), (sp (SRel.when ((!x115) = false) (SRel.eq (comp 1 (vs7 4))))), (sp (SRel.when ((!x115) = false) (TB.sv x120))), (sp (SRel.when ((!x115) = false) (TB.sv (!x120)))), (sp (TB.sv x122)), (sp (TB.sv x122)), (sp (SRel.when (x122 = false) ((TI .i64).sv x109.2.2))), (sp (SRel.when (x122 = false) ((TI .i64).sv x29.2.2))), (sp (SRel.when (x122 = false) (TB.sv (decide (x109.2.2 ≠ x29.2.2))))), (sp (TB.sv (x122 || (decide (x109.2.2 ≠ x29.2.2)))))] (by kernel_rfl) (AOK.cons (fun ρ a w hs hz hΓ hp => gp (d_move (hΓ 16 rfl))) (AOK.cons (fun ρ a w hs hz hΓ hp => gp (d_move (hΓ 6 rfl))) (AOK.cons (fun ρ a w hs hz hΓ hp => gp (d_callF fn15 (loose_sv flat_TB) mapA2 (c15 w _ _ (Heap.le_refl _) e61 (sl_ro hs 6 rfl (hp 0 _ rfl rfl).1) (sl_ro hs 1 rfl (hp 1 _ rfl rfl).1)))) (AOK.cons (fun ρ a w hs hz hΓ hp => gp (d_not (hp 2 _ rfl rfl).1)) (AOK.cons (fun ρ a w hs hz hΓ hp => gp (d_move (hp 3 _ rfl rfl).1)) (AOK.cons (fun ρ a w hs hz hΓ hp => gg (g := 4) (d := 117) hz rfl (hp 4 _ rfl rfl).1 rfl (fun hc => d_move (hΓ 17 rfl))) (AOK.cons (fun ρ a w hs hz hΓ hp => gg (g := 4) (d := 117) hz rfl (hp 4 _ rfl rfl).1 rfl (fun hc => d_move (hΓ 7 rfl))) (AOK.cons (fun ρ a w hs hz hΓ hp => gg (g := 4) (d := 117) hz rfl (hp 4 _ rfl rfl).1 rfl (fun hc => d_callF fn16 (loose_sv flat_TB) mapA2 (c16 w _ _ (Heap.le_refl _) (e64 hc).1 (sl_ro hs 7 rfl ((hp 5 _ rfl rfl).1 hc)) (sl_ro hs 2 rfl ((hp 6 _ rfl rfl).1 hc))))) (AOK.cons (fun ρ a w hs hz hΓ hp => gg (g := 4) (d := 117) hz rfl (hp 4 _ rfl rfl).1 rfl (fun hc => d_not ((hp 7 _ rfl rfl).1 hc))) (AOK.cons (fun ρ a w hs hz hΓ hp => gp (d_pick (hp 4 _ rfl rfl).1 (fun hc => pC (e65 hc)) (fun hc => (pE ((e64 hc).2) ((hp 8 _ rfl rfl).1 hc))))) (AOK.cons (fun ρ a w hs hz hΓ hp => gp (d_move (hp 9 _ rfl rfl).1)) (AOK.cons (fun ρ a w hs hz hΓ hp => gg (g := 10) (d := 123) hz rfl (hp 10 _ rfl rfl).1 rfl (fun hc => d_move (hΓ 18 rfl))) (AOK.cons (fun ρ a w hs hz hΓ hp => gg (g := 10) (d := 123) hz rfl (hp 10 _ rfl rfl).1 rfl (fun hc => d_move (hΓ 8 rfl))) (AOK.cons (fun ρ a w hs hz hΓ hp => gg (g := 10) (d := 123) hz rfl (hp 10 _ rfl rfl).1 rfl (fun hc => d_neq ((hp 11 _ rfl rfl).1 hc) ((hp 12 _ rfl rfl).1 hc))) (AOK.cons (fun ρ a w hs hz hΓ hp => gp (d_pick (hp 10 _ rfl rfl).1 (fun hc => pON hc) (fun hc => pO hc ((hp 13 _ rfl rfl).1 hc)))) AOK.nil rfl) rfl) rfl) rfl) rfl) rfl) rfl) rfl) rfl) rfl) rfl) rfl) rfl) rfl) rfl) (fun vs60 => ?_)
                refine T.nil ?_
                refine T.norm ?_
                refine T.cond (b := (x122 || (decide (x109.2.2 ≠ x29.2.2)))) (fun _ _ h => h) (fun hc => ?_) (fun hc => ?_)
                · replace hF := iteT hF hc
                  refine T.seq ?_
                  refine T.region mix 1 [4] [0] [(sp (TB.sv false))] (by kernel_rfl) (AOK.cons (fun ρ a w hs hz hΓ hp => gp (d_assign (vB _))) AOK.nil rfl) (fun vs66 => ?_)
                  refine T.nil ?_
                  refine T.norm ?_
                  refine T.ret ?_
                  obtain rfl := Option.some.inj hF
                  refine T.fin0 fun ρ a w st => ?_
                  exact ⟨_, results_one rfl rfl, (st.env 4)⟩
                · replace hF := iteF hF hc
                  refine T.skip ?_
                  refine T.norm ?_
                  refine T.seq ?_
                  refine T.region mix 1 [15] [0] [(sp ((TI .i64).sv 1))] (by kernel_rfl) (AOK.cons (fun ρ a w hs hz hΓ hp => gp (d_assign (vI rfl))) AOK.nil rfl) (fun vs67 => ?_)
                  refine T.nil ?_
                  refine T.norm ?_
                  refine T.seq ?_
                  obtain ⟨x130, e69, hF⟩ := bindS hF
                  refine T.region mix 4 [128, 129, 130, 15] [0, 0, 3, 7] [(sp (SRel.eq (comp 0 (vs13 3)))), (sp ((TI .i64).sv 1)), (sp ((TI .i64).sv x130)), (sp ((TI .i64).sv x130))] (by kernel_rfl) (AOK.cons (fun ρ a w hs hz hΓ hp => gp (d_move (hΓ 10 rfl))) (AOK.cons (fun ρ a w hs hz hΓ hp => gp (d_move (hΓ 15 rfl))) (AOK.cons (fun ρ a w hs hz hΓ hp => gp (d_callF fn21 (loose_sv (flat_TI _)) mapA2 (c21 w _ _ (Heap.le_refl _) e69 (sl_ro hs 4 rfl (hp 0 _ rfl rfl).1) (Ty.val_mono _ hs.le (hp 1 _ rfl rfl).1)))) (AOK.cons (fun ρ a w hs hz hΓ hp => gp (d_assign (hp 2 _ rfl rfl).1)) AOK.nil rfl) rfl) rfl) rfl) (fun vs68 => ?_)
                  refine T.nil ?_
                  refine T.norm ?_
                  refine T.seq ?_
                  refine T.seq ?_
                  refine T.region mix 2 [131, 132] [0, 1] [(sp ((TI .i64).sv x130)), (sp (TB.sv (decide (x130 < 0))))] (by kernel_rfl) (AOK.cons (fun ρ a w hs hz hΓ hp => gp (d_move (hΓ 15 rfl))) (AOK.cons (fun ρ a w hs hz hΓ hp => gp (d_lss (hp 0 _ rfl rfl).1 (vI rfl))) AOK.nil rfl) rfl) (fun vs70 => ?_)
                  refine T.nil ?_
                  refine T.norm ?_
                  refine T.cond (b := (decide (x130 < 0))) (fun _ _ h => h) (fun hc => ?_) (fun hc => ?_)
                  · replace hF := iteT hF hc
                    refine T.seq ?_
                    refine T.region mix 1 [4] [0] [(sp (TB.sv false))] (by kernel_rfl) (AOK.cons (fun ρ a w hs hz hΓ hp => gp (d_assign (vB _))) AOK.nil rfl) (fun vs71 => ?_)
                    refine T.nil ?_
                    refine T.norm ?_
                    refine T.ret ?_
                    obtain rfl := Option.some.inj hF
                    refine T.fin0 fun ρ a w st => ?_
                    exact ⟨_, results_one rfl rfl, (st.env 4)⟩
                  · replace hF := iteF hF hc
                    refine T.skip ?_
                    refine T.norm ?_
                    refine T.seq ?_
                    obtain ⟨x135, e73, hF⟩ := bindS hF
                    refine T.region mix 4 [133, 134, 135, 15] [0, 0, 3, 7] [(sp (SRel.eq (comp 1 (vs13 3)))), (sp ((TI .i64).sv x130)), (sp ((TI .i64).sv x135)), (sp ((TI .i64).sv x135))] (by kernel_rfl) (AOK.cons (fun ρ a w hs hz hΓ hp => gp (d_move (hΓ 11 rfl))) (AOK.cons (fun ρ a w hs hz hΓ hp => gp (d_move (hΓ 15 rfl))) (AOK.cons (fun ρ a w hs hz hΓ hp => gp (d_callF fn22 (loose_sv (flat_TI _)) mapA2 (c22 w _ _ (Heap.le_refl _) e73 (sl_ro hs 5 rfl (hp 0 _ rfl rfl).1) (Ty.val_mono _ hs.le (hp 1 _ rfl rfl).1)))) (AOK.cons (fun ρ a w hs hz hΓ hp => gp (d_assign (hp 2 _ rfl rfl).1)) AOK.nil rfl) rfl) rfl) rfl) (fun vs72 => ?_)
                    refine T.nil ?_
                    refine T.norm ?_
                    refine T.seq ?_
                    refine T.seq ?_
                    refine T.region mix 2 [136, 137] [0, 1] [(sp ((TI .i64).sv x135)), (sp (TB.sv (decide (x135 < 0))))] (by kernel_rfl) (AOK.cons (fun ρ a w hs hz hΓ hp => gp (d_move (hΓ 15 rfl))) (AOK.cons (fun ρ a w hs hz hΓ hp => gp (d_lss (hp 0 _ rfl rfl).1 (vI rfl))) AOK.nil rfl) rfl) (fun vs74 => ?_)
                    refine T.nil ?_
                    refine T.norm ?_
                    refine T.cond (b := (decide (x135 < 0))) (fun _ _ h => h) (fun hc => ?_) (fun hc => ?_)
                    · replace hF := iteT hF hc
                      refine T.seq ?_
                      refine T.region mix 1 [4] [0] [(sp (TB.sv false))] (by kernel_rfl) (AOK.cons (fun ρ a w hs hz hΓ hp => gp (d_assign (vB _))) AOK.nil rfl) (fun vs75 => ?_)
                      refine T.nil ?_
                      refine T.norm ?_
                      refine T.ret ?_
                      obtain rfl := Option.some.inj hF
                      refine T.fin0 fun ρ a w st => ?_
                      exact ⟨_, results_one rfl rfl, (st.env 4)⟩
                    · replace hF := iteF hF hc
                      refine T.skip ?_
                      refine T.norm ?_
                      refine T.seq ?_
                      refine T.seq ?_
                      refine T.region mix 3 [138, 139, 140] [0, 0, 3] [(sp ((TI .i64).sv x135)), (sp ((TI .i64).sv x90.2)), (sp (TB.sv (decide (x135 ≠ x90.2))))] (by kernel_rfl) (AOK.cons (fun ρ a w hs hz hΓ hp => gp (d_move (hΓ 15 rfl))) (AOK.cons (fun ρ a w hs hz hΓ hp => gp (d_move (hΓ 14 rfl))) (AOK.cons (fun ρ a w hs hz hΓ hp => gp (d_neq (hp 0 _ rfl rfl).1 (hp 1 _ rfl rfl).1)) AOK.nil rfl) rfl) rfl) (fun vs76 => ?_)
                      refine T.nil ?_
                      refine T.norm ?_
                      refine T.cond (b := (decide (x135 ≠ x90.2))) (fun _ _ h => h) (fun hc => ?_) (fun hc => ?_)
                      · replace hF := iteT hF hc
                        refine T.seq ?_
                        refine T.region mix 1 [4] [0] [(sp (TB.sv false))] (by kernel_rfl) (AOK.cons (fun ρ a w hs hz hΓ hp => gp (d_assign (vB _))) AOK.nil rfl) (fun vs77 => ?_)
                        refine T.nil ?_
                        refine T.norm ?_
                        refine T.ret ?_
                        obtain rfl := Option.some.inj hF
                        refine T.fin0 fun ρ a w st => ?_
                        exact ⟨_, results_one rfl rfl, (st.env 4)⟩
                      · replace hF := iteF hF hc
                        refine T.skip ?_
                        refine T.norm ?_
                        refine T.seq ?_
                        refine T.region mix 1 [4] [0] [(sp (TB.sv true))] (by kernel_rfl) (AOK.cons (fun ρ a w hs hz hΓ hp => gp (d_assign (vB _))) AOK.nil rfl) (fun vs78 => ?_)
                        refine T.nil ?_
                        refine T.norm ?_
                        refine T.ret ?_
                        obtain rfl := Option.some.inj hF
                        refine T.fin0 fun ρ a w st => ?_
                        exact ⟨_, results_one rfl rfl, (st.env 4)⟩
end Go.Proofs.Ytjmlfdhddbhlpaa
