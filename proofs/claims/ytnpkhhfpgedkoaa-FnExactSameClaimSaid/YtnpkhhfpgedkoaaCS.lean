/-
  The walks: each function comes to what its plain function says.
-/
import Derived.Test.YtnpkhhfpgedkoaaFactsS
import Derived.Test.YtnpkhhfpgedkoaaFS
set_option linter.unusedVariables false
set_option maxHeartbeats 1600000
set_option maxRecDepth 100000
namespace Go.Proofs.Ytnpkhhfpgedkoaa
open Go
theorem c67 (w : World) (v0 v1 : Value) {σ : Heap} (hσ : σ.le (snap w)) {x0 : (List Int)} {x1 : Int} {r : Int} (hF : laws_szInt16S x0 x1 = some r) (h0 : Y47.val σ v0 x0) (h1 : (TI .i64).val σ v1 x1) :
    Calls Try.prog 67 #[v0, v1] w (Ret [] w σ ((TI .i64).sv r) []) := by
  unfold laws_szInt16S at hF
  refine start (args := [v0, v1]) Try.func67 rfl 12 rfl [] [(0, (Y47.sv x0)), (1, ((TI .i64).sv x1))] [] (sat_start _ hσ) rfl (args1 rfl h0 (args1 rfl h1 (args0))) ?_
  refine T.seq ?_
  refine T.region mix 1 [4] [0] [(sp ((TI .i64).sv 0))] (by kernel_rfl) (AOK.cons (fun ρ a w hs hz hΓ hp => gp (d_assign (vI rfl))) AOK.nil rfl) (fun vs1 => ?_)
  refine T.nil ?_
  refine T.norm ?_
  refine T.seq ?_
  refine T.region mix 5 [5, 6, 7, 8, 1] [0, 0, 2, 7, 15] [(sp ((TI .i64).sv x1)), (sp (Y47.sv x0)), (sp ((TI .i64).sv (x0.length : Int))), (sp ((TI .i64).sv (IntKind.i64.wrap (x1 - (x0.length : Int))))), (sp ((TI .i64).sv (IntKind.i64.wrap (x1 - (x0.length : Int)))))] (by kernel_rfl) (AOK.cons (fun ρ a w hs hz hΓ hp => gp (d_move (hΓ 1 rfl))) (AOK.cons (fun ρ a w hs hz hΓ hp => gp (d_move (hΓ 0 rfl))) (AOK.cons (fun ρ a w hs hz hΓ hp => gp (d_lenR u47 (hp 1 _ rfl rfl).1)) (AOK.cons (fun ρ a w hs hz hΓ hp => gp (d_sub (hp 0 _ rfl rfl).1 (hp 2 _ rfl rfl).1)) (AOK.cons (fun ρ a w hs hz hΓ hp => gp (d_assign (hp 3 _ rfl rfl).1)) AOK.nil rfl) rfl) rfl) rfl) rfl) (fun vs2 => ?_)
  refine T.nil ?_
  refine T.norm ?_
  refine T.seq ?_
  refine T.seq ?_
  refine T.region mix 2 [9, 10] [0, 1] [(sp ((TI .i64).sv (IntKind.i64.wrap (x1 - (x0.length : Int))))), (sp (TB.sv (decide ((IntKind.i64.wrap (x1 - (x0.length : Int))) < 0))))] (by kernel_rfl) (AOK.cons (fun ρ a w hs hz hΓ hp => gp (d_move (hΓ 1 rfl))) (AOK.cons (fun ρ a w hs hz hΓ hp => gp (d_lss (hp 0 _ rfl rfl).1 (vI rfl))) AOK.nil rfl) rfl) (fun vs3 => ?_)
  refine T.nil ?_
  refine T.norm ?_
  refine T.cond (b := (decide ((IntKind.i64.wrap (x1 - (x0.length : Int))) < 0))) (fun _ _ h => h) (fun hc => ?_) (fun hc => ?_)
  · replace hF := iteT hF hc
    refine T.seq ?_
    refine T.region mix 1 [4] [0] [(sp ((TI .i64).sv (-1)))] (by kernel_rfl) (AOK.cons (fun ρ a w hs hz hΓ hp => gp (d_assign (vI rfl))) AOK.nil rfl) (fun vs4 => ?_)
    refine T.nil ?_
    refine T.norm ?_
    refine T.ret ?_
    obtain rfl := Option.some.inj hF
    refine T.fin0 fun ρ a w st => ?_
    exact ⟨_, results_one rfl rfl, (st.env 4)⟩
  · replace hF := iteF hF hc
    refine T.skip ?_
    refine T.norm ?_
    refine T.seq ?_
    refine T.region mix 2 [11, 4] [0, 1] [(sp ((TI .i64).sv (IntKind.i64.wrap (x1 - (x0.length : Int))))), (sp ((TI .i64).sv (IntKind.i64.wrap (x1 - (x0.length : Int)))))] (by kernel_rfl) (AOK.cons (fun ρ a w hs hz hΓ hp => gp (d_move (hΓ 1 rfl))) (AOK.cons (fun ρ a w hs hz hΓ hp => gp (d_assign (hp 0 _ rfl rfl).1)) AOK.nil rfl) rfl) (fun vs5 => ?_)
    refine T.nil ?_
    refine T.norm ?_
    refine T.ret ?_
    obtain rfl := Option.some.inj hF
    refine T.fin0 fun ρ a w st => ?_
    exact ⟨_, results_one rfl rfl, (st.env 4)⟩

theorem c28 (w : World) (v0 v1 : Value) {σ : Heap} (hσ : σ.le (snap w)) {x0 : (Int × (List Nat) × Int × Int × Nat × (List Int))} {x1 : Int} {r : Int} (hF : laws_szClaim x0 x1 = some r) (h0 : Y48.val σ v0 x0) (h1 : (TI .i64).val σ v1 x1) :
    Calls Try.prog 28 #[v0, v1] w (Ret [] w σ ((TI .i64).sv r) []) := by
  unfold laws_szClaim at hF
  refine start (args := [v0, v1]) Try.func28 rfl 12 rfl [] [(0, (Y48.sv x0)), (1, ((TI .i64).sv x1))] [] (sat_start _ hσ) rfl (args1 rfl h0 (args1 rfl h1 (args0))) ?_
  refine T.seq ?_
  refine T.region mix 2 [2, 4] [0, 0] [(sp ((TP Y48).sv x0)), (sp ((TI .i64).sv 0))] (by kernel_rfl) (AOK.cons (fun ρ a w hs hz hΓ hp => gp (d_box hs.le (hΓ 0 rfl))) (AOK.cons (fun ρ a w hs hz hΓ hp => gp (d_assign (vI rfl))) AOK.nil rfl) rfl) (fun vs1 => ?_)
  refine T.nil ?_
  refine T.norm ?_
  refine T.seq ?_
  obtain ⟨x8, e3, hF⟩ := bindS hF
  refine T.region mix 5 [5, 6, 7, 8, 1] [0, 1, 0, 7, 15] [(sp ((TP Y47).sv x0.2.2.2.2.2)), (sp (Y47.sv x0.2.2.2.2.2)), (sp ((TI .i64).sv x1)), (sp ((TI .i64).sv x8)), (sp ((TI .i64).sv x8))] (by kernel_rfl) (AOK.cons (fun ρ a w hs hz hΓ hp => gp (d_fieldP fa49_5 (hΓ 2 rfl) (At.snd (At.snd (At.snd (At.snd (At.snd (At.refl _ _)))))))) (AOK.cons (fun ρ a w hs hz hΓ hp => gp (d_load y47 hs.le (hp 0 _ rfl rfl).1)) (AOK.cons (fun ρ a w hs hz hΓ hp => gp (d_move (hΓ 1 rfl))) (AOK.cons (fun ρ a w hs hz hΓ hp => gp (d_call fn67 hs.le mapA2 (c67 w _ _ hs.le e3 ((hp 1 _ rfl rfl).1) ((hp 2 _ rfl rfl).1)))) (AOK.cons (fun ρ a w hs hz hΓ hp => gp (d_assign (hp 3 _ rfl rfl).1)) AOK.nil rfl) rfl) rfl) rfl) rfl) (fun vs2 => ?_)
  refine T.nil ?_
  refine T.norm ?_
  refine T.seq ?_
  refine T.seq ?_
  refine T.region mix 2 [9, 10] [0, 1] [(sp ((TI .i64).sv x8)), (sp (TB.sv (decide (x8 < 0))))] (by kernel_rfl) (AOK.cons (fun ρ a w hs hz hΓ hp => gp (d_move (hΓ 1 rfl))) (AOK.cons (fun ρ a w hs hz hΓ hp => gp (d_lss (hp 0 _ rfl rfl).1 (vI rfl))) AOK.nil rfl) rfl) (fun vs4 => ?_)
  refine T.nil ?_
  refine T.norm ?_
  refine T.cond (b := (decide (x8 < 0))) (fun _ _ h => h) (fun hc => ?_) (fun hc => ?_)
  · replace hF := iteT hF hc
    refine T.seq ?_
    refine T.region mix 1 [4] [0] [(sp ((TI .i64).sv (-1)))] (by kernel_rfl) (AOK.cons (fun ρ a w hs hz hΓ hp => gp (d_assign (vI rfl))) AOK.nil rfl) (fun vs5 => ?_)
    refine T.nil ?_
    refine T.norm ?_
    refine T.ret ?_
    obtain rfl := Option.some.inj hF
    refine T.fin0 fun ρ a w st => ?_
    exact ⟨_, results_one rfl rfl, (st.env 4)⟩
  · replace hF := iteF hF hc
    refine T.skip ?_
    refine T.norm ?_
    refine T.seq ?_
    refine T.region mix 2 [11, 4] [0, 1] [(sp ((TI .i64).sv x8)), (sp ((TI .i64).sv x8))] (by kernel_rfl) (AOK.cons (fun ρ a w hs hz hΓ hp => gp (d_move (hΓ 1 rfl))) (AOK.cons (fun ρ a w hs hz hΓ hp => gp (d_assign (hp 0 _ rfl rfl).1)) AOK.nil rfl) rfl) (fun vs6 => ?_)
    refine T.nil ?_
    refine T.norm ?_
    refine T.ret ?_
    obtain rfl := Option.some.inj hF
    refine T.fin0 fun ρ a w st => ?_
    exact ⟨_, results_one rfl rfl, (st.env 4)⟩

theorem c69 (w : World) (v0 : Value) {σ : Heap} (hσ : σ.le (snap w)) {x0 : (List Nat)} {r : (List Nat)} (hF : laws_toPoint x0 = some r) (h0 : Y46.val σ v0 x0) :
    Calls Try.prog 69 #[v0] w (Ret [] w σ (Y46.sv r) []) := by
  unfold laws_toPoint at hF
  refine start (args := [v0]) Try.func69 rfl 15 rfl [] [(0, (Y46.sv x0))] [] (sat_start _ hσ) rfl (args1 rfl h0 (args0)) ?_
  refine T.seq ?_
  refine T.region mix 2 [1, 2] [0, 0] [(sp ((TP Y46).sv x0)), (sO SRel.any [(1, (boxR 52 Y46 (List.replicate 3 0)))])] (by kernel_rfl) (AOK.cons (fun ρ a w hs hz hΓ hp => gp (d_box hs.le (hΓ 0 rfl))) (AOK.cons (fun ρ a w hs hz hΓ hp => g_alloc hs.le z52 zc52) AOK.nil rfl) rfl) (fun vs1 => ?_)
  refine T.nil ?_
  refine T.norm ?_
  refine T.seq ?_
  refine T.region mix 1 [3] [0] [(sO SRel.any [(2, (boxR 52 Y46 (List.replicate 3 0)))])] (by kernel_rfl) (AOK.cons (fun ρ a w hs hz hΓ hp => g_alloc hs.le z52 zc52) AOK.nil rfl) (fun vs2 => ?_)
  refine T.nil ?_
  refine T.norm ?_
  refine T.seq ?_
  refine T.seq ?_
  refine T.region mix 1 [4] [0] [(sp ((TI .i64).sv 0))] (by kernel_rfl) (AOK.cons (fun ρ a w hs hz hΓ hp => gp (d_assign (vI rfl))) AOK.nil rfl) (fun vs3 => ?_)
  refine T.nil ?_
  refine T.norm ?_
  obtain ⟨yl4, e5, hF⟩ := bindS hF
  refine T.joinD (ι := (Int × (List Nat)) × (Unit)) (fun p => yl4 = p.1) (Γ' := fun p => E [(2, (SRel.eq (vs1 1))), (3, (SRel.eq (vs2 0)))]) (H' := fun p => HL [(1, (boxR 52 Y46 (List.replicate 3 0) (vs1 1))), (2, (boxR 52 Y46 p.1.2 (vs2 0)))]) (fun p hy => ?_) (fun hk => ?_)
  · obtain ⟨⟨o4, or2⟩, _⟩ := p
    cases hy
    refine T.norm ?_
    refine T.seq ?_
    refine T.region mix 1 [14] [0, 1] [(sp (Y46.sv or2))] (by kernel_rfl) (AOK.cons (fun ρ a w hs hz hΓ hp => gp (d_loadO y52 hs 2 rfl (.inl ⟨(hΓ 3 rfl), rfl⟩) (At.refl Y46 or2))) AOK.nil rfl) (fun vs6 => ?_)
    refine T.store 1 y52 rfl (fun ρ a w st => ⟨.inl ⟨(st.env 2), rfl⟩, (st.env 14)⟩) (At.refl Y46 (List.replicate 3 0)) ?_
    refine T.nil ?_
    refine T.norm ?_
    refine T.ret ?_
    obtain rfl := Option.some.inj hF
    refine T.fin0 fun ρ a w st => ?_
    obtain ⟨q0, hr0, hv0⟩ := rv_cell y52 st.sat 1 rfl (st.env 2)
    exact ⟨_, results_one rfl hr0, hv0⟩
  · skip
    refine T.block ?_
    refine T.loop (f := laws_toPoint_l1 x0) (σ := (Int × (List Nat))) (Z := Unit) (fun s z => E [(1, ((TP Y46).sv x0)), (2, (SRel.eq (vs1 1))), (3, (SRel.eq (vs2 0))), (4, ((TI .i64).sv s.1))]) (fun s z => HL [(1, (boxR 52 Y46 (List.replicate 3 0) (vs1 1))), (2, (boxR 52 Y46 s.2 (vs2 0)))]) e5 () (fun φ h => T.toh h ⟨fun _ _ h => h, fun _ _ h => h.1, fun _ _ h => h.1, fun _ _ h => h, trivial⟩ ⟨rfl, rfl, trivial⟩) (fun k s z uu4 hu4 hn4 => ?_)
    obtain ⟨s4, sr2⟩ := s
    dsimp only [laws_toPoint_l1] at hu4
    refine T.seq ?_
    refine T.seq ?_
    refine T.region mix 2 [5, 6] [0, 1] [(sp ((TI .i64).sv s4)), (sp (TB.sv (decide (s4 < 3))))] (by kernel_rfl) (AOK.cons (fun ρ a w hs hz hΓ hp => gp (d_move (hΓ 4 rfl))) (AOK.cons (fun ρ a w hs hz hΓ hp => gp (d_lss (hp 0 _ rfl rfl).1 (vI rfl))) AOK.nil rfl) rfl) (fun vs7 => ?_)
    refine T.nil ?_
    refine T.norm ?_
    refine T.cond (b := (decide (s4 < 3))) (fun _ _ h => h) (fun hc => ?_) (fun hc => ?_)
    · replace hu4 := iteT hu4 hc
      refine T.skip ?_
      refine T.norm ?_
      refine T.seq ?_
      refine T.block ?_
      obtain ⟨x11, e9, hu4⟩ := bindS hu4
      obtain ⟨x13, e10, hu4⟩ := bindS hu4
      refine T.region mix 5 [9, 10, 11, 12, 13] [0, 0, 2, 6, 15, 31] [(sp ((TI .i64).sv s4)), (sp ((TI .i64).sv s4)), (sp ((TP (TF .f32)).sv x11)), (sp ((TF .f32).sv x11)), (sp (SRel.eq (at_ (vs2 0) (0 + s4.toNat * (TF .f32).n))))] (by kernel_rfl) (AOK.cons (fun ρ a w hs hz hΓ hp => gp (d_move (hΓ 4 rfl))) (AOK.cons (fun ρ a w hs hz hΓ hp => gp (d_move (hΓ 4 rfl))) (AOK.cons (fun ρ a w hs hz hΓ hp => gp (d_idxP u46 y45 (hΓ 1 rfl) (hp 1 _ rfl rfl).1 e9)) (AOK.cons (fun ρ a w hs hz hΓ hp => gp (d_load y45 hs.le (hp 2 _ rfl rfl).1)) (AOK.cons (fun ρ a w hs hz hΓ hp => gp (d_idxO u52 y45 hs 2 rfl (.inl ⟨(hΓ 3 rfl), rfl⟩) (At.refl Y46 sr2) (hp 0 _ rfl rfl).1 e10)) AOK.nil rfl) rfl) rfl) rfl) rfl) (fun vs8 => ?_)
      refine T.store 2 y45 rfl (fun ρ a w st => ⟨.inr (st.env 13), (st.env 12)⟩) (At.elem (At.refl Y46 sr2) (idx_get e10).2) ?_
      refine T.nil ?_
      refine T.fallX ?_
      refine T.norm ?_
      refine T.region mix 3 [7, 8, 4] [0, 1, 3] [(sp ((TI .i64).sv s4)), (sp ((TI .i64).sv (IntKind.i64.wrap (s4 + 1)))), (sp ((TI .i64).sv (IntKind.i64.wrap (s4 + 1))))] (by kernel_rfl) (AOK.cons (fun ρ a w hs hz hΓ hp => gp (d_move (hΓ 4 rfl))) (AOK.cons (fun ρ a w hs hz hΓ hp => gp (d_add (hp 0 _ rfl rfl).1 (vI rfl))) (AOK.cons (fun ρ a w hs hz hΓ hp => gp (d_assign (hp 1 _ rfl rfl).1)) AOK.nil rfl) rfl) rfl) (fun vs11 => ?_)
      refine T.nil ?_
      obtain rfl := Option.some.inj hu4
      exact T.again hn4 () (fun φ h => T.toh h ⟨fun _ _ h => h, fun _ _ h => h, fun _ _ h => h, fun _ _ h => h, trivial⟩ ⟨rfl, rfl, trivial⟩)
    · replace hu4 := iteF hu4 hc
      refine T.exit ?_
      obtain rfl := Option.some.inj hu4
      repeat (first | refine T.passX ?_ | refine T.inX (by decide) ?_)
      refine T.hereX ?_
      exact T.toh (hk ((s4, sr2), ()) (Eq.symm hn4)) ⟨fun _ _ h => h, fun _ _ h => h, trivial⟩ ⟨rfl, rfl, trivial⟩

theorem c70 (w : World) (v0 : Value) {σ : Heap} (hσ : σ.le (snap w)) {x0 : (List Int)} {r : (List Int)} (hF : laws_toInt16S x0 = some r) (h0 : Y47.val σ v0 x0) :
    Calls Try.prog 70 #[v0] w (Ret [] w σ SRel.any [slR 24 (TI .i16) r]) := by
  unfold laws_toInt16S at hF
  refine start (args := [v0]) Try.func70 rfl 22 rfl [] [(0, (Y47.sv x0))] [] (sat_start _ hσ) rfl (args1 rfl h0 (args0)) ?_
  refine T.seq ?_
  refine T.region mix 1 [2] [0] [(sO SRel.any [(1, (slR 24 (TI .i16) []))])] (by kernel_rfl) (AOK.cons (fun ρ a w hs hz hΓ hp => g_nilSl) AOK.nil rfl) (fun vs1 => ?_)
  refine T.nil ?_
  refine T.norm ?_
  refine T.seq ?_
  obtain ⟨_u7, e3, hF⟩ := bindS hF
  refine T.region mix 4 [5, 6, 7, 3] [0, 1, 3, 7] [(sp (Y47.sv x0)), (sp ((TI .i64).sv (x0.length : Int))), (sO SRel.any [(2, (slR 24 (TI .i16) (List.replicate (x0.length : Int).toNat 0)))]), (al 2 (id))] (by kernel_rfl) (AOK.cons (fun ρ a w hs hz hΓ hp => gp (d_move (hΓ 0 rfl))) (AOK.cons (fun ρ a w hs hz hΓ hp => gp (d_lenR u47 (hp 0 _ rfl rfl).1)) (AOK.cons (fun ρ a w hs hz hΓ hp => g_makeSl hs.le u47 i24 rfl zc24 (hp 1 _ rfl rfl).1 (hp 1 _ rfl rfl).1 (need_get e3)) (AOK.cons (fun ρ a w hs hz hΓ hp => al_assign rfl) AOK.nil rfl) rfl) rfl) rfl) (fun vs2 => ?_)
  refine T.nil ?_
  refine T.norm ?_
  refine T.seq ?_
  refine T.seq ?_
  refine T.region mix 1 [4] [0] [(sp ((TI .i64).sv 0))] (by kernel_rfl) (AOK.cons (fun ρ a w hs hz hΓ hp => gp (d_assign (vI rfl))) AOK.nil rfl) (fun vs4 => ?_)
  refine T.nil ?_
  refine T.norm ?_
  obtain ⟨yl5, e6, hF⟩ := bindS hF
  refine T.joinD (ι := (Int × (List Int)) × (Unit)) (fun p => yl5 = p.1) (Γ' := fun p => E [(3, (SRel.eq (vs2 2)))]) (H' := fun p => HL [(2, (slR 24 (TI .i16) p.1.2 (vs2 2)))]) (fun p hy => ?_) (fun hk => ?_)
  · obtain ⟨⟨o4, or2⟩, _⟩ := p
    cases hy
    refine T.norm ?_
    refine T.seq ?_
    refine T.region mix 2 [21, 2] [0, 1] [(sp (SRel.eq (vs2 2))), (sp (SRel.eq (vs2 2)))] (by kernel_rfl) (AOK.cons (fun ρ a w hs hz hΓ hp => gp (d_move (hΓ 3 rfl))) (AOK.cons (fun ρ a w hs hz hΓ hp => gp (d_assign (hp 0 _ rfl rfl).1)) AOK.nil rfl) rfl) (fun vs7 => ?_)
    refine T.nil ?_
    refine T.norm ?_
    refine T.ret ?_
    obtain rfl := Option.some.inj hF
    refine T.fin fun ρ a w st => ?_
    exact ⟨_, results_one rfl rfl, trivial, own1 (own_at (id := 2) (st.env 2) rfl), List.pairwise_singleton _ _⟩
  · skip
    refine T.block ?_
    refine T.loop (f := laws_toInt16S_l1 x0) (σ := (Int × (List Int))) (Z := Unit) (fun s z => E [(0, (Y47.sv x0)), (3, (SRel.eq (vs2 2))), (4, ((TI .i64).sv s.1))]) (fun s z => HL [(2, (slR 24 (TI .i16) s.2 (vs2 2)))]) e6 () (fun φ h => T.toh h ⟨fun _ _ h => h, fun _ _ h => h, fun _ _ h => h, trivial⟩ ⟨rfl, trivial⟩) (fun k s z uu5 hu5 hn5 => ?_)
    obtain ⟨s4, sr2⟩ := s
    dsimp only [laws_toInt16S_l1] at hu5
    refine T.seq ?_
    refine T.seq ?_
    refine T.region mix 4 [8, 9, 10, 11] [0, 0, 2, 7] [(sp ((TI .i64).sv s4)), (sp (Y47.sv x0)), (sp ((TI .i64).sv (x0.length : Int))), (sp (TB.sv (decide (s4 < (x0.length : Int)))))] (by kernel_rfl) (AOK.cons (fun ρ a w hs hz hΓ hp => gp (d_move (hΓ 4 rfl))) (AOK.cons (fun ρ a w hs hz hΓ hp => gp (d_move (hΓ 0 rfl))) (AOK.cons (fun ρ a w hs hz hΓ hp => gp (d_lenR u47 (hp 1 _ rfl rfl).1)) (AOK.cons (fun ρ a w hs hz hΓ hp => gp (d_lss (hp 0 _ rfl rfl).1 (hp 2 _ rfl rfl).1)) AOK.nil rfl) rfl) rfl) rfl) (fun vs8 => ?_)
    refine T.nil ?_
    refine T.norm ?_
    refine T.cond (b := (decide (s4 < (x0.length : Int)))) (fun _ _ h => h) (fun hc => ?_) (fun hc => ?_)
    · replace hu5 := iteT hu5 hc
      refine T.skip ?_
      refine T.norm ?_
      refine T.seq ?_
      refine T.block ?_
      obtain ⟨x18, e10, hu5⟩ := bindS hu5
      obtain ⟨x20, e11, hu5⟩ := bindS hu5
      refine T.region mix 7 [14, 15, 16, 17, 18, 19, 20] [0, 0, 0, 0, 12, 28, 63, 127] [(sp (SRel.eq (vs2 2))), (sp ((TI .i64).sv s4)), (sp (Y47.sv x0)), (sp ((TI .i64).sv s4)), (sp ((TP (TI .i16)).sv x18)), (sp ((TI .i16).sv x18)), (sp (SRel.eq (at_ (vs2 2) (s4.toNat * (TI .i16).n + 0))))] (by kernel_rfl) (AOK.cons (fun ρ a w hs hz hΓ hp => gp (d_move (hΓ 3 rfl))) (AOK.cons (fun ρ a w hs hz hΓ hp => gp (d_move (hΓ 4 rfl))) (AOK.cons (fun ρ a w hs hz hΓ hp => gp (d_move (hΓ 0 rfl))) (AOK.cons (fun ρ a w hs hz hΓ hp => gp (d_move (hΓ 4 rfl))) (AOK.cons (fun ρ a w hs hz hΓ hp => gp (d_idxR u47 y24 (hp 2 _ rfl rfl).1 (hp 3 _ rfl rfl).1 e10)) (AOK.cons (fun ρ a w hs hz hΓ hp => gp (d_load y24 hs.le (hp 4 _ rfl rfl).1)) (AOK.cons (fun ρ a w hs hz hΓ hp => gp (d_idxS u47 y24 hs 2 rfl (hp 0 _ rfl rfl).1 (hp 1 _ rfl rfl).1 e11)) AOK.nil rfl) rfl) rfl) rfl) rfl) rfl) rfl) (fun vs9 => ?_)
      refine T.storeS 2 y24 rfl (idx_get e11).2 (fun ρ a w st => ⟨(st.env 20), (st.env 19)⟩) (At.refl (TI .i16) x20) ?_
      refine T.nil ?_
      refine T.fallX ?_
      refine T.norm ?_
      refine T.region mix 3 [12, 13, 4] [0, 1, 3] [(sp ((TI .i64).sv s4)), (sp ((TI .i64).sv (IntKind.i64.wrap (s4 + 1)))), (sp ((TI .i64).sv (IntKind.i64.wrap (s4 + 1))))] (by kernel_rfl) (AOK.cons (fun ρ a w hs hz hΓ hp => gp (d_move (hΓ 4 rfl))) (AOK.cons (fun ρ a w hs hz hΓ hp => gp (d_add (hp 0 _ rfl rfl).1 (vI rfl))) (AOK.cons (fun ρ a w hs hz hΓ hp => gp (d_assign (hp 1 _ rfl rfl).1)) AOK.nil rfl) rfl) rfl) (fun vs12 => ?_)
      refine T.nil ?_
      obtain rfl := Option.some.inj hu5
      exact T.again hn5 () (fun φ h => T.toh h ⟨fun _ _ h => h, fun _ _ h => h, fun _ _ h => h, trivial⟩ ⟨rfl, trivial⟩)
    · replace hu5 := iteF hu5 hc
      refine T.exit ?_
      obtain rfl := Option.some.inj hu5
      repeat (first | refine T.passX ?_ | refine T.inX (by decide) ?_)
      refine T.hereX ?_
      exact T.toh (hk ((s4, sr2), ()) (Eq.symm hn5)) ⟨fun _ _ h => h, trivial⟩ ⟨rfl, trivial⟩

theorem c30 (w : World) (v0 : Value) {σ : Heap} (hσ : σ.le (snap w)) {x0 : (Int × (List Nat) × Int × Int × Nat × (List Int))} {r : (Int × (List Nat) × Int × Int × Nat × (List Int))} (hF : laws_toClaim x0 = some r) (h0 : Y48.val σ v0 x0) :
    Calls Try.prog 30 #[v0] w (Ret [] w σ (Y48.sv r) []) := by
  unfold laws_toClaim at hF
  refine start (args := [v0]) Try.func30 rfl 25 rfl [] [(0, (Y48.sv x0))] [] (sat_start _ hσ) rfl (args1 rfl h0 (args0)) ?_
  refine T.seq ?_
  refine T.region mix 2 [1, 2] [0, 0] [(sp ((TP Y48).sv x0)), (sO SRel.any [(1, (boxR 54 Y48 (0, (List.replicate 3 0), 0, 0, 0, [])))])] (by kernel_rfl) (AOK.cons (fun ρ a w hs hz hΓ hp => gp (d_box hs.le (hΓ 0 rfl))) (AOK.cons (fun ρ a w hs hz hΓ hp => g_alloc hs.le z54 zc54) AOK.nil rfl) rfl) (fun vs1 => ?_)
  refine T.nil ?_
  refine T.norm ?_
  refine T.seq ?_
  refine T.region mix 1 [3] [0] [(sO SRel.any [(2, (boxR 54 Y48 (0, (List.replicate 3 0), 0, 0, 0, [])))])] (by kernel_rfl) (AOK.cons (fun ρ a w hs hz hΓ hp => g_alloc hs.le z54 zc54) AOK.nil rfl) (fun vs2 => ?_)
  refine T.nil ?_
  refine T.norm ?_
  refine T.seq ?_
  refine T.region mix 3 [4, 5, 6] [0, 1, 3, 7] [(sp ((TP (TI .i8)).sv x0.1)), (sp ((TI .i8).sv x0.1)), (sp (SRel.eq (at_ (vs2 0) (0 + 0))))] (by kernel_rfl) (AOK.cons (fun ρ a w hs hz hΓ hp => gp (d_fieldP fa49_0 (hΓ 1 rfl) (At.fst (At.refl _ _)))) (AOK.cons (fun ρ a w hs hz hΓ hp => gp (d_load y34 hs.le (hp 0 _ rfl rfl).1)) (AOK.cons (fun ρ a w hs hz hΓ hp => gp (d_fieldO fa54_0 hs 2 rfl (.inl ⟨(hΓ 3 rfl).1, rfl⟩))) AOK.nil rfl) rfl) rfl) (fun vs3 => ?_)
  refine T.store 2 y34 rfl (fun ρ a w st => ⟨.inr (st.env 6), (st.env 5)⟩) (At.fst (At.refl Y48 (0, (List.replicate 3 0), 0, 0, 0, []))) ?_
  refine T.nil ?_
  refine T.norm ?_
  refine T.seq ?_
  obtain ⟨x9, e5, hF⟩ := bindS hF
  refine T.region mix 4 [7, 8, 9, 10] [0, 1, 3, 7, 15] [(sp ((TP Y46).sv x0.2.1)), (sp (Y46.sv x0.2.1)), (sp (Y46.sv x9)), (sp (SRel.eq (at_ (vs2 0) (0 + 1))))] (by kernel_rfl) (AOK.cons (fun ρ a w hs hz hΓ hp => gp (d_fieldP fa49_1 (hΓ 1 rfl) (At.fst (At.snd (At.refl _ _))))) (AOK.cons (fun ρ a w hs hz hΓ hp => gp (d_load y46 hs.le (hp 0 _ rfl rfl).1)) (AOK.cons (fun ρ a w hs hz hΓ hp => gp (d_call fn69 hs.le mapA1 (c69 w _ hs.le e5 ((hp 1 _ rfl rfl).1)))) (AOK.cons (fun ρ a w hs hz hΓ hp => gp (d_fieldO fa54_1 hs 2 rfl (.inl ⟨(hΓ 3 rfl).1, rfl⟩))) AOK.nil rfl) rfl) rfl) rfl) (fun vs4 => ?_)
  refine T.store 2 y52 rfl (fun ρ a w st => ⟨.inr (st.env 10), (st.env 9)⟩) (At.fst (At.snd (At.refl Y48 (x0.1, (List.replicate 3 0), 0, 0, 0, [])))) ?_
  refine T.nil ?_
  refine T.norm ?_
  refine T.seq ?_
  refine T.region mix 3 [11, 12, 13] [0, 1, 3, 7] [(sp ((TP (TI .i64)).sv x0.2.2.1)), (sp ((TI .i64).sv x0.2.2.1)), (sp (SRel.eq (at_ (vs2 0) (0 + 4))))] (by kernel_rfl) (AOK.cons (fun ρ a w hs hz hΓ hp => gp (d_fieldP fa49_2 (hΓ 1 rfl) (At.fst (At.snd (At.snd (At.refl _ _)))))) (AOK.cons (fun ρ a w hs hz hΓ hp => gp (d_load y2 hs.le (hp 0 _ rfl rfl).1)) (AOK.cons (fun ρ a w hs hz hΓ hp => gp (d_fieldO fa54_2 hs 2 rfl (.inl ⟨(hΓ 3 rfl).1, rfl⟩))) AOK.nil rfl) rfl) rfl) (fun vs6 => ?_)
  refine T.store 2 y2 rfl (fun ρ a w st => ⟨.inr (st.env 13), (st.env 12)⟩) (At.fst (At.snd (At.snd (At.refl Y48 (x0.1, x9, 0, 0, 0, []))))) ?_
  refine T.nil ?_
  refine T.norm ?_
  refine T.seq ?_
  refine T.region mix 3 [14, 15, 16] [0, 1, 3, 7] [(sp ((TP (TI .i64)).sv x0.2.2.2.1)), (sp ((TI .i64).sv x0.2.2.2.1)), (sp (SRel.eq (at_ (vs2 0) (0 + 5))))] (by kernel_rfl) (AOK.cons (fun ρ a w hs hz hΓ hp => gp (d_fieldP fa49_3 (hΓ 1 rfl) (At.fst (At.snd (At.snd (At.snd (At.refl _ _))))))) (AOK.cons (fun ρ a w hs hz hΓ hp => gp (d_load y2 hs.le (hp 0 _ rfl rfl).1)) (AOK.cons (fun ρ a w hs hz hΓ hp => gp (d_fieldO fa54_3 hs 2 rfl (.inl ⟨(hΓ 3 rfl).1, rfl⟩))) AOK.nil rfl) rfl) rfl) (fun vs7 => ?_)
  refine T.store 2 y2 rfl (fun ρ a w st => ⟨.inr (st.env 16), (st.env 15)⟩) (At.fst (At.snd (At.snd (At.snd (At.refl Y48 (x0.1, x9, x0.2.2.1, 0, 0, [])))))) ?_
  refine T.nil ?_
  refine T.norm ?_
  refine T.seq ?_
  refine T.region mix 3 [17, 18, 19] [0, 1, 3, 7] [(sp ((TP (TF .f32)).sv x0.2.2.2.2.1)), (sp ((TF .f32).sv x0.2.2.2.2.1)), (sp (SRel.eq (at_ (vs2 0) (0 + 6))))] (by kernel_rfl) (AOK.cons (fun ρ a w hs hz hΓ hp => gp (d_fieldP fa49_4 (hΓ 1 rfl) (At.fst (At.snd (At.snd (At.snd (At.snd (At.refl _ _)))))))) (AOK.cons (fun ρ a w hs hz hΓ hp => gp (d_load y45 hs.le (hp 0 _ rfl rfl).1)) (AOK.cons (fun ρ a w hs hz hΓ hp => gp (d_fieldO fa54_4 hs 2 rfl (.inl ⟨(hΓ 3 rfl).1, rfl⟩))) AOK.nil rfl) rfl) rfl) (fun vs8 => ?_)
  refine T.store 2 y45 rfl (fun ρ a w st => ⟨.inr (st.env 19), (st.env 18)⟩) (At.fst (At.snd (At.snd (At.snd (At.snd (At.refl Y48 (x0.1, x9, x0.2.2.1, x0.2.2.2.1, 0, []))))))) ?_
  refine T.nil ?_
  refine T.norm ?_
  refine T.seq ?_
  obtain ⟨x22, e10, hF⟩ := bindS hF
  refine T.region mix 4 [20, 21, 22, 23] [0, 1, 3, 7, 15] [(sp ((TP Y47).sv x0.2.2.2.2.2)), (sp (Y47.sv x0.2.2.2.2.2)), (sp (Y47.sv x22)), (sp (SRel.eq (at_ (vs2 0) (0 + 7))))] (by kernel_rfl) (AOK.cons (fun ρ a w hs hz hΓ hp => gp (d_fieldP fa49_5 (hΓ 1 rfl) (At.snd (At.snd (At.snd (At.snd (At.snd (At.refl _ _)))))))) (AOK.cons (fun ρ a w hs hz hΓ hp => gp (d_load y47 hs.le (hp 0 _ rfl rfl).1)) (AOK.cons (fun ρ a w hs hz hΓ hp => gp (d_callR fn70 hs.le mapA1 (c70 w _ hs.le e10 ((hp 1 _ rfl rfl).1)))) (AOK.cons (fun ρ a w hs hz hΓ hp => gp (d_fieldO fa54_5 hs 2 rfl (.inl ⟨(hΓ 3 rfl).1, rfl⟩))) AOK.nil rfl) rfl) rfl) rfl) (fun vs9 => ?_)
  refine T.store 2 y47 rfl (fun ρ a w st => ⟨.inr (st.env 23), (st.env 22)⟩) (At.snd (At.snd (At.snd (At.snd (At.snd (At.refl Y48 (x0.1, x9, x0.2.2.1, x0.2.2.2.1, x0.2.2.2.2.1, []))))))) ?_
  refine T.nil ?_
  refine T.norm ?_
  refine T.seq ?_
  refine T.region mix 1 [24] [0, 1] [(sp (Y48.sv (x0.1, x9, x0.2.2.1, x0.2.2.2.1, x0.2.2.2.2.1, x22)))] (by kernel_rfl) (AOK.cons (fun ρ a w hs hz hΓ hp => gp (d_loadO y54 hs 2 rfl (.inl ⟨(hΓ 3 rfl).1, rfl⟩) (At.refl Y48 (x0.1, x9, x0.2.2.1, x0.2.2.2.1, x0.2.2.2.2.1, x22)))) AOK.nil rfl) (fun vs11 => ?_)
  refine T.store 1 y54 rfl (fun ρ a w st => ⟨.inl ⟨(st.env 2).1, rfl⟩, (st.env 24)⟩) (At.refl Y48 (0, (List.replicate 3 0), 0, 0, 0, [])) ?_
  refine T.nil ?_
  refine T.norm ?_
  refine T.ret ?_
  obtain rfl := Option.some.inj hF
  refine T.fin0 fun ρ a w st => ?_
  obtain ⟨q0, hr0, hv0⟩ := rv_cell y54 st.sat 1 rfl (st.env 2).1
  exact ⟨_, results_one rfl hr0, hv0⟩

theorem c105 (w : World) (v0 v1 : Value) {σ : Heap} (hσ : σ.le (snap w)) {x0 : Nat} {x1 : Nat} {r : Bool} (hF : spec_l01Same x0 x1 = some r) (h0 : (TF .f32).val σ v0 x0) (h1 : (TF .f32).val σ v1 x1) :
    Calls Try.prog 105 #[v0, v1] w (Ret [] w σ (TB.sv r) []) := by
  unfold spec_l01Same at hF
  refine start (args := [v0, v1]) Try.func105 rfl 26 rfl [] [(0, ((TF .f32).sv x0)), (1, ((TF .f32).sv x1))] [] (sat_start _ hσ) rfl (args1 rfl h0 (args1 rfl h1 (args0))) ?_
  refine T.seq ?_
  refine T.region mix 1 [4] [0] [(sp (TB.sv false))] (by kernel_rfl) (AOK.cons (fun ρ a w hs hz hΓ hp => gp (d_assign (vB _))) AOK.nil rfl) (fun vs1 => ?_)
  refine T.nil ?_
  refine T.norm ?_
  refine T.seq ?_
  refine T.seq ?_
  refine T.region mix 8 [5, 6, 7, 8, 9, 10, 11, 12] [0, 0, 3, 7, 15, 15, 63, 127] [(sp ((TF .f32).sv x0)), (sp ((TF .f32).sv x0)), (sp (TB.sv (fneq .f32 x0 x0))), (sp (TB.sv (fneq .f32 x0 x0))), (sp (SRel.when ((fneq .f32 x0 x0) = false) ((TF .f32).sv x1))), (sp (SRel.when ((fneq .f32 x0 x0) = false) ((TF .f32).sv x1))), (sp (SRel.when ((fneq .f32 x0 x0) = false) (TB.sv (fneq .f32 x1 x1)))), (sp (TB.sv ((fneq .f32 x0 x0) || (fneq .f32 x1 x1))))] (by kernel_rfl) (AOK.cons (fun ρ a w hs hz hΓ hp => gp (d_move (hΓ 0 rfl))) (AOK.cons (fun ρ a w hs hz hΓ hp => gp (d_move (hΓ 0 rfl))) (AOK.cons (fun ρ a w hs hz hΓ hp => gp (d_fneq (hp 0 _ rfl rfl).1 (hp 1 _ rfl rfl).1)) (AOK.cons (fun ρ a w hs hz hΓ hp => gp (d_move (hp 2 _ rfl rfl).1)) (AOK.cons (fun ρ a w hs hz hΓ hp => gg (g := 3) (d := 8) hz rfl (hp 3 _ rfl rfl).1 rfl (fun hc => d_move (hΓ 1 rfl))) (AOK.cons (fun ρ a w hs hz hΓ hp => gg (g := 3) (d := 8) hz rfl (hp 3 _ rfl rfl).1 rfl (fun hc => d_move (hΓ 1 rfl))) (AOK.cons (fun ρ a w hs hz hΓ hp => gg (g := 3) (d := 8) hz rfl (hp 3 _ rfl rfl).1 rfl (fun hc => d_fneq ((hp 4 _ rfl rfl).1 hc) ((hp 5 _ rfl rfl).1 hc))) (AOK.cons (fun ρ a w hs hz hΓ hp => gp (d_pick (hp 3 _ rfl rfl).1 (fun hc => pON hc) (fun hc => pO hc ((hp 6 _ rfl rfl).1 hc)))) AOK.nil rfl) rfl) rfl) rfl) rfl) rfl) rfl) rfl) (fun vs2 => ?_)
  refine T.nil ?_
  refine T.norm ?_
  refine T.cond (b := ((fneq .f32 x0 x0) || (fneq .f32 x1 x1))) (fun _ _ h => h) (fun hc => ?_) (fun hc => ?_)
  · replace hF := iteT hF hc
    refine T.seq ?_
    refine T.region mix 9 [13, 14, 15, 16, 17, 18, 19, 20, 4] [0, 0, 3, 7, 15, 15, 63, 127, 255] [(sp ((TF .f32).sv x0)), (sp ((TF .f32).sv x0)), (sp (TB.sv (fneq .f32 x0 x0))), (sp (TB.sv (fneq .f32 x0 x0))), (sp (SRel.when ((fneq .f32 x0 x0) = true) ((TF .f32).sv x1))), (sp (SRel.when ((fneq .f32 x0 x0) = true) ((TF .f32).sv x1))), (sp (SRel.when ((fneq .f32 x0 x0) = true) (TB.sv (fneq .f32 x1 x1)))), (sp (TB.sv ((fneq .f32 x0 x0) && (fneq .f32 x1 x1)))), (sp (TB.sv ((fneq .f32 x0 x0) && (fneq .f32 x1 x1))))] (by kernel_rfl) (AOK.cons (fun ρ a w hs hz hΓ hp => gp (d_move (hΓ 0 rfl))) (AOK.cons (fun ρ a w hs hz hΓ hp => gp (d_move (hΓ 0 rfl))) (AOK.cons (fun ρ a w hs hz hΓ hp => gp (d_fneq (hp 0 _ rfl rfl).1 (hp 1 _ rfl rfl).1)) (AOK.cons (fun ρ a w hs hz hΓ hp => gp (d_move (hp 2 _ rfl rfl).1)) (AOK.cons (fun ρ a w hs hz hΓ hp => gg (g := 3) (d := 16) hz rfl (hp 3 _ rfl rfl).1 rfl (fun hc => d_move (hΓ 1 rfl))) (AOK.cons (fun ρ a w hs hz hΓ hp => gg (g := 3) (d := 16) hz rfl (hp 3 _ rfl rfl).1 rfl (fun hc => d_move (hΓ 1 rfl))) (AOK.cons (fun ρ a w hs hz hΓ hp => gg (g := 3) (d := 16) hz rfl (hp 3 _ rfl rfl).1 rfl (fun hc => d_fneq ((hp 4 _ rfl rfl).1 hc) ((hp 5 _ rfl rfl).1 hc))) (AOK.cons (fun ρ a w hs hz hΓ hp => gp (d_pick (hp 3 _ rfl rfl).1 (fun hc => pA hc ((hp 6 _ rfl rfl).1 hc)) (fun hc => pAN hc))) (AOK.cons (fun ρ a w hs hz hΓ hp => gp (d_assign (hp 7 _ rfl rfl).1)) AOK.nil rfl) rfl) rfl) rfl) rfl) rfl) rfl) rfl) rfl) (fun vs3 => ?_)
    refine T.nil ?_
    refine T.norm ?_
    refine T.ret ?_
    obtain rfl := Option.some.inj hF
    refine T.fin0 fun ρ a w st => ?_
    exact ⟨_, results_one rfl rfl, (st.env 4)⟩
  · replace hF := iteF hF hc
    refine T.skip ?_
    refine T.norm ?_
    refine T.seq ?_
    obtain ⟨_u22, e5, hF⟩ := bindS hF
    obtain ⟨_u24, e6, hF⟩ := bindS hF
    refine T.region mix 6 [21, 22, 23, 24, 25, 4] [0, 1, 0, 7, 15, 31] [(sp ((TF .f32).sv x0)), (sp ((TI .u32).sv (x0 : Int))), (sp ((TF .f32).sv x1)), (sp ((TI .u32).sv (x1 : Int))), (sp (TB.sv (decide ((x0 : Int) = (x1 : Int))))), (sp (TB.sv (decide ((x0 : Int) = (x1 : Int)))))] (by kernel_rfl) (AOK.cons (fun ρ a w hs hz hΓ hp => gp (d_move (hΓ 0 rfl))) (AOK.cons (fun ρ a w hs hz hΓ hp => gp (d_bits32 ex106 (hp 0 _ rfl rfl).1 (need_get e5))) (AOK.cons (fun ρ a w hs hz hΓ hp => gp (d_move (hΓ 1 rfl))) (AOK.cons (fun ρ a w hs hz hΓ hp => gp (d_bits32 ex106 (hp 2 _ rfl rfl).1 (need_get e6))) (AOK.cons (fun ρ a w hs hz hΓ hp => gp (d_eql (hp 1 _ rfl rfl).1 (hp 3 _ rfl rfl).1)) (AOK.cons (fun ρ a w hs hz hΓ hp => gp (d_assign (hp 4 _ rfl rfl).1)) AOK.nil rfl) rfl) rfl) rfl) rfl) rfl) (fun vs4 => ?_)
    refine T.nil ?_
    refine T.norm ?_
    refine T.ret ?_
    obtain rfl := Option.some.inj hF
    refine T.fin0 fun ρ a w st => ?_
    exact ⟨_, results_one rfl rfl, (st.env 4)⟩

theorem c104 (w : World) (v0 v1 : Value) {σ : Heap} (hσ : σ.le (snap w)) {x0 : (List Nat)} {x1 : (List Nat)} {r : Bool} (hF : spec_l01SamePoint x0 x1 = some r) (h0 : Y46.val σ v0 x0) (h1 : Y46.val σ v1 x1) :
    Calls Try.prog 104 #[v0, v1] w (Ret [] w σ (TB.sv r) []) := by
  unfold spec_l01SamePoint at hF
  refine start (args := [v0, v1]) Try.func104 rfl 24 rfl [] [(0, (Y46.sv x0)), (1, (Y46.sv x1))] [] (sat_start _ hσ) rfl (args1 rfl h0 (args1 rfl h1 (args0))) ?_
  refine T.seq ?_
  refine T.region mix 3 [2, 3, 4] [0, 0, 0] [(sp ((TP Y46).sv x0)), (sp ((TP Y46).sv x1)), (sp (TB.sv false))] (by kernel_rfl) (AOK.cons (fun ρ a w hs hz hΓ hp => gp (d_box hs.le (hΓ 0 rfl))) (AOK.cons (fun ρ a w hs hz hΓ hp => gp (d_box hs.le (hΓ 1 rfl))) (AOK.cons (fun ρ a w hs hz hΓ hp => gp (d_assign (vB _))) AOK.nil rfl) rfl) rfl) (fun vs1 => ?_)
  refine T.nil ?_
  refine T.norm ?_
  refine T.seq ?_
  obtain ⟨x9, e3, hF⟩ := bindS hF
  obtain ⟨x16, e5, hF⟩ := bindS hF
  obtain ⟨x15, e6⟩ : ∃ (x15 : Bool), x9 = true → spec_l01Same (nth x0 1) (nth x1 1) = some x15 ∧ x15 = x16 := by
    by_cases hb : x9 = true
    · replace e5 := iteT e5 hb
      obtain ⟨x15, e4, e5⟩ := bindS e5
      exact ⟨x15, fun _ => ⟨e4, Option.some.inj e5⟩⟩
    · exact ⟨default, fun h => absurd h hb⟩
  have e7 : x9 = false → false = x16 := fun h => Option.some.inj (iteF e5 h)
  obtain ⟨x23, e9, hF⟩ := bindS hF
  obtain ⟨x22, e10⟩ : ∃ (x22 : Bool), x16 = true → spec_l01Same (nth x0 2) (nth x1 2) = some x22 ∧ x22 = x23 := by
    by_cases hb : x16 = true
    · replace e9 := iteT e9 hb
      obtain ⟨x22, e8, e9⟩ := bindS e9
      exact ⟨x22, fun _ => ⟨e8, Option.some.inj e9⟩⟩
    · exact ⟨default, fun h => absurd h hb⟩
  have e11 : x16 = false → false = x23 := fun h => Option.some.inj (iteF e9 h)
  refine T.region mix 20 [5, 6, 7, 8, 9, 10, 11, 12, 13, 14, 15, 16, 17, 18, 19, 20, 21, 22, 23, 4] [0, 1, 0, 4, 15, 31, 63, 127, 63, 319, 1023, 2047, 4095, 8191, 16383, 8191, 40959, 131071, 262143, 524287] [(sp ((TP (TF .f32)).sv (nth x0 0))), (sp ((TF .f32).sv (nth x0 0))), (sp ((TP (TF .f32)).sv (nth x1 0))), (sp ((TF .f32).sv (nth x1 0))), (sp (TB.sv x9)), (sp (TB.sv x9)), (sp (SRel.when (x9 = true) ((TP (TF .f32)).sv (nth x0 1)))), (sp (SRel.when (x9 = true) ((TF .f32).sv (nth x0 1)))), (sp (SRel.when (x9 = true) ((TP (TF .f32)).sv (nth x1 1)))), (sp (SRel.when (x9 = true) ((TF .f32).sv (nth x1 1)))), (sp (SRel.when (x9 = true) (TB.sv x15))), (sp (TB.sv x16)), (sp (TB.sv x16)), (sp (SRel.when (x16 = true) ((TP (TF .f32)).sv (nth x0 2)))), (sp (SRel.when (x16 = true) ((TF .f32).sv (nth x0 2)))), (sp (SRel.when (x16 = true) ((TP (TF .f32)).sv (nth x1 2)))), (sp (SRel.when (x16 = true) ((TF .f32).sv (nth x1 2)))), (sp (SRel.when (x16 = true) (TB.sv x22))), (sp (TB.sv x23)), (sp (TB.sv x23))] (by kernel_rfl) (AOK.cons (fun ρ a w hs hz hΓ hp => gp (d_idxPc .i64 0 u52 y45 (hΓ 2 rfl) rfl)) (AOK.cons (fun ρ a w hs hz hΓ hp => gp (d_load y45 hs.le (hp 0 _ rfl rfl).1)) (AOK.cons (fun ρ a w hs hz hΓ hp => gp (d_idxPc .i64 0 u52 y45 (hΓ 3 rfl) rfl)) (AOK.cons (fun ρ a w hs hz hΓ hp => gp (d_load y45 hs.le (hp 2 _ rfl rfl).1)) (AOK.cons (fun ρ a w hs hz hΓ hp => gp (d_call fn105 hs.le mapA2 (c105 w _ _ hs.le e3 ((hp 1 _ rfl rfl).1) ((hp 3 _ rfl rfl).1)))) (AOK.cons (fun ρ a w hs hz hΓ hp => gp (d_move (hp 4 _ rfl rfl).1)) (AOK.cons (fun ρ a w hs hz hΓ hp => gg (g := 5) (d := 10) hz rfl (hp 5 _ rfl rfl).1 rfl (fun hc => d_idxPc .i64 1 u52 y45 (hΓ 2 rfl) rfl)) (AOK.cons (fun ρ a w hs hz hΓ hp => gg (g := 5) (d := 10) hz rfl (hp 5 _ rfl rfl).1 rfl (fun hc => d_load y45 hs.le ((hp 6 _ rfl rfl).1 hc))) (AOK.cons (fun ρ a w hs hz hΓ hp => gg (g := 5) (d := 10) hz rfl (hp 5 _ rfl rfl).1 rfl (fun hc => d_idxPc .i64 1 u52 y45 (hΓ 3 rfl) rfl)) (AOK.cons (fun ρ a w hs hz hΓ hp => gg (g := 5) (d := 10) hz rfl (hp 5 _ rfl rfl).1 rfl (fun hc => d_load y45 hs.le ((hp 8 _ rfl rfl).1 hc))) (AOK.cons (fun ρ a w hs hz hΓ hp => gg (g := 5) (d := 10) hz rfl (hp 5 _ rfl rfl).1 rfl (fun hc => d_call fn105 hs.le mapA2 (c105 w _ _ hs.le (e6 hc).1 ((hp 7 _ rfl rfl).1 hc) ((hp 9 _ rfl rfl).1 hc)))) (AOK.cons (fun ρ a w hs hz hΓ hp => gp (d_pick (hp 5 _ rfl rfl).1 (fun hc => (pE ((e6 hc).2) ((hp 10 _ rfl rfl).1 hc))) (fun hc => pC (e7 hc)))) (AOK.cons (fun ρ a w hs hz hΓ hp => gp (d_move (hp 11 _ rfl rfl).1)) (AOK.cons (fun ρ a w hs hz hΓ hp => gg (g := 12) (d := 17) hz rfl (hp 12 _ rfl rfl).1 rfl (fun hc => d_idxPc .i64 2 u52 y45 (hΓ 2 rfl) rfl)) (AOK.cons (fun ρ a w hs hz hΓ hp => gg (g := 12) (d := 17) hz rfl (hp 12 _ rfl rfl).1 rfl (fun hc => d_load y45 hs.le ((hp 13 _ rfl rfl).1 hc))) (AOK.cons (fun ρ a w hs hz hΓ hp => gg (g := 12) (d := 17) hz rfl (hp 12 _ rfl rfl).1 rfl (fun hc => d_idxPc .i64 2 u52 y45 (hΓ 3 rfl) rfl)) (AOK.cons (fun ρ a w hs hz hΓ hp => gg (g := 12) (d := 17) hz rfl (hp 12 _ rfl rfl).1 rfl (fun hc => d_load y45 hs.le ((hp 15 _ rfl rfl).1 hc))) (AOK.cons (fun ρ a w hs hz hΓ hp => gg (g := 12) (d := 17) hz rfl (hp 12 _ rfl rfl).1 rfl (fun hc => d_call fn105 hs.le mapA2 (c105 w _ _ hs.le (e10 hc).1 ((hp 14 _ rfl rfl).1 hc) ((hp 16 _ rfl rfl).1 hc)))) (AOK.cons (fun ρ a w hs hz hΓ hp => gp (d_pick (hp 12 _ rfl rfl).1 (fun hc => (pE ((e10 hc).2) ((hp 17 _ rfl rfl).1 hc))) (fun hc => pC (e11 hc)))) (AOK.cons (fun ρ a w hs hz hΓ hp => gp (d_assign (hp 18 _ rfl rfl).1)) AOK.nil rfl) rfl) rfl) rfl) rfl) rfl) rfl) rfl) rfl) rfl) rfl) rfl) rfl) rfl) rfl) rfl) rfl) rfl) rfl) rfl) (fun vs2 => ?_)
  refine T.nil ?_
  refine T.norm ?_
  refine T.ret ?_
  obtain rfl := Option.some.inj hF
  refine T.fin0 fun ρ a w st => ?_
  exact ⟨_, results_one rfl rfl, (st.env 4)⟩

theorem c68 (w : World) (v0 v1 : Value) {σ : Heap} (hσ : σ.le (snap w)) {x0 : (Int × (List Nat) × Int × Int × Nat × (List Int))} {x1 : (Int × (List Nat) × Int × Int × Nat × (List Int))} {r : Bool} (hF : spec_l07SameClaim x0 x1 = some r) (h0 : (TP Y48).val σ v0 x0) (h1 : (TP Y48).val σ v1 x1) :
    Calls Try.prog 68 #[v0, v1] w (Ret [] w σ (TB.sv r) []) := by
  unfold spec_l07SameClaim at hF
  refine start (args := [v0, v1]) Try.func68 rfl 98 rfl [] [(0, ((TP Y48).sv x0)), (1, ((TP Y48).sv x1))] [] (sat_start _ hσ) rfl (args1 rfl h0 (args1 rfl h1 (args0))) ?_
  refine T.seq ?_
  refine T.region mix 1 [4] [0] [(sp (TB.sv false))] (by kernel_rfl) (AOK.cons (fun ρ a w hs hz hΓ hp => gp (d_assign (vB _))) AOK.nil rfl) (fun vs1 => ?_)
  refine T.nil ?_
  refine T.norm ?_
  refine T.seq ?_
  refine T.seq ?_
  obtain ⟨x26, e4, hF⟩ := bindS hF
  obtain ⟨x24, e5⟩ : ∃ (x24 : Bool), (decide (x0.1 ≠ x1.1)) = false → spec_l01SamePoint x0.2.1 x1.2.1 = some x24 ∧ (!x24) = x26 := by
    by_cases hb : (decide (x0.1 ≠ x1.1)) = false
    · replace e4 := iteF e4 hb
      obtain ⟨x24, e3, e4⟩ := bindS e4
      exact ⟨x24, fun _ => ⟨e3, Option.some.inj e4⟩⟩
    · exact ⟨default, fun h => absurd h hb⟩
  have e6 : (decide (x0.1 ≠ x1.1)) = true → true = x26 := fun h => Option.some.inj (iteT e4 h)
  obtain ⟨x60, e8, hF⟩ := bindS hF
  obtain ⟨x58, e9⟩ : ∃ (x58 : Bool), ((x26 || (decide (x0.2.2.1 ≠ x1.2.2.1))) || (decide (x0.2.2.2.1 ≠ x1.2.2.2.1))) = false → spec_l01Same x0.2.2.2.2.1 x1.2.2.2.2.1 = some x58 ∧ (!x58) = x60 := by
    by_cases hb : ((x26 || (decide (x0.2.2.1 ≠ x1.2.2.1))) || (decide (x0.2.2.2.1 ≠ x1.2.2.2.1))) = false
    · replace e8 := iteF e8 hb
      obtain ⟨x58, e7, e8⟩ := bindS e8
      exact ⟨x58, fun _ => ⟨e7, Option.some.inj e8⟩⟩
    · exact ⟨default, fun h => absurd h hb⟩
  have e10 : ((x26 || (decide (x0.2.2.1 ≠ x1.2.2.1))) || (decide (x0.2.2.2.1 ≠ x1.2.2.2.1))) = true → true = x60 := fun h => Option.some.inj (iteT e8 h)
  refine T.region mix 68 [6, 7, 8, 9, 10, 11, 12, 13, 14, 15, 16, 17, 18, 19, 20, 21, 22, 23, 24, 25, 26, 27, 28, 29, 30, 31, 32, 33, 34, 35, 36, 37, 38, 39, 40, 41, 42, 43, 44, 45, 46, 47, 48, 49, 50, 51, 52, 53, 54, 55, 56, 57, 58, 59, 60, 61, 62, 63, 64, 65, 66, 67, 68, 69, 70, 71, 72, 73] [0, 1, 3, 7, 0, 16, 48, 112, 255, 511, 1023, 2047, 4095, 8191, 1023, 17407, 50175, 115711, 262143, 524287, 1048575, 2097151, 4194303, 8388607, 16777215, 33554431, 4194303, 71303167, 205520895, 473956351, 1073741823, 2147483647, 4294967295, 8589934591, 17179869183, 34359738367, 68719476735, 8589934591, 146028888063, 420906795007, 970662608895, 2199023255551, 4398046511103, 8796093022207, 17592186044415, 35184372088831, 70368744177663, 140737488355327, 17592186044415, 299067162755071, 862017116176383, 1987917023019007, 4503599627370495, 9007199254740991, 18014398509481983, 36028797018963967, 72057594037927935, 144115188075855871, 288230376151711743, 576460752303423487, 1152921504606846975, 72057594037927935, 2377900603251621887, 6989586621679009791, 16212958658533785599, 34659702732243337215, 73786976294838206463, 147573952589676412927] [(sp ((TP Y48).sv x0)), (sp ((TP Y48).sv x0)), (sp ((TP (TI .i8)).sv x0.1)), (sp ((TI .i8).sv x0.1)), (sp ((TP Y48).sv x1)), (sp ((TP Y48).sv x1)), (sp ((TP (TI .i8)).sv x1.1)), (sp ((TI .i8).sv x1.1)), (sp (TB.sv (decide (x0.1 ≠ x1.1)))), (sp (TB.sv (decide (x0.1 ≠ x1.1)))), (sp (SRel.when ((decide (x0.1 ≠ x1.1)) = false) ((TP Y48).sv x0))), (sp (SRel.when ((decide (x0.1 ≠ x1.1)) = false) ((TP Y48).sv x0))), (sp (SRel.when ((decide (x0.1 ≠ x1.1)) = false) ((TP Y46).sv x0.2.1))), (sp (SRel.when ((decide (x0.1 ≠ x1.1)) = false) (Y46.sv x0.2.1))), (sp (SRel.when ((decide (x0.1 ≠ x1.1)) = false) ((TP Y48).sv x1))), (sp (SRel.when ((decide (x0.1 ≠ x1.1)) = false) ((TP Y48).sv x1))), (sp (SRel.when ((decide (x0.1 ≠ x1.1)) = false) ((TP Y46).sv x1.2.1))), (sp (SRel.when ((decide (x0.1 ≠ x1.1)) = false) (Y46.sv x1.2.1))), (sp (SRel.when ((decide (x0.1 ≠ x1.1)) = false) (TB.sv x24))), (sp (SRel.when ((decide (x0.1 ≠ x1.1)) = false) (TB.sv (!x24)))), (sp (TB.sv x26)), (sp (TB.sv x26)), (sp (SRel.when (x26 = false) ((TP Y48).sv x0))), (sp (SRel.when (x26 = false) ((TP Y48).sv x0))), (sp (SRel.when (x26 = false) ((TP (TI .i64)).sv x0.2.2.1))), (sp (SRel.when (x26 = false) ((TI .i64).sv x0.2.2.1))), (sp (SRel.when (x26 = false) ((TP Y48).sv x1))), (sp (SRel.when (x26 = false) ((TP Y48).sv x1))), (sp (SRel.when (x26 = false) ((TP (TI .i64)).sv x1.2.2.1))), (sp (SRel.when (x26 = false) ((TI .i64).sv x1.2.2.1))), (sp (SRel.when (x26 = false) (TB.sv (decide (x0.2.2.1 ≠ x1.2.2.1))))), (sp (TB.sv (x26 || (decide (x0.2.2.1 ≠ x1.2.2.1))))), (sp (TB.sv (x26 || (decide (x0.2.2.1 ≠ x1.2.2.1))))), (sp (SRel.when ((x26 || (decide (x0.2.2.1 ≠ x1.2.2.1))) = false) ((TP Y48).sv x0))), (sp (SRel.when ((x26 || (decide (x0.2.2.1 ≠ x1.2.2.1))) = false) ((TP Y48).sv x0))), (sp (SRel.when ((x26 || (decide (x0.2.2.1 ≠ x1.2.2.1))) = false) ((TP (TI .i64)).sv x0.2.2.2.1))), (sp (SRel.when ((x26 || (decide (x0.2.2.1 ≠ x1.2.2.1))) = false) ((TI .i64).sv x0.2.2.2.1))), (sp (SRel.when ((x26 || (decide (x0.2.2.1 ≠ x1.2.2.1))) = false) ((TP Y48).sv x1))), (sp (SRel.when ((x26 || (decide (x0.2.2.1 ≠ x1.2.2.1))) = false) ((TP Y48).sv x1))), (sp (SRel.when ((x26 || (decide (x0.2.2.1 ≠ x1.2.2.1))) = false) ((TP (TI .i64)).sv x1.2.2.2.1))), (sp (SRel.when ((x26 || (decide (x0.2.2.1 ≠ x1.2.2.1))) = false) ((TI .i64).sv x1.2.2.2.1))), (sp (SRel.when ((x26 || (decide (x0.2.2.1 ≠ x1.2.2.1))) = false) (TB.sv (decide (x0.2.2.2.1 ≠ x1.2.2.2.1))))), (sp (TB.sv ((x26 || (decide (x0.2.2.1 ≠ x1.2.2.1))) || (decide (x0.2.2.2.1 ≠ x1.2.2.2.1))))), (sp (TB.sv ((x26 || (decide (x0.2.2.1 ≠ x1.2.2.1))) || (decide (x0.2.2.2.1 ≠ x1.2.2.2.1))))), (sp (SRel.when (((x26 || (decide (x0.2.2.1 ≠ x1.2.2.1))) || (decide (x0.2.2.2.1 ≠ x1.2.2.2.1))) = false) ((TP Y48).sv x0))), (sp (SRel.when (((x26 || (decide (x0.2.2.1 ≠ x1.2.2.1))) || (decide (x0.2.2.2.1 ≠ x1.2.2.2.1))) = false) ((TP Y48).sv x0))), (sp (SRel.when (((x26 || (decide (x0.2.2.1 ≠ x1.2.2.1))) || (decide (x0.2.2.2.1 ≠ x1.2.2.2.1))) = false) ((TP (TF .f32)).sv x0.2.2.2.2.1))), (sp (SRel.when (((x26 || (decide (x0.2.2.1 ≠ x1.2.2.1))) || (decide (x0.2.2.2.1 ≠ x1.2.2.2.1))) = false) ((TF .f32).sv x0.2.2.2.2.1))), (sp (SRel.when (((x26 || (decide (x0.2.2.1 ≠ x1.2.2.1))) || (decide (x0.2.2.2.1 ≠ x1.2.2.2.1))) = false) ((TP Y48).sv x1))), (sp (SRel.when (((x26 || (decide (x0.2.2.1 ≠ x1.2.2.1))) || (decide (x0.2.2.2.1 ≠ x1.2.2.2.1))) = false) ((TP Y48).sv x1))), (sp (SRel.when (((x26 || (decide (x0.2.2.1 ≠ x1.2.2.1))) || (decide (x0.2.2.2.1 ≠ x1.2.2.2.1))) = false) ((TP (TF .f32)).sv x1.2.2.2.2.1))), (sp (SRel.when (((x26 || (decide (x0.2.2.1 ≠ x1.2.2.1))) || (decide (x0.2.2.2.1 ≠ x1.2.2.2.1))) = false) ((TF .f32).sv x1.2.2.2.2.1))), (sp (SRel.when (((x26 || (decide (x0.2.2.1 ≠ x1.2.2.1))) || (decide (x0.2.2.2.1 ≠ x1.2.2.2.1))) = false) (TB.sv x58))), (sp (SRel.when (((x26 || (decide (x0.2.2.1 ≠ x1.2.2.1))) || (decide (x0.2.2.2.1 ≠ x1.2.2.2.1))) = false) (TB.sv (!x58)))), (sp (TB.sv x60)), (sp (TB.sv x60)), (sp (SRel.when (x60 = false) ((TP Y48).sv x0))), (sp (SRel.when (x60 = false) ((TP Y48).sv x0))), (sp (SRel.when (x60 = false) ((TP Y47).sv x0.2.2.2.2.2))), (sp (SRel.when (x60 = false) (Y47.sv x0.2.2.2.2.2))), (sp (SRel.when (x60 = false) ((TI .i64).sv (x0.2.2.2.2.2.length : Int)))), (sp (SRel.when (x60 = false) ((TP Y48).sv x1))), (sp (SRel.when (x60 = false) ((TP Y48).sv x1))), (sp (SRel.when (x60 = false) ((TP Y47).sv x1.2.2.2.2.2))), (sp (SRel.when (x60 = false) (Y47.sv x1.2.2.2.2.2))), (sp (SRel.when (x60 = false) ((TI .i64).sv (x1.2.2.2.2.2.length : Int)))), (sp (SRel.when (x60 = false) (TB.sv (decide ((x0.2.2.2.2.2.length : Int) ≠ (x1.2.2.2.2.2.length : Int)))))), (sp (TB.sv (x60 || (decide ((x0.2.2.2.2.2.length : Int) ≠ (x1.2.2.2.2.2.length : Int))))))] (by kernel_rfl) (AOK.cons (fun ρ a w hs hz hΓ hp => gp (d_move (hΓ 0 rfl))) (AOK.cons (fun ρ a w hs hz hΓ hp => gp (d_nilCheckP (hp 0 _ rfl rfl).1)) (AOK.cons (fun ρ a w hs hz hΓ hp => gp (d_fieldP fa54_0 (hp 1 _ rfl rfl).1 (At.fst (At.refl _ _)))) (AOK.cons (fun ρ a w hs hz hΓ hp => gp (d_load y34 hs.le (hp 2 _ rfl rfl).1)) (AOK.cons (fun ρ a w hs hz hΓ hp => gp (d_move (hΓ 1 rfl))) (AOK.cons (fun ρ a w hs hz hΓ hp => gp (d_nilCheckP (hp 4 _ rfl rfl).1)) (AOK.cons (fun ρ a w hs hz hΓ hp => gp (d_fieldP fa54_0 (hp 5 _ rfl rfl).1 (At.fst (At.refl _ _)))) (AOK.cons (fun ρ a w hs hz hΓ hp => gp (d_load y34 hs.le (hp 6 _ rfl rfl).1)) (AOK.cons (fun ρ a w hs hz hΓ hp => gp (d_neq (hp 3 _ rfl rfl).1 (hp 7 _ rfl rfl).1)) (AOK.cons (fun ρ a w hs hz hΓ hp => gp (d_move (hp 8 _ rfl rfl).1)) (AOK.cons (fun ρ a w hs hz hΓ hp => gg (g := 9) (d := 15) hz rfl (hp 9 _ rfl rfl).1 rfl (fun hc => d_move (hΓ 0 rfl))) (AOK.cons (fun ρ a w hs hz hΓ hp => gg (g := 9) (d := 15) hz rfl (hp 9 _ rfl rfl).1 rfl (fun hc => d_nilCheckP ((hp 10 _ rfl rfl).1 hc))) (AOK.cons (fun ρ a w hs hz hΓ hp => gg (g := 9) (d := 15) hz rfl (hp 9 _ rfl rfl).1 rfl (fun hc => d_fieldP fa54_1 ((hp 11 _ rfl rfl).1 hc) (At.fst (At.snd (At.refl _ _))))) (AOK.cons (fun ρ a w hs hz hΓ hp => gg (g := 9) (d := 15) hz rfl (hp 9 _ rfl rfl).1 rfl (fun hc => d_load y52 hs.le ((hp 12 _ rfl rfl).1 hc))) (AOK.cons (fun ρ a w hs hz hΓ hp => gg (g := 9) (d := 15) hz rfl (hp 9 _ rfl rfl).1 rfl (fun hc => d_move (hΓ 1 rfl))) (AOK.cons (fun ρ a w hs hz hΓ hp => gg (g := 9) (d := 15) hz rfl (hp 9 _ rfl rfl).1 rfl (fun hc => d_nilCheckP ((hp 14 _ rfl rfl).1 hc))) (AOK.cons (fun ρ a w hs hz hΓ hp => gg (g := 9) (d := 15) hz rfl (hp 9 _ rfl rfl).1 rfl (fun hc => d_fieldP fa54_1 ((hp 15 _ rfl rfl).1 hc) (At.fst (At.snd (At.refl _ _))))) (AOK.cons (fun ρ a w hs hz hΓ hp => gg (g := 9) (d := 15) hz rfl (hp 9 _ rfl rfl).1 rfl (fun hc => d_load y52 hs.le ((hp 16 _ rfl rfl).1 hc))) (AOK.cons (fun ρ a w hs hz hΓ hp => gg (g := 9) (d := 15) hz rfl (hp 9 _ rfl rfl).1 rfl (fun hc => d_call fn104 hs.le mapA2 (c104 w _ _ hs.le (e5 hc).1 ((hp 13 _ rfl rfl).1 hc) ((hp 17 _ rfl rfl).1 hc)))) (AOK.cons (fun ρ a w hs hz hΓ hp => gg (g := 9) (d := 15) hz rfl (hp 9 _ rfl rfl).1 rfl (fun hc => d_not ((hp 18 _ rfl rfl).1 hc))) (AOK.cons (fun ρ a w hs hz hΓ hp => gp (d_pick (hp 9 _ rfl rfl).1 (fun hc => pC (e6 hc)) (fun hc => (pE ((e5 hc).2) ((hp 19 _ rfl rfl).1 hc))))) (AOK.cons (fun ρ a w hs hz hΓ hp => gp (d_move (hp 20 _ rfl rfl).1)) (AOK.cons (fun ρ a w hs hz hΓ hp => gg (g := 21) (d := 27) hz rfl (hp 21 _ rfl rfl).1 rfl (fun hc => d_move (hΓ 0 rfl))) (AOK.cons (fun ρ a w hs hz hΓ hp => gg (g := 21) (d := 27) hz rfl (hp 21 _ rfl rfl).1 rfl (fun hc => d_nilCheckP ((hp 22 _ rfl rfl).1 hc))) (AOK.cons (fun ρ a w hs hz hΓ hp => gg (g := 21) (d := 27) hz rfl (hp 21 _ rfl rfl).1 rfl (fun hc => d_fieldP fa54_2 ((hp 23 _ rfl rfl).1 hc) (At.fst (At.snd (At.snd (At.refl _ _)))))) (AOK.cons (fun ρ a w hs hz hΓ hp => gg (g := 21) (d := 27) hz rfl (hp 21 _ rfl rfl).1 rfl (fun hc => d_load y2 hs.le ((hp 24 _ rfl rfl).1 hc))) (AOK.cons (fun ρ a w hs hz hΓ hp => gg (g := 21) (d := 27) hz rfl (hp 21 _ rfl rfl).1 rfl (fun hc => d_move (hΓ 1 rfl))) (AOK.cons (fun ρ a w hs hz hΓ hp => gg (g := 21) (d := 27) hz rfl (hp 21 _ rfl rfl).1 rfl (fun hc => d_nilCheckP ((hp 26 _ rfl rfl).1 hc))) (AOK.cons (fun ρ a w hs hz hΓ hp => gg (g := 21) (d := 27) hz rfl (hp 21 _ rfl rfl).1 rfl (fun hc => d_fieldP fa54_2 ((hp 27 _ rfl rfl).1 hc) (At.fst (At.snd (At.snd (At.refl _ _)))))) (AOK.cons (fun ρ a w hs hz hΓ hp => gg (g := 21) (d := 27) hz rfl (hp 21 _ rfl rfl).1 rfl (fun hc => d_load y2 hs.le ((hp 28 _ rfl rfl).1 hc))) (AOK.cons (fun ρ a w hs hz hΓ hp => gg (g := 21) (d := 27) hz rfl (hp 21 _ rfl rfl).1 rfl (fun hc => d_neq ((hp 25 _ rfl rfl).1 hc) ((hp 29 _ rfl rfl).1 hc))) (AOK.cons (fun ρ a w hs hz hΓ hp => gp (d_pick (hp 21 _ rfl rfl).1 (fun hc => pON hc) (fun hc => pO hc ((hp 30 _ rfl rfl).1 hc)))) (AOK.cons (fun ρ a w hs hz hΓ hp => gp (d_move (hp 31 _ rfl rfl).1)) (AOK.cons (fun ρ a w hs hz hΓ hp => gg (g := 32) (d := 38) hz rfl (hp 32 _ rfl rfl).1 rfl (fun hc => d_move (hΓ 0 rfl))) (AOK.cons (fun ρ a w hs hz hΓ hp => gg (g := 32) (d := 38) hz rfl (hp 32 _ rfl rfl).1 rfl (fun hc => d_nilCheckP ((hp 33 _ rfl rfl).1 hc))) (AOK.cons (fun ρ a w hs hz hΓ hp => gg (g := 32) (d := 38) hz rfl (hp 32 _ rfl rfl).1 rfl (fun hc => d_fieldP fa54_3 ((hp 34 _ rfl rfl).1 hc) (At.fst (At.snd (At.snd (At.snd (At.refl _ _))))))) (AOK.cons (fun ρ a w hs hz hΓ hp => gg (g := 32) (d := 38) hz rfl (hp 32 _ rfl rfl).1 rfl (fun hc => d_load y2 hs.le ((hp 35 _ rfl rfl).1 hc))) (AOK.cons (fun ρ a w hs hz hΓ hp => gg (g := 32) (d := 38) hz rfl (hp 32 _ rfl rfl).1 rfl (fun hc => d_move (hΓ 1 rfl))) (AOK.cons (fun ρ a w hs hz hΓ hp => gg (g := 32) (d := 38) hz rfl (hp 32 _ rfl rfl).1 rfl (fun hc => d_nilCheckP ((hp 37 _ rfl rfl).1 hc))) (AOK.cons (fun ρ a w hs hz hΓ hp => gg (g := 32) (d := 38) hz rfl (hp 32 _ rfl rfl).1 rfl (fun hc => d_fieldP fa54_3 ((hp 38 _ rfl rfl).1 hc) (At.fst (At.snd (At.snd (At.snd (At.refl _ _))))))) (AOK.cons (fun ρ a w hs hz hΓ hp => gg (g := 32) (d := 38) hz rfl (hp 32 _ rfl rfl).1 rfl (fun hc => d_load y2 hs.le ((hp 39 _ rfl rfl).1 hc))) (AOK.cons (fun ρ a w hs hz hΓ hp => gg (g := 32) (d := 38) hz rfl (hp 32 _ rfl rfl).1 rfl (fun hc => d_neq ((hp 36 _ rfl rfl).1 hc) ((hp 40 _ rfl rfl).1 hc))) (AOK.cons (fun ρ a w hs hz hΓ hp => gp (d_pick (hp 32 _ rfl rfl).1 (fun hc => pON hc) (fun hc => pO hc ((hp 41 _ rfl rfl).1 hc)))) (AOK.cons (fun ρ a w hs hz hΓ hp => gp (d_move (hp 42 _ rfl rfl).1)) (AOK.cons (fun ρ a w hs hz hΓ hp => gg (g := 43) (d := 49) hz rfl (hp 43 _ rfl rfl).1 rfl (fun hc => d_move (hΓ 0 rfl))) (AOK.cons (fun ρ a w hs hz hΓ hp => gg (g := 43) (d := 49) hz rfl (hp 43 _ rfl rfl).1 rfl (fun hc => d_nilCheckP ((hp 44 _ rfl rfl).1 hc))) (AOK.cons (fun ρ a w hs hz hΓ hp => gg (g := 43) (d := 49) hz rfl (hp 43 _ rfl rfl).1 rfl (fun hc => d_fieldP fa54_4 ((hp 45 _ rfl rfl).1 hc) (At.fst (At.snd (At.snd (At.snd (At.snd (At.refl _ _)))))))) (AOK.cons (fun ρ a w hs hz hΓ hp => gg (g := 43) (d := 49) hz rfl (hp 43 _ rfl rfl).1 rfl (fun hc => d_load y45 hs.le ((hp 46 _ rfl rfl).1 hc))) (AOK.cons (fun ρ a w hs hz hΓ hp => gg (g := 43) (d := 49) hz rfl (hp 43 _ rfl rfl).1 rfl (fun hc => d_move (hΓ 1 rfl))) (AOK.cons (fun ρ a w hs hz hΓ hp => gg (g := 43) (d := 49) hz rfl (hp 43 _ rfl rfl).1 rfl (fun hc => d_nilCheckP ((hp 48 _ rfl rfl).1 hc))) (AOK.cons (fun ρ a w hs hz hΓ hp => gg (g := 43) (d := 49) hz rfl (hp 43 _ rfl rfl).1 rfl (fun hc => d_fieldP fa54_4 ((hp 49 _ rfl rfl).1 hc) (At.fst (At.snd (At.snd (At.snd (At.snd (At.refl _ _)))))))) (AOK.cons (fun ρ a w hs hz hΓ hp => gg (g := 43) (d := 49) hz rfl (hp 43 _ rfl rfl).1 rfl (fun hc => d_load y45 hs.le ((hp 50 _ rfl rfl).1 hc))) (AOK.cons (fun ρ a w hs hz hΓ hp => gg (g := 43) (d := 49) hz rfl (hp 43 _ rfl rfl).1 rfl (fun hc => d_call fn105 hs.le mapA2 (c105 w _ _ hs.le (e9 hc).1 ((hp 47 _ rfl rfl).1 hc) ((hp 51 _ rfl rfl).1 hc)))) (AOK.cons (fun ρ a w hs hz hΓ hp => gg (g := 43) (d := 49) hz rfl (hp 43 _ rfl rfl).1 rfl (fun hc => d_not ((hp 52 _ rfl rfl).1 hc))) (AOK.cons (fun ρ a w hs hz hΓ hp => gp (d_pick (hp 43 _ rfl rfl).1 (fun hc => pC (e10 hc)) (fun hc => (pE ((e9 hc).2) ((hp 53 _ rfl rfl).1 hc))))) (AOK.cons (fun ρ a w hs hz hΓ hp => gp (d_move (hp 54 _ rfl rfl).1)) (AOK.cons (fun ρ a w hs hz hΓ hp => gg (g := 55) (d := 61) hz rfl (hp 55 _ rfl rfl).1 rfl (fun hc => d_move (hΓ 0 rfl))) (AOK.cons (fun ρ a w hs hz hΓ hp => gg (g := 55) (d := 61) hz rfl (hp 55 _ rfl rfl).1 rfl (fun hc => d_nilCheckP ((hp 56 _ rfl rfl).1 hc))) (AOK.cons (fun ρ a w hs hz hΓ hp => gg (g := 55) (d := 61) hz rfl (hp 55 _ rfl rfl).1 rfl (fun hc => d_fieldP fa54_5 ((hp 57 _ rfl rfl).1 hc) (At.snd (At.snd (At.snd (At.snd (At.snd (At.refl _ _)))))))) (AOK.cons (fun ρ a w hs hz hΓ hp => gg (g := 55) (d := 61) hz rfl (hp 55 _ rfl rfl).1 rfl (fun hc => d_load y47 hs.le ((hp 58 _ rfl rfl).1 hc))) (AOK.cons (fun ρ a w hs hz hΓ hp => gg (g := 55) (d := 61) hz rfl (hp 55 _ rfl rfl).1 rfl (fun hc => d_lenR u47 ((hp 59 _ rfl rfl).1 hc))) (AOK.cons (fun ρ a w hs hz hΓ hp => gg (g := 55) (d := 61) hz rfl (hp 55 _ rfl rfl).1 rfl (fun hc => d_move (hΓ 1 rfl))) (AOK.cons (fun ρ a w hs hz hΓ hp => gg (g := 55) (d := 61) hz rfl (hp 55 _ rfl rfl).1 rfl (fun hc => d_nilCheckP ((hp 61 _ rfl rfl).1 hc))) (AOK.cons (fun ρ a w hs hz hΓ hp => gg (g := 55) (d := 61) hz rfl (hp 55 _ rfl rfl).1 rfl (fun hc => d_fieldP fa54_5 ((hp 62 _ rfl rfl).1 hc) (At.snd (At.snd (At.snd (At.snd (At.snd (At.refl _ _)))))))) (AOK.cons (fun ρ a w hs hz hΓ hp => gg (g := 55) (d := 61) hz rfl (hp 55 _ rfl rfl).1 rfl (fun hc => d_load y47 hs.le ((hp 63 _ rfl rfl).1 hc))) (AOK.cons (fun ρ a w hs hz hΓ hp => gg (g := 55) (d := 61) hz rfl (hp 55 _ rfl rfl).1 rfl (fun hc => d_lenR u47 ((hp 64 _ rfl rfl).1 hc))) (AOK.cons (fun ρ a w hs hz hΓ hp => gg (g := 55) (d := 61) hz rfl (hp 55 _ rfl rfl).1 rfl (fun hc => d_neq ((hp 60 _ rfl rfl).1 hc) ((hp 65 _ rfl rfl).1 hc))) (AOK.cons (fun ρ a w hs hz hΓ hp => gp (d_pick (hp 55 _ rfl rfl).1 (fun hc => pON hc) (fun hc => pO hc ((hp 66 _ rfl rfl).1 hc)))) AOK.nil rfl) rfl) rfl) rfl) rfl) rfl) rfl) rfl) rfl) rfl) rfl) rfl) rfl) rfl) rfl) rfl) rfl) rfl) rfl) rfl) rfl) rfl) rfl) rfl) rfl) rfl) rfl) rfl) rfl) rfl) rfl) rfl) rfl) rfl) rfl) rfl) rfl) rfl) rfl) rfl) rfl) rfl) rfl) rfl) rfl) rfl) rfl) rfl) rfl) rfl) rfl) rfl) rfl) rfl) rfl) rfl) rfl) rfl) rfl) rfl) rfl) rfl) rfl) rfl) rfl) rfl) rfl) rfl) (fun vs2 => ?_)
  refine T.nil ?_
  refine T.norm ?_
  refine T.cond (b := (x60 || (decide ((x0.2.2.2.2.2.length : Int) ≠ (x1.2.2.2.2.2.length : Int))))) (fun _ _ h => h) (fun hc => ?_) (fun hc => ?_)
  · replace hF := iteT hF hc
    refine T.seq ?_
    refine T.region mix 1 [4] [0] [(sp (TB.sv false))] (by kernel_rfl) (AOK.cons (fun ρ a w hs hz hΓ hp => gp (d_assign (vB _))) AOK.nil rfl) (fun vs11 => ?_)
    refine T.nil ?_
    refine T.norm ?_
    refine T.ret ?_
    obtain rfl := Option.some.inj hF
    refine T.fin0 fun ρ a w st => ?_
    exact ⟨_, results_one rfl rfl, (st.env 4)⟩
  · replace hF := iteF hF hc
    refine T.skip ?_
    refine T.norm ?_
    refine T.seq ?_
    refine T.seq ?_
    refine T.region mix 1 [5] [0] [(sp ((TI .i64).sv 0))] (by kernel_rfl) (AOK.cons (fun ρ a w hs hz hΓ hp => gp (d_assign (vI rfl))) AOK.nil rfl) (fun vs12 => ?_)
    refine T.nil ?_
    refine T.norm ?_
    obtain ⟨yl13, e14, hF⟩ := bindS hF
    refine T.joinD (ι := Int × (Unit)) (fun p => yl13 = .inl p.1) (Γ' := fun p => E []) (H' := fun p => HL []) (fun p hy => ?_) (fun hk => ?_)
    · obtain ⟨o5, _⟩ := p
      cases hy
      refine T.norm ?_
      refine T.seq ?_
      refine T.region mix 1 [4] [0] [(sp (TB.sv true))] (by kernel_rfl) (AOK.cons (fun ρ a w hs hz hΓ hp => gp (d_assign (vB _))) AOK.nil rfl) (fun vs15 => ?_)
      refine T.nil ?_
      refine T.norm ?_
      refine T.ret ?_
      obtain rfl := Option.some.inj hF
      refine T.fin0 fun ρ a w st => ?_
      exact ⟨_, results_one rfl rfl, (st.env 4)⟩
    · skip
      refine T.block ?_
      refine T.loop (f := spec_l07SameClaim_l1 x0 x1) (σ := Int) (Z := Unit) (fun s z => E [(0, ((TP Y48).sv x0)), (1, ((TP Y48).sv x1)), (5, ((TI .i64).sv s))]) (fun s z => HL []) e14 () (fun φ h => T.toh h ⟨fun _ _ h => h, fun _ _ h => h, fun _ _ h => h, trivial⟩ trivial) (fun k s z uu13 hu13 hn13 => ?_)
      obtain ⟨s5, rfl⟩ : ∃ q, q = s := ⟨_, rfl⟩
      dsimp only [spec_l07SameClaim_l1] at hu13
      refine T.seq ?_
      refine T.seq ?_
      refine T.region mix 7 [74, 75, 76, 77, 78, 79, 80] [0, 0, 2, 6, 14, 30, 63] [(sp ((TI .i64).sv s5)), (sp ((TP Y48).sv x0)), (sp ((TP Y48).sv x0)), (sp ((TP Y47).sv x0.2.2.2.2.2)), (sp (Y47.sv x0.2.2.2.2.2)), (sp ((TI .i64).sv (x0.2.2.2.2.2.length : Int))), (sp (TB.sv (decide (s5 < (x0.2.2.2.2.2.length : Int)))))] (by kernel_rfl) (AOK.cons (fun ρ a w hs hz hΓ hp => gp (d_move (hΓ 5 rfl))) (AOK.cons (fun ρ a w hs hz hΓ hp => gp (d_move (hΓ 0 rfl))) (AOK.cons (fun ρ a w hs hz hΓ hp => gp (d_nilCheckP (hp 1 _ rfl rfl).1)) (AOK.cons (fun ρ a w hs hz hΓ hp => gp (d_fieldP fa54_5 (hp 2 _ rfl rfl).1 (At.snd (At.snd (At.snd (At.snd (At.snd (At.refl _ _)))))))) (AOK.cons (fun ρ a w hs hz hΓ hp => gp (d_load y47 hs.le (hp 3 _ rfl rfl).1)) (AOK.cons (fun ρ a w hs hz hΓ hp => gp (d_lenR u47 (hp 4 _ rfl rfl).1)) (AOK.cons (fun ρ a w hs hz hΓ hp => gp (d_lss (hp 0 _ rfl rfl).1 (hp 5 _ rfl rfl).1)) AOK.nil rfl) rfl) rfl) rfl) rfl) rfl) rfl) (fun vs16 => ?_)
      refine T.nil ?_
      refine T.norm ?_
      refine T.cond (b := (decide (s5 < (x0.2.2.2.2.2.length : Int)))) (fun _ _ h => h) (fun hc => ?_) (fun hc => ?_)
      · replace hu13 := iteT hu13 hc
        refine T.skip ?_
        refine T.norm ?_
        refine T.seq ?_
        refine T.block ?_
        refine T.seq ?_
        obtain ⟨x88, e18, hu13⟩ := bindS hu13
        obtain ⟨x95, e19, hu13⟩ := bindS hu13
        refine T.region mix 15 [83, 84, 85, 86, 87, 88, 89, 90, 91, 92, 93, 94, 95, 96, 97] [0, 1, 3, 7, 0, 31, 63, 0, 128, 384, 896, 0, 3968, 8064, 16383] [(sp ((TP Y48).sv x0)), (sp ((TP Y48).sv x0)), (sp ((TP Y47).sv x0.2.2.2.2.2)), (sp (Y47.sv x0.2.2.2.2.2)), (sp ((TI .i64).sv s5)), (sp ((TP (TI .i16)).sv x88)), (sp ((TI .i16).sv x88)), (sp ((TP Y48).sv x1)), (sp ((TP Y48).sv x1)), (sp ((TP Y47).sv x1.2.2.2.2.2)), (sp (Y47.sv x1.2.2.2.2.2)), (sp ((TI .i64).sv s5)), (sp ((TP (TI .i16)).sv x95)), (sp ((TI .i16).sv x95)), (sp (TB.sv (decide (x88 ≠ x95))))] (by kernel_rfl) (AOK.cons (fun ρ a w hs hz hΓ hp => gp (d_move (hΓ 0 rfl))) (AOK.cons (fun ρ a w hs hz hΓ hp => gp (d_nilCheckP (hp 0 _ rfl rfl).1)) (AOK.cons (fun ρ a w hs hz hΓ hp => gp (d_fieldP fa54_5 (hp 1 _ rfl rfl).1 (At.snd (At.snd (At.snd (At.snd (At.snd (At.refl _ _)))))))) (AOK.cons (fun ρ a w hs hz hΓ hp => gp (d_load y47 hs.le (hp 2 _ rfl rfl).1)) (AOK.cons (fun ρ a w hs hz hΓ hp => gp (d_move (hΓ 5 rfl))) (AOK.cons (fun ρ a w hs hz hΓ hp => gp (d_idxR u47 y24 (hp 3 _ rfl rfl).1 (hp 4 _ rfl rfl).1 e18)) (AOK.cons (fun ρ a w hs hz hΓ hp => gp (d_load y24 hs.le (hp 5 _ rfl rfl).1)) (AOK.cons (fun ρ a w hs hz hΓ hp => gp (d_move (hΓ 1 rfl))) (AOK.cons (fun ρ a w hs hz hΓ hp => gp (d_nilCheckP (hp 7 _ rfl rfl).1)) (AOK.cons (fun ρ a w hs hz hΓ hp => gp (d_fieldP fa54_5 (hp 8 _ rfl rfl).1 (At.snd (At.snd (At.snd (At.snd (At.snd (At.refl _ _)))))))) (AOK.cons (fun ρ a w hs hz hΓ hp => gp (d_load y47 hs.le (hp 9 _ rfl rfl).1)) (AOK.cons (fun ρ a w hs hz hΓ hp => gp (d_move (hΓ 5 rfl))) (AOK.cons (fun ρ a w hs hz hΓ hp => gp (d_idxR u47 y24 (hp 10 _ rfl rfl).1 (hp 11 _ rfl rfl).1 e19)) (AOK.cons (fun ρ a w hs hz hΓ hp => gp (d_load y24 hs.le (hp 12 _ rfl rfl).1)) (AOK.cons (fun ρ a w hs hz hΓ hp => gp (d_neq (hp 6 _ rfl rfl).1 (hp 13 _ rfl rfl).1)) AOK.nil rfl) rfl) rfl) rfl) rfl) rfl) rfl) rfl) rfl) rfl) rfl) rfl) rfl) rfl) rfl) (fun vs17 => ?_)
        refine T.nil ?_
        refine T.norm ?_
        refine T.cond (b := (decide (x88 ≠ x95))) (fun _ _ h => h) (fun hc => ?_) (fun hc => ?_)
        · replace hu13 := iteT hu13 hc
          refine T.seq ?_
          refine T.region mix 1 [4] [0] [(sp (TB.sv false))] (by kernel_rfl) (AOK.cons (fun ρ a w hs hz hΓ hp => gp (d_assign (vB _))) AOK.nil rfl) (fun vs20 => ?_)
          refine T.nil ?_
          refine T.norm ?_
          refine T.ret ?_
          obtain rfl := Option.some.inj hu13
          cases hn13
          obtain rfl := Option.some.inj hF
          refine T.fin0 fun ρ a w st => ?_
          exact ⟨_, results_one rfl rfl, (st.env 4)⟩
        · replace hu13 := iteF hu13 hc
          refine T.skip ?_
          refine T.fallX ?_
          refine T.norm ?_
          refine T.region mix 3 [81, 82, 5] [0, 1, 3] [(sp ((TI .i64).sv s5)), (sp ((TI .i64).sv (IntKind.i64.wrap (s5 + 1)))), (sp ((TI .i64).sv (IntKind.i64.wrap (s5 + 1))))] (by kernel_rfl) (AOK.cons (fun ρ a w hs hz hΓ hp => gp (d_move (hΓ 5 rfl))) (AOK.cons (fun ρ a w hs hz hΓ hp => gp (d_add (hp 0 _ rfl rfl).1 (vI rfl))) (AOK.cons (fun ρ a w hs hz hΓ hp => gp (d_assign (hp 1 _ rfl rfl).1)) AOK.nil rfl) rfl) rfl) (fun vs21 => ?_)
          refine T.nil ?_
          obtain rfl := Option.some.inj hu13
          exact T.again hn13 () (fun φ h => T.toh h ⟨fun _ _ h => h, fun _ _ h => h, fun _ _ h => h, trivial⟩ trivial)
      · replace hu13 := iteF hu13 hc
        refine T.exit ?_
        obtain rfl := Option.some.inj hu13
        repeat (first | refine T.passX ?_ | refine T.inX (by decide) ?_)
        refine T.hereX ?_
        exact T.toh (hk (s5, ()) (Eq.symm hn13)) trivial trivial

theorem c29 (w : World) (v0 v1 : Value) {σ : Heap} (hσ : σ.le (snap w)) {x0 : (Int × (List Nat) × Int × Int × Nat × (List Int))} {x1 : (Int × (List Nat) × Int × Int × Nat × (List Int))} {r : Bool} (hF : spec_SameClaim x0 x1 = some r) (h0 : Y48.val σ v0 x0) (h1 : Y48.val σ v1 x1) :
    Calls Try.prog 29 #[v0, v1] w (Ret [] w σ (TB.sv r) []) := by
  unfold spec_SameClaim at hF
  refine start (args := [v0, v1]) Try.func29 rfl 6 rfl [] [(0, (Y48.sv x0)), (1, (Y48.sv x1))] [] (sat_start _ hσ) rfl (args1 rfl h0 (args1 rfl h1 (args0))) ?_
  refine T.seq ?_
  refine T.region mix 3 [2, 3, 4] [0, 0, 0] [(sp ((TP Y48).sv x0)), (sp ((TP Y48).sv x1)), (sp (TB.sv false))] (by kernel_rfl) (AOK.cons (fun ρ a w hs hz hΓ hp => gp (d_box hs.le (hΓ 0 rfl))) (AOK.cons (fun ρ a w hs hz hΓ hp => gp (d_box hs.le (hΓ 1 rfl))) (AOK.cons (fun ρ a w hs hz hΓ hp => gp (d_assign (vB _))) AOK.nil rfl) rfl) rfl) (fun vs1 => ?_)
  refine T.nil ?_
  refine T.norm ?_
  refine T.seq ?_
  obtain ⟨x5, e3, hF⟩ := bindS hF
  refine T.region mix 2 [5, 4] [0, 1] [(sp (TB.sv x5)), (sp (TB.sv x5))] (by kernel_rfl) (AOK.cons (fun ρ a w hs hz hΓ hp => gp (d_call fn68 hs.le mapA2 (c68 w _ _ hs.le e3 (hΓ 2 rfl) (hΓ 3 rfl)))) (AOK.cons (fun ρ a w hs hz hΓ hp => gp (d_assign (hp 0 _ rfl rfl).1)) AOK.nil rfl) rfl) (fun vs2 => ?_)
  refine T.nil ?_
  refine T.norm ?_
  refine T.ret ?_
  obtain rfl := Option.some.inj hF
  refine T.fin0 fun ρ a w st => ?_
  exact ⟨_, results_one rfl rfl, (st.env 4)⟩

theorem c72 (w : World) (v0 v1 : Value) {σ : Heap} (hσ : σ.le (snap w)) {x0 : Nat} {x1 : Nat} {r : Bool} (hF : impl_SameNumber x0 x1 = some r) (h0 : (TF .f32).val σ v0 x0) (h1 : (TF .f32).val σ v1 x1) :
    Calls Try.prog 72 #[v0, v1] w (Ret [] w σ (TB.sv r) []) := by
  unfold impl_SameNumber at hF
  refine start (args := [v0, v1]) Try.func72 rfl 26 rfl [] [(0, ((TF .f32).sv x0)), (1, ((TF .f32).sv x1))] [] (sat_start _ hσ) rfl (args1 rfl h0 (args1 rfl h1 (args0))) ?_
  refine T.seq ?_
  refine T.region mix 1 [4] [0] [(sp (TB.sv false))] (by kernel_rfl) (AOK.cons (fun ρ a w hs hz hΓ hp => gp (d_assign (vB _))) AOK.nil rfl) (fun vs1 => ?_)
  refine T.nil ?_
  refine T.norm ?_
  refine T.seq ?_
  refine T.seq ?_
  refine T.region mix 8 [5, 6, 7, 8, 9, 10, 11, 12] [0, 0, 3, 7, 15, 15, 63, 127] [(sp ((TF .f32).sv x0)), (sp ((TF .f32).sv x0)), (sp (TB.sv (fneq .f32 x0 x0))), (sp (TB.sv (fneq .f32 x0 x0))), (sp (SRel.when ((fneq .f32 x0 x0) = false) ((TF .f32).sv x1))), (sp (SRel.when ((fneq .f32 x0 x0) = false) ((TF .f32).sv x1))), (sp (SRel.when ((fneq .f32 x0 x0) = false) (TB.sv (fneq .f32 x1 x1)))), (sp (TB.sv ((fneq .f32 x0 x0) || (fneq .f32 x1 x1))))] (by kernel_rfl) (AOK.cons (fun ρ a w hs hz hΓ hp => gp (d_move (hΓ 0 rfl))) (AOK.cons (fun ρ a w hs hz hΓ hp => gp (d_move (hΓ 0 rfl))) (AOK.cons (fun ρ a w hs hz hΓ hp => gp (d_fneq (hp 0 _ rfl rfl).1 (hp 1 _ rfl rfl).1)) (AOK.cons (fun ρ a w hs hz hΓ hp => gp (d_move (hp 2 _ rfl rfl).1)) (AOK.cons (fun ρ a w hs hz hΓ hp => gg (g := 3) (d := 8) hz rfl (hp 3 _ rfl rfl).1 rfl (fun hc => d_move (hΓ 1 rfl))) (AOK.cons (fun ρ a w hs hz hΓ hp => gg (g := 3) (d := 8) hz rfl (hp 3 _ rfl rfl).1 rfl (fun hc => d_move (hΓ 1 rfl))) (AOK.cons (fun ρ a w hs hz hΓ hp => gg (g := 3) (d := 8) hz rfl (hp 3 _ rfl rfl).1 rfl (fun hc => d_fneq ((hp 4 _ rfl rfl).1 hc) ((hp 5 _ rfl rfl).1 hc))) (AOK.cons (fun ρ a w hs hz hΓ hp => gp (d_pick (hp 3 _ rfl rfl).1 (fun hc => pON hc) (fun hc => pO hc ((hp 6 _ rfl rfl).1 hc)))) AOK.nil rfl) rfl) rfl) rfl) rfl) rfl) rfl) rfl) (fun vs2 => ?_)
  refine T.nil ?_
  refine T.norm ?_
  refine T.cond (b := ((fneq .f32 x0 x0) || (fneq .f32 x1 x1))) (fun _ _ h => h) (fun hc => ?_) (fun hc => ?_)
  · replace hF := iteT hF hc
    refine T.seq ?_
    refine T.region mix 9 [13, 14, 15, 16, 17, 18, 19, 20, 4] [0, 0, 3, 7, 15, 15, 63, 127, 255] [(sp ((TF .f32).sv x0)), (sp ((TF .f32).sv x0)), (sp (TB.sv (fneq .f32 x0 x0))), (sp (TB.sv (fneq .f32 x0 x0))), (sp (SRel.when ((fneq .f32 x0 x0) = true) ((TF .f32).sv x1))), (sp (SRel.when ((fneq .f32 x0 x0) = true) ((TF .f32).sv x1))), (sp (SRel.when ((fneq .f32 x0 x0) = true) (TB.sv (fneq .f32 x1 x1)))), (sp (TB.sv ((fneq .f32 x0 x0) && (fneq .f32 x1 x1)))), (sp (TB.sv ((fneq .f32 x0 x0) && (fneq .f32 x1 x1))))] (by kernel_rfl) (AOK.cons (fun ρ a w hs hz hΓ hp => gp (d_move (hΓ 0 rfl))) (AOK.cons (fun ρ a w hs hz hΓ hp => gp (d_move (hΓ 0 rfl))) (AOK.cons (fun ρ a w hs hz hΓ hp => gp (d_fneq (hp 0 _ rfl rfl).1 (hp 1 _ rfl rfl).1)) (AOK.cons (fun ρ a w hs hz hΓ hp => gp (d_move (hp 2 _ rfl rfl).1)) (AOK.cons (fun ρ a w hs hz hΓ hp => gg (g := 3) (d := 16) hz rfl (hp 3 _ rfl rfl).1 rfl (fun hc => d_move (hΓ 1 rfl))) (AOK.cons (fun ρ a w hs hz hΓ hp => gg (g := 3) (d := 16) hz rfl (hp 3 _ rfl rfl).1 rfl (fun hc => d_move (hΓ 1 rfl))) (AOK.cons (fun ρ a w hs hz hΓ hp => gg (g := 3) (d := 16) hz rfl (hp 3 _ rfl rfl).1 rfl (fun hc => d_fneq ((hp 4 _ rfl rfl).1 hc) ((hp 5 _ rfl rfl).1 hc))) (AOK.cons (fun ρ a w hs hz hΓ hp => gp (d_pick (hp 3 _ rfl rfl).1 (fun hc => pA hc ((hp 6 _ rfl rfl).1 hc)) (fun hc => pAN hc))) (AOK.cons (fun ρ a w hs hz hΓ hp => gp (d_assign (hp 7 _ rfl rfl).1)) AOK.nil rfl) rfl) rfl) rfl) rfl) rfl) rfl) rfl) rfl) (fun vs3 => ?_)
    refine T.nil ?_
    refine T.norm ?_
    refine T.ret ?_
    obtain rfl := Option.some.inj hF
    refine T.fin0 fun ρ a w st => ?_
    exact ⟨_, results_one rfl rfl, (st.env 4)⟩
  · replace hF := iteF hF hc
    refine T.skip ?_
    refine T.norm ?_
    refine T.seq ?_
    obtain ⟨_u22, e5, hF⟩ := bindS hF
    obtain ⟨_u24, e6, hF⟩ := bindS hF
    refine T.region mix 6 [21, 22, 23, 24, 25, 4] [0, 1, 0, 7, 15, 31] [(sp ((TF .f32).sv x0)), (sp ((TI .u32).sv (x0 : Int))), (sp ((TF .f32).sv x1)), (sp ((TI .u32).sv (x1 : Int))), (sp (TB.sv (decide ((x0 : Int) = (x1 : Int))))), (sp (TB.sv (decide ((x0 : Int) = (x1 : Int)))))] (by kernel_rfl) (AOK.cons (fun ρ a w hs hz hΓ hp => gp (d_move (hΓ 0 rfl))) (AOK.cons (fun ρ a w hs hz hΓ hp => gp (d_bits32 ex106 (hp 0 _ rfl rfl).1 (need_get e5))) (AOK.cons (fun ρ a w hs hz hΓ hp => gp (d_move (hΓ 1 rfl))) (AOK.cons (fun ρ a w hs hz hΓ hp => gp (d_bits32 ex106 (hp 2 _ rfl rfl).1 (need_get e6))) (AOK.cons (fun ρ a w hs hz hΓ hp => gp (d_eql (hp 1 _ rfl rfl).1 (hp 3 _ rfl rfl).1)) (AOK.cons (fun ρ a w hs hz hΓ hp => gp (d_assign (hp 4 _ rfl rfl).1)) AOK.nil rfl) rfl) rfl) rfl) rfl) rfl) (fun vs4 => ?_)
    refine T.nil ?_
    refine T.norm ?_
    refine T.ret ?_
    obtain rfl := Option.some.inj hF
    refine T.fin0 fun ρ a w st => ?_
    exact ⟨_, results_one rfl rfl, (st.env 4)⟩

theorem c71 (w : World) (v0 v1 : Value) {σ : Heap} (hσ : σ.le (snap w)) {x0 : (List Nat)} {x1 : (List Nat)} {r : Bool} (hF : impl_SamePoint x0 x1 = some r) (h0 : Y46.val σ v0 x0) (h1 : Y46.val σ v1 x1) :
    Calls Try.prog 71 #[v0, v1] w (Ret [] w σ (TB.sv r) []) := by
  unfold impl_SamePoint at hF
  refine start (args := [v0, v1]) Try.func71 rfl 24 rfl [] [(0, (Y46.sv x0)), (1, (Y46.sv x1))] [] (sat_start _ hσ) rfl (args1 rfl h0 (args1 rfl h1 (args0))) ?_
  refine T.seq ?_
  refine T.region mix 3 [2, 3, 4] [0, 0, 0] [(sp ((TP Y46).sv x0)), (sp ((TP Y46).sv x1)), (sp (TB.sv false))] (by kernel_rfl) (AOK.cons (fun ρ a w hs hz hΓ hp => gp (d_box hs.le (hΓ 0 rfl))) (AOK.cons (fun ρ a w hs hz hΓ hp => gp (d_box hs.le (hΓ 1 rfl))) (AOK.cons (fun ρ a w hs hz hΓ hp => gp (d_assign (vB _))) AOK.nil rfl) rfl) rfl) (fun vs1 => ?_)
  refine T.nil ?_
  refine T.norm ?_
  refine T.seq ?_
  obtain ⟨x9, e3, hF⟩ := bindS hF
  obtain ⟨x16, e5, hF⟩ := bindS hF
  obtain ⟨x15, e6⟩ : ∃ (x15 : Bool), x9 = true → impl_SameNumber (nth x0 1) (nth x1 1) = some x15 ∧ x15 = x16 := by
    by_cases hb : x9 = true
    · replace e5 := iteT e5 hb
      obtain ⟨x15, e4, e5⟩ := bindS e5
      exact ⟨x15, fun _ => ⟨e4, Option.some.inj e5⟩⟩
    · exact ⟨default, fun h => absurd h hb⟩
  have e7 : x9 = false → false = x16 := fun h => Option.some.inj (iteF e5 h)
  obtain ⟨x23, e9, hF⟩ := bindS hF
  obtain ⟨x22, e10⟩ : ∃ (x22 : Bool), x16 = true → impl_SameNumber (nth x0 2) (nth x1 2) = some x22 ∧ x22 = x23 := by
    by_cases hb : x16 = true
    · replace e9 := iteT e9 hb
      obtain ⟨x22, e8, e9⟩ := bindS e9
      exact ⟨x22, fun _ => ⟨e8, Option.some.inj e9⟩⟩
    · exact ⟨default, fun h => absurd h hb⟩
  have e11 : x16 = false → false = x23 := fun h => Option.some.inj (iteF e9 h)
  refine T.region mix 20 [5, 6, 7, 8, 9, 10, 11, 12, 13, 14, 15, 16, 17, 18, 19, 20, 21, 22, 23, 4] [0, 1, 0, 4, 15, 31, 63, 127, 63, 319, 1023, 2047, 4095, 8191, 16383, 8191, 40959, 131071, 262143, 524287] [(sp ((TP (TF .f32)).sv (nth x0 0))), (sp ((TF .f32).sv (nth x0 0))), (sp ((TP (TF .f32)).sv (nth x1 0))), (sp ((TF .f32).sv (nth x1 0))), (sp (TB.sv x9)), (sp (TB.sv x9)), (sp (SRel.when (x9 = true) ((TP (TF .f32)).sv (nth x0 1)))), (sp (SRel.when (x9 = true) ((TF .f32).sv (nth x0 1)))), (sp (SRel.when (x9 = true) ((TP (TF .f32)).sv (nth x1 1)))), (sp (SRel.when (x9 = true) ((TF .f32).sv (nth x1 1)))), (sp (SRel.when (x9 = true) (TB.sv x15))), (sp (TB.sv x16)), (sp (TB.sv x16)), (sp (SRel.when (x16 = true) ((TP (TF .f32)).sv (nth x0 2)))), (sp (SRel.when (x16 = true) ((TF .f32).sv (nth x0 2)))), (sp (SRel.when (x16 = true) ((TP (TF .f32)).sv (nth x1 2)))), (sp (SRel.when (x16 = true) ((TF .f32).sv (nth x1 2)))), (sp (SRel.when (x16 = true) (TB.sv x22))), (sp (TB.sv x23)), (sp (TB.sv x23))] (by kernel_rfl) (AOK.cons (fun ρ a w hs hz hΓ hp => gp (d_idxPc .i64 0 u52 y45 (hΓ 2 rfl) rfl)) (AOK.cons (fun ρ a w hs hz hΓ hp => gp (d_load y45 hs.le (hp 0 _ rfl rfl).1)) (AOK.cons (fun ρ a w hs hz hΓ hp => gp (d_idxPc .i64 0 u52 y45 (hΓ 3 rfl) rfl)) (AOK.cons (fun ρ a w hs hz hΓ hp => gp (d_load y45 hs.le (hp 2 _ rfl rfl).1)) (AOK.cons (fun ρ a w hs hz hΓ hp => gp (d_call fn72 hs.le mapA2 (c72 w _ _ hs.le e3 ((hp 1 _ rfl rfl).1) ((hp 3 _ rfl rfl).1)))) (AOK.cons (fun ρ a w hs hz hΓ hp => gp (d_move (hp 4 _ rfl rfl).1)) (AOK.cons (fun ρ a w hs hz hΓ hp => gg (g := 5) (d := 10) hz rfl (hp 5 _ rfl rfl).1 rfl (fun hc => d_idxPc .i64 1 u52 y45 (hΓ 2 rfl) rfl)) (AOK.cons (fun ρ a w hs hz hΓ hp => gg (g := 5) (d := 10) hz rfl (hp 5 _ rfl rfl).1 rfl (fun hc => d_load y45 hs.le ((hp 6 _ rfl rfl).1 hc))) (AOK.cons (fun ρ a w hs hz hΓ hp => gg (g := 5) (d := 10) hz rfl (hp 5 _ rfl rfl).1 rfl (fun hc => d_idxPc .i64 1 u52 y45 (hΓ 3 rfl) rfl)) (AOK.cons (fun ρ a w hs hz hΓ hp => gg (g := 5) (d := 10) hz rfl (hp 5 _ rfl rfl).1 rfl (fun hc => d_load y45 hs.le ((hp 8 _ rfl rfl).1 hc))) (AOK.cons (fun ρ a w hs hz hΓ hp => gg (g := 5) (d := 10) hz rfl (hp 5 _ rfl rfl).1 rfl (fun hc => d_call fn72 hs.le mapA2 (c72 w _ _ hs.le (e6 hc).1 ((hp 7 _ rfl rfl).1 hc) ((hp 9 _ rfl rfl).1 hc)))) (AOK.cons (fun ρ a w hs hz hΓ hp => gp (d_pick (hp 5 _ rfl rfl).1 (fun hc => (pE ((e6 hc).2) ((hp 10 _ rfl rfl).1 hc))) (fun hc => pC (e7 hc)))) (AOK.cons (fun ρ a w hs hz hΓ hp => gp (d_move (hp 11 _ rfl rfl).1)) (AOK.cons (fun ρ a w hs hz hΓ hp => gg (g := 12) (d := 17) hz rfl (hp 12 _ rfl rfl).1 rfl (fun hc => d_idxPc .i64 2 u52 y45 (hΓ 2 rfl) rfl)) (AOK.cons (fun ρ a w hs hz hΓ hp => gg (g := 12) (d := 17) hz rfl (hp 12 _ rfl rfl).1 rfl (fun hc => d_load y45 hs.le ((hp 13 _ rfl rfl).1 hc))) (AOK.cons (fun ρ a w hs hz hΓ hp => gg (g := 12) (d := 17) hz rfl (hp 12 _ rfl rfl).1 rfl (fun hc => d_idxPc .i64 2 u52 y45 (hΓ 3 rfl) rfl)) (AOK.cons (fun ρ a w hs hz hΓ hp => gg (g := 12) (d := 17) hz rfl (hp 12 _ rfl rfl).1 rfl (fun hc => d_load y45 hs.le ((hp 15 _ rfl rfl).1 hc))) (AOK.cons (fun ρ a w hs hz hΓ hp => gg (g := 12) (d := 17) hz rfl (hp 12 _ rfl rfl).1 rfl (fun hc => d_call fn72 hs.le mapA2 (c72 w _ _ hs.le (e10 hc).1 ((hp 14 _ rfl rfl).1 hc) ((hp 16 _ rfl rfl).1 hc)))) (AOK.cons (fun ρ a w hs hz hΓ hp => gp (d_pick (hp 12 _ rfl rfl).1 (fun hc => (pE ((e10 hc).2) ((hp 17 _ rfl rfl).1 hc))) (fun hc => pC (e11 hc)))) (AOK.cons (fun ρ a w hs hz hΓ hp => gp (d_assign (hp 18 _ rfl rfl).1)) AOK.nil rfl) rfl) rfl) rfl) rfl) rfl) rfl) rfl) rfl) rfl) rfl) rfl) rfl) rfl) rfl) rfl) rfl) rfl) rfl) rfl) (fun vs2 => ?_)
  refine T.nil ?_
  refine T.norm ?_
  refine T.ret ?_
  obtain rfl := Option.some.inj hF
  refine T.fin0 fun ρ a w st => ?_
  exact ⟨_, results_one rfl rfl, (st.env 4)⟩

theorem c73 (w : World) (v0 v1 : Value) {σ : Heap} (hσ : σ.le (snap w)) {x0 : (List Int)} {x1 : (List Int)} {r : Bool} (hF : slices_Equal_int16_int16 x0 x1 = some r) (h0 : Y47.val σ v0 x0) (h1 : Y47.val σ v1 x1) :
    Calls Try.prog 73 #[v0, v1] w (Ret [] w σ (TB.sv r) []) := by
  unfold slices_Equal_int16_int16 at hF
  refine start (args := [v0, v1]) Try.func73 rfl 26 rfl [] [(0, (Y47.sv x0)), (1, (Y47.sv x1))] [] (sat_start _ hσ) rfl (args1 rfl h0 (args1 rfl h1 (args0))) ?_
  refine T.seq ?_
  refine T.region mix 1 [4] [0] [(sp (TB.sv false))] (by kernel_rfl) (AOK.cons (fun ρ a w hs hz hΓ hp => gp (d_assign (vB _))) AOK.nil rfl) (fun vs1 => ?_)
  refine T.nil ?_
  refine T.norm ?_
  refine T.seq ?_
  refine T.seq ?_
  refine T.region mix 5 [6, 7, 8, 9, 10] [0, 1, 0, 4, 15] [(sp (Y47.sv x0)), (sp ((TI .i64).sv (x0.length : Int))), (sp (Y47.sv x1)), (sp ((TI .i64).sv (x1.length : Int))), (sp (TB.sv (decide ((x0.length : Int) ≠ (x1.length : Int)))))] (by kernel_rfl) (AOK.cons (fun ρ a w hs hz hΓ hp => gp (d_move (hΓ 0 rfl))) (AOK.cons (fun ρ a w hs hz hΓ hp => gp (d_lenR u47 (hp 0 _ rfl rfl).1)) (AOK.cons (fun ρ a w hs hz hΓ hp => gp (d_move (hΓ 1 rfl))) (AOK.cons (fun ρ a w hs hz hΓ hp => gp (d_lenR u47 (hp 2 _ rfl rfl).1)) (AOK.cons (fun ρ a w hs hz hΓ hp => gp (d_neq (hp 1 _ rfl rfl).1 (hp 3 _ rfl rfl).1)) AOK.nil rfl) rfl) rfl) rfl) rfl) (fun vs2 => ?_)
  refine T.nil ?_
  refine T.norm ?_
  refine T.cond (b := (decide ((x0.length : Int) ≠ (x1.length : Int)))) (fun _ _ h => h) (fun hc => ?_) (fun hc => ?_)
  · replace hF := iteT hF hc
    refine T.seq ?_
    refine T.region mix 1 [4] [0] [(sp (TB.sv false))] (by kernel_rfl) (AOK.cons (fun ρ a w hs hz hΓ hp => gp (d_assign (vB _))) AOK.nil rfl) (fun vs3 => ?_)
    refine T.nil ?_
    refine T.norm ?_
    refine T.ret ?_
    obtain rfl := Option.some.inj hF
    refine T.fin0 fun ρ a w st => ?_
    exact ⟨_, results_one rfl rfl, (st.env 4)⟩
  · replace hF := iteF hF hc
    refine T.skip ?_
    refine T.norm ?_
    refine T.seq ?_
    refine T.seq ?_
    refine T.region mix 3 [11, 12, 13] [0, 1, 0] [(sp (Y47.sv x0)), (sp ((TI .i64).sv (x0.length : Int))), (sp ((TI .i64).sv 0))] (by kernel_rfl) (AOK.cons (fun ρ a w hs hz hΓ hp => gp (d_move (hΓ 0 rfl))) (AOK.cons (fun ρ a w hs hz hΓ hp => gp (d_lenR u47 (hp 0 _ rfl rfl).1)) (AOK.cons (fun ρ a w hs hz hΓ hp => gp (d_move (vI rfl))) AOK.nil rfl) rfl) rfl) (fun vs4 => ?_)
    refine T.nil ?_
    refine T.norm ?_
    obtain ⟨yl5, e6, hF⟩ := bindS hF
    refine T.joinD (ι := Int × (Unit)) (fun p => yl5 = .inl p.1) (Γ' := fun p => E []) (H' := fun p => HL []) (fun p hy => ?_) (fun hk => ?_)
    · obtain ⟨o13, _⟩ := p
      cases hy
      refine T.norm ?_
      refine T.seq ?_
      refine T.region mix 1 [4] [0] [(sp (TB.sv true))] (by kernel_rfl) (AOK.cons (fun ρ a w hs hz hΓ hp => gp (d_assign (vB _))) AOK.nil rfl) (fun vs7 => ?_)
      refine T.nil ?_
      refine T.norm ?_
      refine T.ret ?_
      obtain rfl := Option.some.inj hF
      refine T.fin0 fun ρ a w st => ?_
      exact ⟨_, results_one rfl rfl, (st.env 4)⟩
    · skip
      refine T.block ?_
      refine T.loop (f := slices_Equal_int16_int16_l1 x0 x1) (σ := Int) (Z := Unit) (fun s z => E [(0, (Y47.sv x0)), (1, (Y47.sv x1)), (12, ((TI .i64).sv (x0.length : Int))), (13, ((TI .i64).sv s))]) (fun s z => HL []) e6 () (fun φ h => T.toh h ⟨fun _ _ h => h, fun _ _ h => h, fun _ _ h => h, fun _ _ h => h, trivial⟩ trivial) (fun k s z uu5 hu5 hn5 => ?_)
      obtain ⟨s13, rfl⟩ : ∃ q, q = s := ⟨_, rfl⟩
      dsimp only [slices_Equal_int16_int16_l1] at hu5
      refine T.seq ?_
      refine T.region mix 1 [14] [0] [(sp (TB.sv (decide (s13 < (x0.length : Int)))))] (by kernel_rfl) (AOK.cons (fun ρ a w hs hz hΓ hp => gp (d_lss (hΓ 13 rfl) (hΓ 12 rfl))) AOK.nil rfl) (fun vs8 => ?_)
      refine T.nil ?_
      refine T.norm ?_
      refine T.seq ?_
      refine T.cond (b := (decide (s13 < (x0.length : Int)))) (fun _ _ h => h) (fun hc => ?_) (fun hc => ?_)
      · replace hu5 := iteT hu5 hc
        refine T.skip ?_
        refine T.norm ?_
        refine T.seq ?_
        refine T.block ?_
        refine T.seq ?_
        refine T.region mix 2 [15, 5] [0, 1] [(sp ((TI .i64).sv s13)), (sp ((TI .i64).sv s13))] (by kernel_rfl) (AOK.cons (fun ρ a w hs hz hΓ hp => gp (d_move (hΓ 13 rfl))) (AOK.cons (fun ρ a w hs hz hΓ hp => gp (d_assign (hp 0 _ rfl rfl).1)) AOK.nil rfl) rfl) (fun vs9 => ?_)
        refine T.nil ?_
        refine T.norm ?_
        refine T.seq ?_
        obtain ⟨x18, e11, hu5⟩ := bindS hu5
        obtain ⟨x22, e12, hu5⟩ := bindS hu5
        refine T.region mix 9 [16, 17, 18, 19, 20, 21, 22, 23, 24] [0, 0, 3, 7, 0, 0, 48, 112, 255] [(sp (Y47.sv x0)), (sp ((TI .i64).sv s13)), (sp ((TP (TI .i16)).sv x18)), (sp ((TI .i16).sv x18)), (sp (Y47.sv x1)), (sp ((TI .i64).sv s13)), (sp ((TP (TI .i16)).sv x22)), (sp ((TI .i16).sv x22)), (sp (TB.sv (decide (x18 ≠ x22))))] (by kernel_rfl) (AOK.cons (fun ρ a w hs hz hΓ hp => gp (d_move (hΓ 0 rfl))) (AOK.cons (fun ρ a w hs hz hΓ hp => gp (d_move (hΓ 5 rfl))) (AOK.cons (fun ρ a w hs hz hΓ hp => gp (d_idxR u47 y24 (hp 0 _ rfl rfl).1 (hp 1 _ rfl rfl).1 e11)) (AOK.cons (fun ρ a w hs hz hΓ hp => gp (d_load y24 hs.le (hp 2 _ rfl rfl).1)) (AOK.cons (fun ρ a w hs hz hΓ hp => gp (d_move (hΓ 1 rfl))) (AOK.cons (fun ρ a w hs hz hΓ hp => gp (d_move (hΓ 5 rfl))) (AOK.cons (fun ρ a w hs hz hΓ hp => gp (d_idxR u47 y24 (hp 4 _ rfl rfl).1 (hp 5 _ rfl rfl).1 e12)) (AOK.cons (fun ρ a w hs hz hΓ hp => gp (d_load y24 hs.le (hp 6 _ rfl rfl).1)) (AOK.cons (fun ρ a w hs hz hΓ hp => gp (d_neq (hp 3 _ rfl rfl).1 (hp 7 _ rfl rfl).1)) AOK.nil rfl) rfl) rfl) rfl) rfl) rfl) rfl) rfl) rfl) (fun vs10 => ?_)
        refine T.nil ?_
        refine T.norm ?_
        refine T.cond (b := (decide (x18 ≠ x22))) (fun _ _ h => h) (fun hc => ?_) (fun hc => ?_)
        · replace hu5 := iteT hu5 hc
          refine T.seq ?_
          refine T.region mix 1 [4] [0] [(sp (TB.sv false))] (by kernel_rfl) (AOK.cons (fun ρ a w hs hz hΓ hp => gp (d_assign (vB _))) AOK.nil rfl) (fun vs13 => ?_)
          refine T.nil ?_
          refine T.norm ?_
          refine T.ret ?_
          obtain rfl := Option.some.inj hu5
          cases hn5
          obtain rfl := Option.some.inj hF
          refine T.fin0 fun ρ a w st => ?_
          exact ⟨_, results_one rfl rfl, (st.env 4)⟩
        · replace hu5 := iteF hu5 hc
          refine T.skip ?_
          refine T.fallX ?_
          refine T.norm ?_
          refine T.region mix 2 [25, 13] [0, 1] [(sp ((TI .i64).sv (IntKind.i64.wrap (s13 + 1)))), (sp ((TI .i64).sv (IntKind.i64.wrap (s13 + 1))))] (by kernel_rfl) (AOK.cons (fun ρ a w hs hz hΓ hp => gp (d_add (hΓ 13 rfl) (vI rfl))) (AOK.cons (fun ρ a w hs hz hΓ hp => gp (d_move (hp 0 _ rfl rfl).1)) AOK.nil rfl) rfl) (fun vs14 => ?_)
          refine T.nil ?_
          obtain rfl := Option.some.inj hu5
          exact T.again hn5 () (fun φ h => T.toh h ⟨fun _ _ h => h, fun _ _ h => h, fun _ _ h => h, fun _ _ h => h, trivial⟩ trivial)
      · replace hu5 := iteF hu5 hc
        refine T.exit ?_
        obtain rfl := Option.some.inj hu5
        repeat (first | refine T.passX ?_ | refine T.inX (by decide) ?_)
        refine T.hereX ?_
        exact T.toh (hk (s13, ()) (Eq.symm hn5)) trivial trivial

theorem c31 (w : World) (v0 v1 : Value) {σ : Heap} (hσ : σ.le (snap w)) {x0 : (Int × (List Nat) × Int × Int × Nat × (List Int))} {x1 : (Int × (List Nat) × Int × Int × Nat × (List Int))} {r : Bool} (hF : impl_SameClaim x0 x1 = some r) (h0 : Y48.val σ v0 x0) (h1 : Y48.val σ v1 x1) :
    Calls Try.prog 31 #[v0, v1] w (Ret [] w σ (TB.sv r) []) := by
  unfold impl_SameClaim at hF
  refine start (args := [v0, v1]) Try.func31 rfl 45 rfl [] [(0, (Y48.sv x0)), (1, (Y48.sv x1))] [] (sat_start _ hσ) rfl (args1 rfl h0 (args1 rfl h1 (args0))) ?_
  refine T.seq ?_
  refine T.region mix 3 [2, 3, 4] [0, 0, 0] [(sp ((TP Y48).sv x0)), (sp ((TP Y48).sv x1)), (sp (TB.sv false))] (by kernel_rfl) (AOK.cons (fun ρ a w hs hz hΓ hp => gp (d_box hs.le (hΓ 0 rfl))) (AOK.cons (fun ρ a w hs hz hΓ hp => gp (d_box hs.le (hΓ 1 rfl))) (AOK.cons (fun ρ a w hs hz hΓ hp => gp (d_assign (vB _))) AOK.nil rfl) rfl) rfl) (fun vs1 => ?_)
  refine T.nil ?_
  refine T.norm ?_
  refine T.seq ?_
  obtain ⟨x16, e4, hF⟩ := bindS hF
  obtain ⟨x15, e5⟩ : ∃ (x15 : Bool), (decide (x0.1 = x1.1)) = true → impl_SamePoint x0.2.1 x1.2.1 = some x15 ∧ x15 = x16 := by
    by_cases hb : (decide (x0.1 = x1.1)) = true
    · replace e4 := iteT e4 hb
      obtain ⟨x15, e3, e4⟩ := bindS e4
      exact ⟨x15, fun _ => ⟨e3, Option.some.inj e4⟩⟩
    · exact ⟨default, fun h => absurd h hb⟩
  have e6 : (decide (x0.1 = x1.1)) = false → false = x16 := fun h => Option.some.inj (iteF e4 h)
  obtain ⟨x37, e8, hF⟩ := bindS hF
  obtain ⟨x36, e9⟩ : ∃ (x36 : Bool), ((x16 && (decide (x0.2.2.1 = x1.2.2.1))) && (decide (x0.2.2.2.1 = x1.2.2.2.1))) = true → impl_SameNumber x0.2.2.2.2.1 x1.2.2.2.2.1 = some x36 ∧ x36 = x37 := by
    by_cases hb : ((x16 && (decide (x0.2.2.1 = x1.2.2.1))) && (decide (x0.2.2.2.1 = x1.2.2.2.1))) = true
    · replace e8 := iteT e8 hb
      obtain ⟨x36, e7, e8⟩ := bindS e8
      exact ⟨x36, fun _ => ⟨e7, Option.some.inj e8⟩⟩
    · exact ⟨default, fun h => absurd h hb⟩
  have e10 : ((x16 && (decide (x0.2.2.1 = x1.2.2.1))) && (decide (x0.2.2.2.1 = x1.2.2.2.1))) = false → false = x37 := fun h => Option.some.inj (iteF e8 h)
  obtain ⟨x44, e12, hF⟩ := bindS hF
  obtain ⟨x43, e13⟩ : ∃ (x43 : Bool), x37 = true → slices_Equal_int16_int16 x0.2.2.2.2.2 x1.2.2.2.2.2 = some x43 ∧ x43 = x44 := by
    by_cases hb : x37 = true
    · replace e12 := iteT e12 hb
      obtain ⟨x43, e11, e12⟩ := bindS e12
      exact ⟨x43, fun _ => ⟨e11, Option.some.inj e12⟩⟩
    · exact ⟨default, fun h => absurd h hb⟩
  have e14 : x37 = false → false = x44 := fun h => Option.some.inj (iteF e12 h)
  refine T.region mix 41 [5, 6, 7, 8, 9, 10, 11, 12, 13, 14, 15, 16, 17, 18, 19, 20, 21, 22, 23, 24, 25, 26, 27, 28, 29, 30, 31, 32, 33, 34, 35, 36, 37, 38, 39, 40, 41, 42, 43, 44, 4] [0, 1, 0, 4, 15, 31, 63, 127, 63, 319, 1023, 2047, 4095, 8191, 16383, 8191, 40959, 131071, 262143, 524287, 1048575, 2097151, 1048575, 5242879, 16777215, 33554431, 67108863, 134217727, 268435455, 134217727, 671088639, 2147483647, 4294967295, 8589934591, 17179869183, 34359738367, 17179869183, 85899345919, 274877906943, 549755813887, 1099511627775] [(sp ((TP (TI .i8)).sv x0.1)), (sp ((TI .i8).sv x0.1)), (sp ((TP (TI .i8)).sv x1.1)), (sp ((TI .i8).sv x1.1)), (sp (TB.sv (decide (x0.1 = x1.1)))), (sp (TB.sv (decide (x0.1 = x1.1)))), (sp (SRel.when ((decide (x0.1 = x1.1)) = true) ((TP Y46).sv x0.2.1))), (sp (SRel.when ((decide (x0.1 = x1.1)) = true) (Y46.sv x0.2.1))), (sp (SRel.when ((decide (x0.1 = x1.1)) = true) ((TP Y46).sv x1.2.1))), (sp (SRel.when ((decide (x0.1 = x1.1)) = true) (Y46.sv x1.2.1))), (sp (SRel.when ((decide (x0.1 = x1.1)) = true) (TB.sv x15))), (sp (TB.sv x16)), (sp (TB.sv x16)), (sp (SRel.when (x16 = true) ((TP (TI .i64)).sv x0.2.2.1))), (sp (SRel.when (x16 = true) ((TI .i64).sv x0.2.2.1))), (sp (SRel.when (x16 = true) ((TP (TI .i64)).sv x1.2.2.1))), (sp (SRel.when (x16 = true) ((TI .i64).sv x1.2.2.1))), (sp (SRel.when (x16 = true) (TB.sv (decide (x0.2.2.1 = x1.2.2.1))))), (sp (TB.sv (x16 && (decide (x0.2.2.1 = x1.2.2.1))))), (sp (TB.sv (x16 && (decide (x0.2.2.1 = x1.2.2.1))))), (sp (SRel.when ((x16 && (decide (x0.2.2.1 = x1.2.2.1))) = true) ((TP (TI .i64)).sv x0.2.2.2.1))), (sp (SRel.when ((x16 && (decide (x0.2.2.1 = x1.2.2.1))) = true) ((TI .i64).sv x0.2.2.2.1))), (sp (SRel.when ((x16 && (decide (x0.2.2.1 = x1.2.2.1))) = true) ((TP (TI .i64)).sv x1.2.2.2.1))), (sp (SRel.when ((x16 && (decide (x0.2.2.1 = x1.2.2.1))) = true) ((TI .i64).sv x1.2.2.2.1))), (sp (SRel.when ((x16 && (decide (x0.2.2.1 = x1.2.2.1))) = true) (TB.sv (decide (x0.2.2.2.1 = x1.2.2.2.1))))), (sp (TB.sv ((x16 && (decide (x0.2.2.1 = x1.2.2.1))) && (decide (x0.2.2.2.1 = x1.2.2.2.1))))), (sp (TB.sv ((x16 && (decide (x0.2.2.1 = x1.2.2.1))) && (decide (x0.2.2.2.1 = x1.2.2.2.1))))), (sp (SRel.when (((x16 && (decide (x0.2.2.1 = x1.2.2.1))) && (decide (x0.2.2.2.1 = x1.2.2.2.1))) = true) ((TP (TF .f32)).sv x0.2.2.2.2.1))), (sp (SRel.when (((x16 && (decide (x0.2.2.1 = x1.2.2.1))) && (decide (x0.2.2.2.1 = x1.2.2.2.1))) = true) ((TF .f32).sv x0.2.2.2.2.1))), (sp (SRel.when (((x16 && (decide (x0.2.2.1 = x1.2.2.1))) && (decide (x0.2.2.2.1 = x1.2.2.2.1))) = true) ((TP (TF .f32)).sv x1.2.2.2.2.1))), (sp (SRel.when (((x16 && (decide (x0.2.2.1 = x1.2.2.1))) && (decide (x0.2.2.2.1 = x1.2.2.2.1))) = true) ((TF .f32).sv x1.2.2.2.2.1))), (sp (SRel.when (((x16 && (decide (x0.2.2.1 = x1.2.2.1))) && (decide (x0.2.2.2.1 = x1.2.2.2.1))) = true) (TB.sv x36))), (sp (TB.sv x37)), (sp (TB.sv x37)), (sp (SRel.when (x37 = true) ((TP Y47).sv x0.2.2.2.2.2))), (sp (SRel.when (x37 = true) (Y47.sv x0.2.2.2.2.2))), (sp (SRel.when (x37 = true) ((TP Y47).sv x1.2.2.2.2.2))), (sp (SRel.when (x37 = true) (Y47.sv x1.2.2.2.2.2))), (sp (SRel.when (x37 = true) (TB.sv x43))), (sp (TB.sv x44)), (sp (TB.sv x44))] (by kernel_rfl) (AOK.cons (fun ρ a w hs hz hΓ hp => gp (d_fieldP fa54_0 (hΓ 2 rfl) (At.fst (At.refl _ _)))) (AOK.cons (fun ρ a w hs hz hΓ hp => gp (d_load y34 hs.le (hp 0 _ rfl rfl).1)) (AOK.cons (fun ρ a w hs hz hΓ hp => gp (d_fieldP fa54_0 (hΓ 3 rfl) (At.fst (At.refl _ _)))) (AOK.cons (fun ρ a w hs hz hΓ hp => gp (d_load y34 hs.le (hp 2 _ rfl rfl).1)) (AOK.cons (fun ρ a w hs hz hΓ hp => gp (d_eql (hp 1 _ rfl rfl).1 (hp 3 _ rfl rfl).1)) (AOK.cons (fun ρ a w hs hz hΓ hp => gp (d_move (hp 4 _ rfl rfl).1)) (AOK.cons (fun ρ a w hs hz hΓ hp => gg (g := 5) (d := 10) hz rfl (hp 5 _ rfl rfl).1 rfl (fun hc => d_fieldP fa54_1 (hΓ 2 rfl) (At.fst (At.snd (At.refl _ _))))) (AOK.cons (fun ρ a w hs hz hΓ hp => gg (g := 5) (d := 10) hz rfl (hp 5 _ rfl rfl).1 rfl (fun hc => d_load y52 hs.le ((hp 6 _ rfl rfl).1 hc))) (AOK.cons (fun ρ a w hs hz hΓ hp => gg (g := 5) (d := 10) hz rfl (hp 5 _ rfl rfl).1 rfl (fun hc => d_fieldP fa54_1 (hΓ 3 rfl) (At.fst (At.snd (At.refl _ _))))) (AOK.cons (fun ρ a w hs hz hΓ hp => gg (g := 5) (d := 10) hz rfl (hp 5 _ rfl rfl).1 rfl (fun hc => d_load y52 hs.le ((hp 8 _ rfl rfl).1 hc))) (AOK.cons (fun ρ a w hs hz hΓ hp => gg (g := 5) (d := 10) hz rfl (hp 5 _ rfl rfl).1 rfl (fun hc => d_call fn71 hs.le mapA2 (c71 w _ _ hs.le (e5 hc).1 ((hp 7 _ rfl rfl).1 hc) ((hp 9 _ rfl rfl).1 hc)))) (AOK.cons (fun ρ a w hs hz hΓ hp => gp (d_pick (hp 5 _ rfl rfl).1 (fun hc => (pE ((e5 hc).2) ((hp 10 _ rfl rfl).1 hc))) (fun hc => pC (e6 hc)))) (AOK.cons (fun ρ a w hs hz hΓ hp => gp (d_move (hp 11 _ rfl rfl).1)) (AOK.cons (fun ρ a w hs hz hΓ hp => gg (g := 12) (d := 17) hz rfl (hp 12 _ rfl rfl).1 rfl (fun hc => d_fieldP fa54_2 (hΓ 2 rfl) (At.fst (At.snd (At.snd (At.refl _ _)))))) (AOK.cons (fun ρ a w hs hz hΓ hp => gg (g := 12) (d := 17) hz rfl (hp 12 _ rfl rfl).1 rfl (fun hc => d_load y2 hs.le ((hp 13 _ rfl rfl).1 hc))) (AOK.cons (fun ρ a w hs hz hΓ hp => gg (g := 12) (d := 17) hz rfl (hp 12 _ rfl rfl).1 rfl (fun hc => d_fieldP fa54_2 (hΓ 3 rfl) (At.fst (At.snd (At.snd (At.refl _ _)))))) (AOK.cons (fun ρ a w hs hz hΓ hp => gg (g := 12) (d := 17) hz rfl (hp 12 _ rfl rfl).1 rfl (fun hc => d_load y2 hs.le ((hp 15 _ rfl rfl).1 hc))) (AOK.cons (fun ρ a w hs hz hΓ hp => gg (g := 12) (d := 17) hz rfl (hp 12 _ rfl rfl).1 rfl (fun hc => d_eql ((hp 14 _ rfl rfl).1 hc) ((hp 16 _ rfl rfl).1 hc))) (AOK.cons (fun ρ a w hs hz hΓ hp => gp (d_pick (hp 12 _ rfl rfl).1 (fun hc => pA hc ((hp 17 _ rfl rfl).1 hc)) (fun hc => pAN hc))) (AOK.cons (fun ρ a w hs hz hΓ hp => gp (d_move (hp 18 _ rfl rfl).1)) (AOK.cons (fun ρ a w hs hz hΓ hp => gg (g := 19) (d := 24) hz rfl (hp 19 _ rfl rfl).1 rfl (fun hc => d_fieldP fa54_3 (hΓ 2 rfl) (At.fst (At.snd (At.snd (At.snd (At.refl _ _))))))) (AOK.cons (fun ρ a w hs hz hΓ hp => gg (g := 19) (d := 24) hz rfl (hp 19 _ rfl rfl).1 rfl (fun hc => d_load y2 hs.le ((hp 20 _ rfl rfl).1 hc))) (AOK.cons (fun ρ a w hs hz hΓ hp => gg (g := 19) (d := 24) hz rfl (hp 19 _ rfl rfl).1 rfl (fun hc => d_fieldP fa54_3 (hΓ 3 rfl) (At.fst (At.snd (At.snd (At.snd (At.refl _ _))))))) (AOK.cons (fun ρ a w hs hz hΓ hp => gg (g := 19) (d := 24) hz rfl (hp 19 _ rfl rfl).1 rfl (fun hc => d_load y2 hs.le ((hp 22 _ rfl rfl).1 hc))) (AOK.cons (fun ρ a w hs hz hΓ hp => gg (g := 19) (d := 24) hz rfl (hp 19 _ rfl rfl).1 rfl (fun hc => d_eql ((hp 21 _ rfl rfl).1 hc) ((hp 23 _ rfl rfl).1 hc))) (AOK.cons (fun ρ a w hs hz hΓ hp => gp (d_pick (hp 19 _ rfl rfl).1 (fun hc => pA hc ((hp 24 _ rfl rfl).1 hc)) (fun hc => pAN hc))) (AOK.cons (fun ρ a w hs hz hΓ hp => gp (d_move (hp 25 _ rfl rfl).1)) (AOK.cons (fun ρ a w hs hz hΓ hp => gg (g := 26) (d := 31) hz rfl (hp 26 _ rfl rfl).1 rfl (fun hc => d_fieldP fa54_4 (hΓ 2 rfl) (At.fst (At.snd (At.snd (At.snd (At.snd (At.refl _ _)))))))) (AOK.cons (fun ρ a w hs hz hΓ hp => gg (g := 26) (d := 31) hz rfl (hp 26 _ rfl rfl).1 rfl (fun hc => d_load y45 hs.le ((hp 27 _ rfl rfl).1 hc))) (AOK.cons (fun ρ a w hs hz hΓ hp => gg (g := 26) (d := 31) hz rfl (hp 26 _ rfl rfl).1 rfl (fun hc => d_fieldP fa54_4 (hΓ 3 rfl) (At.fst (At.snd (At.snd (At.snd (At.snd (At.refl _ _)))))))) (AOK.cons (fun ρ a w hs hz hΓ hp => gg (g := 26) (d := 31) hz rfl (hp 26 _ rfl rfl).1 rfl (fun hc => d_load y45 hs.le ((hp 29 _ rfl rfl).1 hc))) (AOK.cons (fun ρ a w hs hz hΓ hp => gg (g := 26) (d := 31) hz rfl (hp 26 _ rfl rfl).1 rfl (fun hc => d_call fn72 hs.le mapA2 (c72 w _ _ hs.le (e9 hc).1 ((hp 28 _ rfl rfl).1 hc) ((hp 30 _ rfl rfl).1 hc)))) (AOK.cons (fun ρ a w hs hz hΓ hp => gp (d_pick (hp 26 _ rfl rfl).1 (fun hc => (pE ((e9 hc).2) ((hp 31 _ rfl rfl).1 hc))) (fun hc => pC (e10 hc)))) (AOK.cons (fun ρ a w hs hz hΓ hp => gp (d_move (hp 32 _ rfl rfl).1)) (AOK.cons (fun ρ a w hs hz hΓ hp => gg (g := 33) (d := 38) hz rfl (hp 33 _ rfl rfl).1 rfl (fun hc => d_fieldP fa54_5 (hΓ 2 rfl) (At.snd (At.snd (At.snd (At.snd (At.snd (At.refl _ _)))))))) (AOK.cons (fun ρ a w hs hz hΓ hp => gg (g := 33) (d := 38) hz rfl (hp 33 _ rfl rfl).1 rfl (fun hc => d_load y47 hs.le ((hp 34 _ rfl rfl).1 hc))) (AOK.cons (fun ρ a w hs hz hΓ hp => gg (g := 33) (d := 38) hz rfl (hp 33 _ rfl rfl).1 rfl (fun hc => d_fieldP fa54_5 (hΓ 3 rfl) (At.snd (At.snd (At.snd (At.snd (At.snd (At.refl _ _)))))))) (AOK.cons (fun ρ a w hs hz hΓ hp => gg (g := 33) (d := 38) hz rfl (hp 33 _ rfl rfl).1 rfl (fun hc => d_load y47 hs.le ((hp 36 _ rfl rfl).1 hc))) (AOK.cons (fun ρ a w hs hz hΓ hp => gg (g := 33) (d := 38) hz rfl (hp 33 _ rfl rfl).1 rfl (fun hc => d_call fn73 hs.le mapA2 (c73 w _ _ hs.le (e13 hc).1 ((hp 35 _ rfl rfl).1 hc) ((hp 37 _ rfl rfl).1 hc)))) (AOK.cons (fun ρ a w hs hz hΓ hp => gp (d_pick (hp 33 _ rfl rfl).1 (fun hc => (pE ((e13 hc).2) ((hp 38 _ rfl rfl).1 hc))) (fun hc => pC (e14 hc)))) (AOK.cons (fun ρ a w hs hz hΓ hp => gp (d_assign (hp 39 _ rfl rfl).1)) AOK.nil rfl) rfl) rfl) rfl) rfl) rfl) rfl) rfl) rfl) rfl) rfl) rfl) rfl) rfl) rfl) rfl) rfl) rfl) rfl) rfl) rfl) rfl) rfl) rfl) rfl) rfl) rfl) rfl) rfl) rfl) rfl) rfl) rfl) rfl) rfl) rfl) rfl) rfl) rfl) rfl) rfl) (fun vs2 => ?_)
  refine T.nil ?_
  refine T.norm ?_
  refine T.ret ?_
  obtain rfl := Option.some.inj hF
  refine T.fin0 fun ρ a w st => ?_
  exact ⟨_, results_one rfl rfl, (st.env 4)⟩

theorem c75 (w : World) (v0 v1 : Value) {σ : Heap} (hσ : σ.le (snap w)) {x0 : Nat} {x1 : Nat} {r : Bool} (hF : laws_sameFloat x0 x1 = some r) (h0 : (TF .f64).val σ v0 x0) (h1 : (TF .f64).val σ v1 x1) :
    Calls Try.prog 75 #[v0, v1] w (Ret [] w σ (TB.sv r) []) := by
  unfold laws_sameFloat at hF
  refine start (args := [v0, v1]) Try.func75 rfl 37 rfl [] [(0, ((TF .f64).sv x0)), (1, ((TF .f64).sv x1))] [] (sat_start _ hσ) rfl (args1 rfl h0 (args1 rfl h1 (args0))) ?_
  refine T.seq ?_
  refine T.region mix 1 [4] [0] [(sp (TB.sv false))] (by kernel_rfl) (AOK.cons (fun ρ a w hs hz hΓ hp => gp (d_assign (vB _))) AOK.nil rfl) (fun vs1 => ?_)
  refine T.nil ?_
  refine T.norm ?_
  refine T.seq ?_
  refine T.seq ?_
  refine T.region mix 8 [5, 6, 7, 8, 9, 10, 11, 12] [0, 0, 3, 7, 15, 15, 63, 127] [(sp ((TF .f64).sv x0)), (sp ((TF .f64).sv x0)), (sp (TB.sv (fneq .f64 x0 x0))), (sp (TB.sv (fneq .f64 x0 x0))), (sp (SRel.when ((fneq .f64 x0 x0) = false) ((TF .f64).sv x1))), (sp (SRel.when ((fneq .f64 x0 x0) = false) ((TF .f64).sv x1))), (sp (SRel.when ((fneq .f64 x0 x0) = false) (TB.sv (fneq .f64 x1 x1)))), (sp (TB.sv ((fneq .f64 x0 x0) || (fneq .f64 x1 x1))))] (by kernel_rfl) (AOK.cons (fun ρ a w hs hz hΓ hp => gp (d_move (hΓ 0 rfl))) (AOK.cons (fun ρ a w hs hz hΓ hp => gp (d_move (hΓ 0 rfl))) (AOK.cons (fun ρ a w hs hz hΓ hp => gp (d_fneq (hp 0 _ rfl rfl).1 (hp 1 _ rfl rfl).1)) (AOK.cons (fun ρ a w hs hz hΓ hp => gp (d_move (hp 2 _ rfl rfl).1)) (AOK.cons (fun ρ a w hs hz hΓ hp => gg (g := 3) (d := 8) hz rfl (hp 3 _ rfl rfl).1 rfl (fun hc => d_move (hΓ 1 rfl))) (AOK.cons (fun ρ a w hs hz hΓ hp => gg (g := 3) (d := 8) hz rfl (hp 3 _ rfl rfl).1 rfl (fun hc => d_move (hΓ 1 rfl))) (AOK.cons (fun ρ a w hs hz hΓ hp => gg (g := 3) (d := 8) hz rfl (hp 3 _ rfl rfl).1 rfl (fun hc => d_fneq ((hp 4 _ rfl rfl).1 hc) ((hp 5 _ rfl rfl).1 hc))) (AOK.cons (fun ρ a w hs hz hΓ hp => gp (d_pick (hp 3 _ rfl rfl).1 (fun hc => pON hc) (fun hc => pO hc ((hp 6 _ rfl rfl).1 hc)))) AOK.nil rfl) rfl) rfl) rfl) rfl) rfl) rfl) rfl) (fun vs2 => ?_)
  refine T.nil ?_
  refine T.norm ?_
  refine T.cond (b := ((fneq .f64 x0 x0) || (fneq .f64 x1 x1))) (fun _ _ h => h) (fun hc => ?_) (fun hc => ?_)
  · replace hF := iteT hF hc
    refine T.seq ?_
    refine T.region mix 9 [13, 14, 15, 16, 17, 18, 19, 20, 4] [0, 0, 3, 7, 15, 15, 63, 127, 255] [(sp ((TF .f64).sv x0)), (sp ((TF .f64).sv x0)), (sp (TB.sv (fneq .f64 x0 x0))), (sp (TB.sv (fneq .f64 x0 x0))), (sp (SRel.when ((fneq .f64 x0 x0) = true) ((TF .f64).sv x1))), (sp (SRel.when ((fneq .f64 x0 x0) = true) ((TF .f64).sv x1))), (sp (SRel.when ((fneq .f64 x0 x0) = true) (TB.sv (fneq .f64 x1 x1)))), (sp (TB.sv ((fneq .f64 x0 x0) && (fneq .f64 x1 x1)))), (sp (TB.sv ((fneq .f64 x0 x0) && (fneq .f64 x1 x1))))] (by kernel_rfl) (AOK.cons (fun ρ a w hs hz hΓ hp => gp (d_move (hΓ 0 rfl))) (AOK.cons (fun ρ a w hs hz hΓ hp => gp (d_move (hΓ 0 rfl))) (AOK.cons (fun ρ a w hs hz hΓ hp => gp (d_fneq (hp 0 _ rfl rfl).1 (hp 1 _ rfl rfl).1)) (AOK.cons (fun ρ a w hs hz hΓ hp => gp (d_move (hp 2 _ rfl rfl).1)) (AOK.cons (fun ρ a w hs hz hΓ hp => gg (g := 3) (d := 16) hz rfl (hp 3 _ rfl rfl).1 rfl (fun hc => d_move (hΓ 1 rfl))) (AOK.cons (fun ρ a w hs hz hΓ hp => gg (g := 3) (d := 16) hz rfl (hp 3 _ rfl rfl).1 rfl (fun hc => d_move (hΓ 1 rfl))) (AOK.cons (fun ρ a w hs hz hΓ hp => gg (g := 3) (d := 16) hz rfl (hp 3 _ rfl rfl).1 rfl (fun hc => d_fneq ((hp 4 _ rfl rfl).1 hc) ((hp 5 _ rfl rfl).1 hc))) (AOK.cons (fun ρ a w hs hz hΓ hp => gp (d_pick (hp 3 _ rfl rfl).1 (fun hc => pA hc ((hp 6 _ rfl rfl).1 hc)) (fun hc => pAN hc))) (AOK.cons (fun ρ a w hs hz hΓ hp => gp (d_assign (hp 7 _ rfl rfl).1)) AOK.nil rfl) rfl) rfl) rfl) rfl) rfl) rfl) rfl) rfl) (fun vs3 => ?_)
    refine T.nil ?_
    refine T.norm ?_
    refine T.ret ?_
    obtain rfl := Option.some.inj hF
    refine T.fin0 fun ρ a w st => ?_
    exact ⟨_, results_one rfl rfl, (st.env 4)⟩
  · replace hF := iteF hF hc
    refine T.skip ?_
    refine T.norm ?_
    refine T.seq ?_
    refine T.seq ?_
    refine T.region mix 6 [21, 22, 23, 24, 25, 26] [0, 1, 3, 7, 15, 31] [(sp ((TF .f64).sv x0)), (sp (TB.sv (feql .f64 x0 0))), (sp (TB.sv (feql .f64 x0 0))), (sp (SRel.when ((feql .f64 x0 0) = true) ((TF .f64).sv x1))), (sp (SRel.when ((feql .f64 x0 0) = true) (TB.sv (feql .f64 x1 0)))), (sp (TB.sv ((feql .f64 x0 0) && (feql .f64 x1 0))))] (by kernel_rfl) (AOK.cons (fun ρ a w hs hz hΓ hp => gp (d_move (hΓ 0 rfl))) (AOK.cons (fun ρ a w hs hz hΓ hp => gp (d_feql (hp 0 _ rfl rfl).1 (vF (by decide +kernel)))) (AOK.cons (fun ρ a w hs hz hΓ hp => gp (d_move (hp 1 _ rfl rfl).1)) (AOK.cons (fun ρ a w hs hz hΓ hp => gg (g := 2) (d := 23) hz rfl (hp 2 _ rfl rfl).1 rfl (fun hc => d_move (hΓ 1 rfl))) (AOK.cons (fun ρ a w hs hz hΓ hp => gg (g := 2) (d := 23) hz rfl (hp 2 _ rfl rfl).1 rfl (fun hc => d_feql ((hp 3 _ rfl rfl).1 hc) (vF (by decide +kernel)))) (AOK.cons (fun ρ a w hs hz hΓ hp => gp (d_pick (hp 2 _ rfl rfl).1 (fun hc => pA hc ((hp 4 _ rfl rfl).1 hc)) (fun hc => pAN hc))) AOK.nil rfl) rfl) rfl) rfl) rfl) rfl) (fun vs4 => ?_)
    refine T.nil ?_
    refine T.norm ?_
    refine T.cond (b := ((feql .f64 x0 0) && (feql .f64 x1 0))) (fun _ _ h => h) (fun hc => ?_) (fun hc => ?_)
    · replace hF := iteT hF hc
      refine T.seq ?_
      refine T.region mix 8 [27, 28, 29, 30, 31, 32, 33, 4] [0, 1, 3, 0, 8, 24, 63, 127] [(sp ((TF .f64).sv x0)), (sp ((TF .f64).sv (fdiv .f64 4607182418800017408 x0))), (sp (TB.sv (fgtr .f64 (fdiv .f64 4607182418800017408 x0) 0))), (sp ((TF .f64).sv x1)), (sp ((TF .f64).sv (fdiv .f64 4607182418800017408 x1))), (sp (TB.sv (fgtr .f64 (fdiv .f64 4607182418800017408 x1) 0))), (sp (TB.sv ((fgtr .f64 (fdiv .f64 4607182418800017408 x0) 0) == (fgtr .f64 (fdiv .f64 4607182418800017408 x1) 0)))), (sp (TB.sv ((fgtr .f64 (fdiv .f64 4607182418800017408 x0) 0) == (fgtr .f64 (fdiv .f64 4607182418800017408 x1) 0))))] (by kernel_rfl) (AOK.cons (fun ρ a w hs hz hΓ hp => gp (d_move (hΓ 0 rfl))) (AOK.cons (fun ρ a w hs hz hΓ hp => gp (d_fdiv (vF (by decide +kernel)) (hp 0 _ rfl rfl).1)) (AOK.cons (fun ρ a w hs hz hΓ hp => gp (d_fgtr (hp 1 _ rfl rfl).1 (vF (by decide +kernel)))) (AOK.cons (fun ρ a w hs hz hΓ hp => gp (d_move (hΓ 1 rfl))) (AOK.cons (fun ρ a w hs hz hΓ hp => gp (d_fdiv (vF (by decide +kernel)) (hp 3 _ rfl rfl).1)) (AOK.cons (fun ρ a w hs hz hΓ hp => gp (d_fgtr (hp 4 _ rfl rfl).1 (vF (by decide +kernel)))) (AOK.cons (fun ρ a w hs hz hΓ hp => gp (d_eqlB u4 (hp 2 _ rfl rfl).1 (hp 5 _ rfl rfl).1)) (AOK.cons (fun ρ a w hs hz hΓ hp => gp (d_assign (hp 6 _ rfl rfl).1)) AOK.nil rfl) rfl) rfl) rfl) rfl) rfl) rfl) rfl) (fun vs5 => ?_)
      refine T.nil ?_
      refine T.norm ?_
      refine T.ret ?_
      obtain rfl := Option.some.inj hF
      refine T.fin0 fun ρ a w st => ?_
      exact ⟨_, results_one rfl rfl, (st.env 4)⟩
    · replace hF := iteF hF hc
      refine T.skip ?_
      refine T.norm ?_
      refine T.seq ?_
      refine T.region mix 4 [34, 35, 36, 4] [0, 0, 3, 7] [(sp ((TF .f64).sv x0)), (sp ((TF .f64).sv x1)), (sp (TB.sv (feql .f64 x0 x1))), (sp (TB.sv (feql .f64 x0 x1)))] (by kernel_rfl) (AOK.cons (fun ρ a w hs hz hΓ hp => gp (d_move (hΓ 0 rfl))) (AOK.cons (fun ρ a w hs hz hΓ hp => gp (d_move (hΓ 1 rfl))) (AOK.cons (fun ρ a w hs hz hΓ hp => gp (d_feql (hp 0 _ rfl rfl).1 (hp 1 _ rfl rfl).1)) (AOK.cons (fun ρ a w hs hz hΓ hp => gp (d_assign (hp 2 _ rfl rfl).1)) AOK.nil rfl) rfl) rfl) rfl) (fun vs6 => ?_)
      refine T.nil ?_
      refine T.norm ?_
      refine T.ret ?_
      obtain rfl := Option.some.inj hF
      refine T.fin0 fun ρ a w st => ?_
      exact ⟨_, results_one rfl rfl, (st.env 4)⟩

theorem c74 (w : World) (v0 v1 : Value) {σ : Heap} (hσ : σ.le (snap w)) {x0 : (List Nat)} {x1 : (List Nat)} {r : Bool} (hF : laws_eqPoint x0 x1 = some r) (h0 : Y46.val σ v0 x0) (h1 : Y46.val σ v1 x1) :
    Calls Try.prog 74 #[v0, v1] w (Ret [] w σ (TB.sv r) []) := by
  unfold laws_eqPoint at hF
  refine start (args := [v0, v1]) Try.func74 rfl 20 rfl [] [(0, (Y46.sv x0)), (1, (Y46.sv x1))] [] (sat_start _ hσ) rfl (args1 rfl h0 (args1 rfl h1 (args0))) ?_
  refine T.seq ?_
  refine T.region mix 3 [2, 3, 4] [0, 0, 0] [(sp ((TP Y46).sv x0)), (sp ((TP Y46).sv x1)), (sp (TB.sv false))] (by kernel_rfl) (AOK.cons (fun ρ a w hs hz hΓ hp => gp (d_box hs.le (hΓ 0 rfl))) (AOK.cons (fun ρ a w hs hz hΓ hp => gp (d_box hs.le (hΓ 1 rfl))) (AOK.cons (fun ρ a w hs hz hΓ hp => gp (d_assign (vB _))) AOK.nil rfl) rfl) rfl) (fun vs1 => ?_)
  refine T.nil ?_
  refine T.norm ?_
  refine T.seq ?_
  refine T.seq ?_
  refine T.region mix 1 [5] [0] [(sp ((TI .i64).sv 0))] (by kernel_rfl) (AOK.cons (fun ρ a w hs hz hΓ hp => gp (d_assign (vI rfl))) AOK.nil rfl) (fun vs2 => ?_)
  refine T.nil ?_
  refine T.norm ?_
  obtain ⟨yl3, e4, hF⟩ := bindS hF
  refine T.joinD (ι := Int × (Unit)) (fun p => yl3 = .inl p.1) (Γ' := fun p => E []) (H' := fun p => HL []) (fun p hy => ?_) (fun hk => ?_)
  · obtain ⟨o5, _⟩ := p
    cases hy
    refine T.norm ?_
    refine T.seq ?_
    refine T.region mix 1 [4] [0] [(sp (TB.sv true))] (by kernel_rfl) (AOK.cons (fun ρ a w hs hz hΓ hp => gp (d_assign (vB _))) AOK.nil rfl) (fun vs5 => ?_)
    refine T.nil ?_
    refine T.norm ?_
    refine T.ret ?_
    obtain rfl := Option.some.inj hF
    refine T.fin0 fun ρ a w st => ?_
    exact ⟨_, results_one rfl rfl, (st.env 4)⟩
  · skip
    refine T.block ?_
    refine T.loop (f := laws_eqPoint_l1 x0 x1) (σ := Int) (Z := Unit) (fun s z => E [(2, ((TP Y46).sv x0)), (3, ((TP Y46).sv x1)), (5, ((TI .i64).sv s))]) (fun s z => HL []) e4 () (fun φ h => T.toh h ⟨fun _ _ h => h, fun _ _ h => h, fun _ _ h => h, trivial⟩ trivial) (fun k s z uu3 hu3 hn3 => ?_)
    obtain ⟨s5, rfl⟩ : ∃ q, q = s := ⟨_, rfl⟩
    dsimp only [laws_eqPoint_l1] at hu3
    refine T.seq ?_
    refine T.seq ?_
    refine T.region mix 2 [6, 7] [0, 1] [(sp ((TI .i64).sv s5)), (sp (TB.sv (decide (s5 < 3))))] (by kernel_rfl) (AOK.cons (fun ρ a w hs hz hΓ hp => gp (d_move (hΓ 5 rfl))) (AOK.cons (fun ρ a w hs hz hΓ hp => gp (d_lss (hp 0 _ rfl rfl).1 (vI rfl))) AOK.nil rfl) rfl) (fun vs6 => ?_)
    refine T.nil ?_
    refine T.norm ?_
    refine T.cond (b := (decide (s5 < 3))) (fun _ _ h => h) (fun hc => ?_) (fun hc => ?_)
    · replace hu3 := iteT hu3 hc
      refine T.skip ?_
      refine T.norm ?_
      refine T.seq ?_
      refine T.block ?_
      refine T.seq ?_
      obtain ⟨x11, e8, hu3⟩ := bindS hu3
      obtain ⟨x13, e9, hu3⟩ := bindS hu3
      obtain ⟨x15, e10, hu3⟩ := bindS hu3
      obtain ⟨x17, e11, hu3⟩ := bindS hu3
      obtain ⟨x18, e12, hu3⟩ := bindS hu3
      refine T.region mix 10 [10, 11, 12, 13, 14, 15, 16, 17, 18, 19] [0, 1, 3, 7, 0, 16, 48, 112, 255, 511] [(sp ((TI .i64).sv s5)), (sp ((TP (TF .f32)).sv x11)), (sp ((TF .f32).sv x11)), (sp ((TF .f64).sv x13)), (sp ((TI .i64).sv s5)), (sp ((TP (TF .f32)).sv x15)), (sp ((TF .f32).sv x15)), (sp ((TF .f64).sv x17)), (sp (TB.sv x18)), (sp (TB.sv (!x18)))] (by kernel_rfl) (AOK.cons (fun ρ a w hs hz hΓ hp => gp (d_move (hΓ 5 rfl))) (AOK.cons (fun ρ a w hs hz hΓ hp => gp (d_idxP u52 y45 (hΓ 2 rfl) (hp 0 _ rfl rfl).1 e8)) (AOK.cons (fun ρ a w hs hz hΓ hp => gp (d_load y45 hs.le (hp 1 _ rfl rfl).1)) (AOK.cons (fun ρ a w hs hz hΓ hp => gp (d_fconv u45 u109 rfl (hp 2 _ rfl rfl).1 e9)) (AOK.cons (fun ρ a w hs hz hΓ hp => gp (d_move (hΓ 5 rfl))) (AOK.cons (fun ρ a w hs hz hΓ hp => gp (d_idxP u52 y45 (hΓ 3 rfl) (hp 4 _ rfl rfl).1 e10)) (AOK.cons (fun ρ a w hs hz hΓ hp => gp (d_load y45 hs.le (hp 5 _ rfl rfl).1)) (AOK.cons (fun ρ a w hs hz hΓ hp => gp (d_fconv u45 u109 rfl (hp 6 _ rfl rfl).1 e11)) (AOK.cons (fun ρ a w hs hz hΓ hp => gp (d_call fn75 hs.le mapA2 (c75 w _ _ hs.le e12 ((hp 3 _ rfl rfl).1) ((hp 7 _ rfl rfl).1)))) (AOK.cons (fun ρ a w hs hz hΓ hp => gp (d_not (hp 8 _ rfl rfl).1)) AOK.nil rfl) rfl) rfl) rfl) rfl) rfl) rfl) rfl) rfl) rfl) (fun vs7 => ?_)
      refine T.nil ?_
      refine T.norm ?_
      refine T.cond (b := (!x18)) (fun _ _ h => h) (fun hc => ?_) (fun hc => ?_)
      · replace hu3 := iteT hu3 hc
        refine T.seq ?_
        refine T.region mix 1 [4] [0] [(sp (TB.sv false))] (by kernel_rfl) (AOK.cons (fun ρ a w hs hz hΓ hp => gp (d_assign (vB _))) AOK.nil rfl) (fun vs13 => ?_)
        refine T.nil ?_
        refine T.norm ?_
        refine T.ret ?_
        obtain rfl := Option.some.inj hu3
        cases hn3
        obtain rfl := Option.some.inj hF
        refine T.fin0 fun ρ a w st => ?_
        exact ⟨_, results_one rfl rfl, (st.env 4)⟩
      · replace hu3 := iteF hu3 hc
        refine T.skip ?_
        refine T.fallX ?_
        refine T.norm ?_
        refine T.region mix 3 [8, 9, 5] [0, 1, 3] [(sp ((TI .i64).sv s5)), (sp ((TI .i64).sv (IntKind.i64.wrap (s5 + 1)))), (sp ((TI .i64).sv (IntKind.i64.wrap (s5 + 1))))] (by kernel_rfl) (AOK.cons (fun ρ a w hs hz hΓ hp => gp (d_move (hΓ 5 rfl))) (AOK.cons (fun ρ a w hs hz hΓ hp => gp (d_add (hp 0 _ rfl rfl).1 (vI rfl))) (AOK.cons (fun ρ a w hs hz hΓ hp => gp (d_assign (hp 1 _ rfl rfl).1)) AOK.nil rfl) rfl) rfl) (fun vs14 => ?_)
        refine T.nil ?_
        obtain rfl := Option.some.inj hu3
        exact T.again hn3 () (fun φ h => T.toh h ⟨fun _ _ h => h, fun _ _ h => h, fun _ _ h => h, trivial⟩ trivial)
    · replace hu3 := iteF hu3 hc
      refine T.exit ?_
      obtain rfl := Option.some.inj hu3
      repeat (first | refine T.passX ?_ | refine T.inX (by decide) ?_)
      refine T.hereX ?_
      exact T.toh (hk (s5, ()) (Eq.symm hn3)) trivial trivial

theorem c76 (w : World) (v0 v1 : Value) {σ : Heap} (hσ : σ.le (snap w)) {x0 : (List Int)} {x1 : (List Int)} {r : Bool} (hF : laws_eqInt16S x0 x1 = some r) (h0 : Y47.val σ v0 x0) (h1 : Y47.val σ v1 x1) :
    Calls Try.prog 76 #[v0, v1] w (Ret [] w σ (TB.sv r) []) := by
  unfold laws_eqInt16S at hF
  refine start (args := [v0, v1]) Try.func76 rfl 26 rfl [] [(0, (Y47.sv x0)), (1, (Y47.sv x1))] [] (sat_start _ hσ) rfl (args1 rfl h0 (args1 rfl h1 (args0))) ?_
  refine T.seq ?_
  refine T.region mix 1 [4] [0] [(sp (TB.sv false))] (by kernel_rfl) (AOK.cons (fun ρ a w hs hz hΓ hp => gp (d_assign (vB _))) AOK.nil rfl) (fun vs1 => ?_)
  refine T.nil ?_
  refine T.norm ?_
  refine T.seq ?_
  refine T.seq ?_
  refine T.region mix 5 [6, 7, 8, 9, 10] [0, 1, 0, 4, 15] [(sp (Y47.sv x0)), (sp ((TI .i64).sv (x0.length : Int))), (sp (Y47.sv x1)), (sp ((TI .i64).sv (x1.length : Int))), (sp (TB.sv (decide ((x0.length : Int) ≠ (x1.length : Int)))))] (by kernel_rfl) (AOK.cons (fun ρ a w hs hz hΓ hp => gp (d_move (hΓ 0 rfl))) (AOK.cons (fun ρ a w hs hz hΓ hp => gp (d_lenR u47 (hp 0 _ rfl rfl).1)) (AOK.cons (fun ρ a w hs hz hΓ hp => gp (d_move (hΓ 1 rfl))) (AOK.cons (fun ρ a w hs hz hΓ hp => gp (d_lenR u47 (hp 2 _ rfl rfl).1)) (AOK.cons (fun ρ a w hs hz hΓ hp => gp (d_neq (hp 1 _ rfl rfl).1 (hp 3 _ rfl rfl).1)) AOK.nil rfl) rfl) rfl) rfl) rfl) (fun vs2 => ?_)
  refine T.nil ?_
  refine T.norm ?_
  refine T.cond (b := (decide ((x0.length : Int) ≠ (x1.length : Int)))) (fun _ _ h => h) (fun hc => ?_) (fun hc => ?_)
  · replace hF := iteT hF hc
    refine T.seq ?_
    refine T.region mix 1 [4] [0] [(sp (TB.sv false))] (by kernel_rfl) (AOK.cons (fun ρ a w hs hz hΓ hp => gp (d_assign (vB _))) AOK.nil rfl) (fun vs3 => ?_)
    refine T.nil ?_
    refine T.norm ?_
    refine T.ret ?_
    obtain rfl := Option.some.inj hF
    refine T.fin0 fun ρ a w st => ?_
    exact ⟨_, results_one rfl rfl, (st.env 4)⟩
  · replace hF := iteF hF hc
    refine T.skip ?_
    refine T.norm ?_
    refine T.seq ?_
    refine T.seq ?_
    refine T.region mix 1 [5] [0] [(sp ((TI .i64).sv 0))] (by kernel_rfl) (AOK.cons (fun ρ a w hs hz hΓ hp => gp (d_assign (vI rfl))) AOK.nil rfl) (fun vs4 => ?_)
    refine T.nil ?_
    refine T.norm ?_
    obtain ⟨yl5, e6, hF⟩ := bindS hF
    refine T.joinD (ι := Int × (Unit)) (fun p => yl5 = .inl p.1) (Γ' := fun p => E []) (H' := fun p => HL []) (fun p hy => ?_) (fun hk => ?_)
    · obtain ⟨o5, _⟩ := p
      cases hy
      refine T.norm ?_
      refine T.seq ?_
      refine T.region mix 1 [4] [0] [(sp (TB.sv true))] (by kernel_rfl) (AOK.cons (fun ρ a w hs hz hΓ hp => gp (d_assign (vB _))) AOK.nil rfl) (fun vs7 => ?_)
      refine T.nil ?_
      refine T.norm ?_
      refine T.ret ?_
      obtain rfl := Option.some.inj hF
      refine T.fin0 fun ρ a w st => ?_
      exact ⟨_, results_one rfl rfl, (st.env 4)⟩
    · skip
      refine T.block ?_
      refine T.loop (f := laws_eqInt16S_l1 x0 x1) (σ := Int) (Z := Unit) (fun s z => E [(0, (Y47.sv x0)), (1, (Y47.sv x1)), (5, ((TI .i64).sv s))]) (fun s z => HL []) e6 () (fun φ h => T.toh h ⟨fun _ _ h => h, fun _ _ h => h, fun _ _ h => h, trivial⟩ trivial) (fun k s z uu5 hu5 hn5 => ?_)
      obtain ⟨s5, rfl⟩ : ∃ q, q = s := ⟨_, rfl⟩
      dsimp only [laws_eqInt16S_l1] at hu5
      refine T.seq ?_
      refine T.seq ?_
      refine T.region mix 4 [11, 12, 13, 14] [0, 0, 2, 7] [(sp ((TI .i64).sv s5)), (sp (Y47.sv x0)), (sp ((TI .i64).sv (x0.length : Int))), (sp (TB.sv (decide (s5 < (x0.length : Int)))))] (by kernel_rfl) (AOK.cons (fun ρ a w hs hz hΓ hp => gp (d_move (hΓ 5 rfl))) (AOK.cons (fun ρ a w hs hz hΓ hp => gp (d_move (hΓ 0 rfl))) (AOK.cons (fun ρ a w hs hz hΓ hp => gp (d_lenR u47 (hp 1 _ rfl rfl).1)) (AOK.cons (fun ρ a w hs hz hΓ hp => gp (d_lss (hp 0 _ rfl rfl).1 (hp 2 _ rfl rfl).1)) AOK.nil rfl) rfl) rfl) rfl) (fun vs8 => ?_)
      refine T.nil ?_
      refine T.norm ?_
      refine T.cond (b := (decide (s5 < (x0.length : Int)))) (fun _ _ h => h) (fun hc => ?_) (fun hc => ?_)
      · replace hu5 := iteT hu5 hc
        refine T.skip ?_
        refine T.norm ?_
        refine T.seq ?_
        refine T.block ?_
        refine T.seq ?_
        obtain ⟨x19, e10, hu5⟩ := bindS hu5
        obtain ⟨x23, e11, hu5⟩ := bindS hu5
        refine T.region mix 9 [17, 18, 19, 20, 21, 22, 23, 24, 25] [0, 0, 3, 7, 0, 0, 48, 112, 255] [(sp (Y47.sv x0)), (sp ((TI .i64).sv s5)), (sp ((TP (TI .i16)).sv x19)), (sp ((TI .i16).sv x19)), (sp (Y47.sv x1)), (sp ((TI .i64).sv s5)), (sp ((TP (TI .i16)).sv x23)), (sp ((TI .i16).sv x23)), (sp (TB.sv (decide (x19 ≠ x23))))] (by kernel_rfl) (AOK.cons (fun ρ a w hs hz hΓ hp => gp (d_move (hΓ 0 rfl))) (AOK.cons (fun ρ a w hs hz hΓ hp => gp (d_move (hΓ 5 rfl))) (AOK.cons (fun ρ a w hs hz hΓ hp => gp (d_idxR u47 y24 (hp 0 _ rfl rfl).1 (hp 1 _ rfl rfl).1 e10)) (AOK.cons (fun ρ a w hs hz hΓ hp => gp (d_load y24 hs.le (hp 2 _ rfl rfl).1)) (AOK.cons (fun ρ a w hs hz hΓ hp => gp (d_move (hΓ 1 rfl))) (AOK.cons (fun ρ a w hs hz hΓ hp => gp (d_move (hΓ 5 rfl))) (AOK.cons (fun ρ a w hs hz hΓ hp => gp (d_idxR u47 y24 (hp 4 _ rfl rfl).1 (hp 5 _ rfl rfl).1 e11)) (AOK.cons (fun ρ a w hs hz hΓ hp => gp (d_load y24 hs.le (hp 6 _ rfl rfl).1)) (AOK.cons (fun ρ a w hs hz hΓ hp => gp (d_neq (hp 3 _ rfl rfl).1 (hp 7 _ rfl rfl).1)) AOK.nil rfl) rfl) rfl) rfl) rfl) rfl) rfl) rfl) rfl) (fun vs9 => ?_)
        refine T.nil ?_
        refine T.norm ?_
        refine T.cond (b := (decide (x19 ≠ x23))) (fun _ _ h => h) (fun hc => ?_) (fun hc => ?_)
        · replace hu5 := iteT hu5 hc
          refine T.seq ?_
          refine T.region mix 1 [4] [0] [(sp (TB.sv false))] (by kernel_rfl) (AOK.cons (fun ρ a w hs hz hΓ hp => gp (d_assign (vB _))) AOK.nil rfl) (fun vs12 => ?_)
          refine T.nil ?_
          refine T.norm ?_
          refine T.ret ?_
          obtain rfl := Option.some.inj hu5
          cases hn5
          obtain rfl := Option.some.inj hF
          refine T.fin0 fun ρ a w st => ?_
          exact ⟨_, results_one rfl rfl, (st.env 4)⟩
        · replace hu5 := iteF hu5 hc
          refine T.skip ?_
          refine T.fallX ?_
          refine T.norm ?_
          refine T.region mix 3 [15, 16, 5] [0, 1, 3] [(sp ((TI .i64).sv s5)), (sp ((TI .i64).sv (IntKind.i64.wrap (s5 + 1)))), (sp ((TI .i64).sv (IntKind.i64.wrap (s5 + 1))))] (by kernel_rfl) (AOK.cons (fun ρ a w hs hz hΓ hp => gp (d_move (hΓ 5 rfl))) (AOK.cons (fun ρ a w hs hz hΓ hp => gp (d_add (hp 0 _ rfl rfl).1 (vI rfl))) (AOK.cons (fun ρ a w hs hz hΓ hp => gp (d_assign (hp 1 _ rfl rfl).1)) AOK.nil rfl) rfl) rfl) (fun vs13 => ?_)
          refine T.nil ?_
          obtain rfl := Option.some.inj hu5
          exact T.again hn5 () (fun φ h => T.toh h ⟨fun _ _ h => h, fun _ _ h => h, fun _ _ h => h, trivial⟩ trivial)
      · replace hu5 := iteF hu5 hc
        refine T.exit ?_
        obtain rfl := Option.some.inj hu5
        repeat (first | refine T.passX ?_ | refine T.inX (by decide) ?_)
        refine T.hereX ?_
        exact T.toh (hk (s5, ()) (Eq.symm hn5)) trivial trivial

theorem c32 (w : World) (v0 v1 : Value) {σ : Heap} (hσ : σ.le (snap w)) {x0 : (Int × (List Nat) × Int × Int × Nat × (List Int))} {x1 : (Int × (List Nat) × Int × Int × Nat × (List Int))} {r : Bool} (hF : laws_eqClaim x0 x1 = some r) (h0 : Y48.val σ v0 x0) (h1 : Y48.val σ v1 x1) :
    Calls Try.prog 32 #[v0, v1] w (Ret [] w σ (TB.sv r) []) := by
  unfold laws_eqClaim at hF
  refine start (args := [v0, v1]) Try.func32 rfl 40 rfl [] [(0, (Y48.sv x0)), (1, (Y48.sv x1))] [] (sat_start _ hσ) rfl (args1 rfl h0 (args1 rfl h1 (args0))) ?_
  refine T.seq ?_
  refine T.region mix 3 [2, 3, 4] [0, 0, 0] [(sp ((TP Y48).sv x0)), (sp ((TP Y48).sv x1)), (sp (TB.sv false))] (by kernel_rfl) (AOK.cons (fun ρ a w hs hz hΓ hp => gp (d_box hs.le (hΓ 0 rfl))) (AOK.cons (fun ρ a w hs hz hΓ hp => gp (d_box hs.le (hΓ 1 rfl))) (AOK.cons (fun ρ a w hs hz hΓ hp => gp (d_assign (vB _))) AOK.nil rfl) rfl) rfl) (fun vs1 => ?_)
  refine T.nil ?_
  refine T.norm ?_
  refine T.seq ?_
  refine T.seq ?_
  refine T.region mix 5 [5, 6, 7, 8, 9] [0, 1, 0, 4, 15] [(sp ((TP (TI .i8)).sv x0.1)), (sp ((TI .i8).sv x0.1)), (sp ((TP (TI .i8)).sv x1.1)), (sp ((TI .i8).sv x1.1)), (sp (TB.sv (decide (x0.1 ≠ x1.1))))] (by kernel_rfl) (AOK.cons (fun ρ a w hs hz hΓ hp => gp (d_fieldP fa54_0 (hΓ 2 rfl) (At.fst (At.refl _ _)))) (AOK.cons (fun ρ a w hs hz hΓ hp => gp (d_load y34 hs.le (hp 0 _ rfl rfl).1)) (AOK.cons (fun ρ a w hs hz hΓ hp => gp (d_fieldP fa54_0 (hΓ 3 rfl) (At.fst (At.refl _ _)))) (AOK.cons (fun ρ a w hs hz hΓ hp => gp (d_load y34 hs.le (hp 2 _ rfl rfl).1)) (AOK.cons (fun ρ a w hs hz hΓ hp => gp (d_neq (hp 1 _ rfl rfl).1 (hp 3 _ rfl rfl).1)) AOK.nil rfl) rfl) rfl) rfl) rfl) (fun vs2 => ?_)
  refine T.nil ?_
  refine T.norm ?_
  refine T.cond (b := (decide (x0.1 ≠ x1.1))) (fun _ _ h => h) (fun hc => ?_) (fun hc => ?_)
  · replace hF := iteT hF hc
    refine T.seq ?_
    refine T.region mix 1 [4] [0] [(sp (TB.sv false))] (by kernel_rfl) (AOK.cons (fun ρ a w hs hz hΓ hp => gp (d_assign (vB _))) AOK.nil rfl) (fun vs3 => ?_)
    refine T.nil ?_
    refine T.norm ?_
    refine T.ret ?_
    obtain rfl := Option.some.inj hF
    refine T.fin0 fun ρ a w st => ?_
    exact ⟨_, results_one rfl rfl, (st.env 4)⟩
  · replace hF := iteF hF hc
    refine T.skip ?_
    refine T.norm ?_
    refine T.seq ?_
    refine T.seq ?_
    obtain ⟨x14, e5, hF⟩ := bindS hF
    refine T.region mix 6 [10, 11, 12, 13, 14, 15] [0, 1, 0, 4, 15, 31] [(sp ((TP Y46).sv x0.2.1)), (sp (Y46.sv x0.2.1)), (sp ((TP Y46).sv x1.2.1)), (sp (Y46.sv x1.2.1)), (sp (TB.sv x14)), (sp (TB.sv (!x14)))] (by kernel_rfl) (AOK.cons (fun ρ a w hs hz hΓ hp => gp (d_fieldP fa54_1 (hΓ 2 rfl) (At.fst (At.snd (At.refl _ _))))) (AOK.cons (fun ρ a w hs hz hΓ hp => gp (d_load y52 hs.le (hp 0 _ rfl rfl).1)) (AOK.cons (fun ρ a w hs hz hΓ hp => gp (d_fieldP fa54_1 (hΓ 3 rfl) (At.fst (At.snd (At.refl _ _))))) (AOK.cons (fun ρ a w hs hz hΓ hp => gp (d_load y52 hs.le (hp 2 _ rfl rfl).1)) (AOK.cons (fun ρ a w hs hz hΓ hp => gp (d_call fn74 hs.le mapA2 (c74 w _ _ hs.le e5 ((hp 1 _ rfl rfl).1) ((hp 3 _ rfl rfl).1)))) (AOK.cons (fun ρ a w hs hz hΓ hp => gp (d_not (hp 4 _ rfl rfl).1)) AOK.nil rfl) rfl) rfl) rfl) rfl) rfl) (fun vs4 => ?_)
    refine T.nil ?_
    refine T.norm ?_
    refine T.cond (b := (!x14)) (fun _ _ h => h) (fun hc => ?_) (fun hc => ?_)
    · replace hF := iteT hF hc
      refine T.seq ?_
      refine T.region mix 1 [4] [0] [(sp (TB.sv false))] (by kernel_rfl) (AOK.cons (fun ρ a w hs hz hΓ hp => gp (d_assign (vB _))) AOK.nil rfl) (fun vs6 => ?_)
      refine T.nil ?_
      refine T.norm ?_
      refine T.ret ?_
      obtain rfl := Option.some.inj hF
      refine T.fin0 fun ρ a w st => ?_
      exact ⟨_, results_one rfl rfl, (st.env 4)⟩
    · replace hF := iteF hF hc
      refine T.skip ?_
      refine T.norm ?_
      refine T.seq ?_
      refine T.seq ?_
      refine T.region mix 5 [16, 17, 18, 19, 20] [0, 1, 0, 4, 15] [(sp ((TP (TI .i64)).sv x0.2.2.1)), (sp ((TI .i64).sv x0.2.2.1)), (sp ((TP (TI .i64)).sv x1.2.2.1)), (sp ((TI .i64).sv x1.2.2.1)), (sp (TB.sv (decide (x0.2.2.1 ≠ x1.2.2.1))))] (by kernel_rfl) (AOK.cons (fun ρ a w hs hz hΓ hp => gp (d_fieldP fa54_2 (hΓ 2 rfl) (At.fst (At.snd (At.snd (At.refl _ _)))))) (AOK.cons (fun ρ a w hs hz hΓ hp => gp (d_load y2 hs.le (hp 0 _ rfl rfl).1)) (AOK.cons (fun ρ a w hs hz hΓ hp => gp (d_fieldP fa54_2 (hΓ 3 rfl) (At.fst (At.snd (At.snd (At.refl _ _)))))) (AOK.cons (fun ρ a w hs hz hΓ hp => gp (d_load y2 hs.le (hp 2 _ rfl rfl).1)) (AOK.cons (fun ρ a w hs hz hΓ hp => gp (d_neq (hp 1 _ rfl rfl).1 (hp 3 _ rfl rfl).1)) AOK.nil rfl) rfl) rfl) rfl) rfl) (fun vs7 => ?_)
      refine T.nil ?_
      refine T.norm ?_
      refine T.cond (b := (decide (x0.2.2.1 ≠ x1.2.2.1))) (fun _ _ h => h) (fun hc => ?_) (fun hc => ?_)
      · replace hF := iteT hF hc
        refine T.seq ?_
        refine T.region mix 1 [4] [0] [(sp (TB.sv false))] (by kernel_rfl) (AOK.cons (fun ρ a w hs hz hΓ hp => gp (d_assign (vB _))) AOK.nil rfl) (fun vs8 => ?_)
        refine T.nil ?_
        refine T.norm ?_
        refine T.ret ?_
        obtain rfl := Option.some.inj hF
        refine T.fin0 fun ρ a w st => ?_
        exact ⟨_, results_one rfl rfl, (st.env 4)⟩
      · replace hF := iteF hF hc
        refine T.skip ?_
        refine T.norm ?_
        refine T.seq ?_
        refine T.seq ?_
        refine T.region mix 5 [21, 22, 23, 24, 25] [0, 1, 0, 4, 15] [(sp ((TP (TI .i64)).sv x0.2.2.2.1)), (sp ((TI .i64).sv x0.2.2.2.1)), (sp ((TP (TI .i64)).sv x1.2.2.2.1)), (sp ((TI .i64).sv x1.2.2.2.1)), (sp (TB.sv (decide (x0.2.2.2.1 ≠ x1.2.2.2.1))))] (by kernel_rfl) (AOK.cons (fun ρ a w hs hz hΓ hp => gp (d_fieldP fa54_3 (hΓ 2 rfl) (At.fst (At.snd (At.snd (At.snd (At.refl _ _))))))) (AOK.cons (fun ρ a w hs hz hΓ hp => gp (d_load y2 hs.le (hp 0 _ rfl rfl).1)) (AOK.cons (fun ρ a w hs hz hΓ hp => gp (d_fieldP fa54_3 (hΓ 3 rfl) (At.fst (At.snd (At.snd (At.snd (At.refl _ _))))))) (AOK.cons (fun ρ a w hs hz hΓ hp => gp (d_load y2 hs.le (hp 2 _ rfl rfl).1)) (AOK.cons (fun ρ a w hs hz hΓ hp => gp (d_neq (hp 1 _ rfl rfl).1 (hp 3 _ rfl rfl).1)) AOK.nil rfl) rfl) rfl) rfl) rfl) (fun vs9 => ?_)
        refine T.nil ?_
        refine T.norm ?_
        refine T.cond (b := (decide (x0.2.2.2.1 ≠ x1.2.2.2.1))) (fun _ _ h => h) (fun hc => ?_) (fun hc => ?_)
        · replace hF := iteT hF hc
          refine T.seq ?_
          refine T.region mix 1 [4] [0] [(sp (TB.sv false))] (by kernel_rfl) (AOK.cons (fun ρ a w hs hz hΓ hp => gp (d_assign (vB _))) AOK.nil rfl) (fun vs10 => ?_)
          refine T.nil ?_
          refine T.norm ?_
          refine T.ret ?_
          obtain rfl := Option.some.inj hF
          refine T.fin0 fun ρ a w st => ?_
          exact ⟨_, results_one rfl rfl, (st.env 4)⟩
        · replace hF := iteF hF hc
          refine T.skip ?_
          refine T.norm ?_
          refine T.seq ?_
          refine T.seq ?_
          obtain ⟨x28, e12, hF⟩ := bindS hF
          obtain ⟨x31, e13, hF⟩ := bindS hF
          obtain ⟨x32, e14, hF⟩ := bindS hF
          refine T.region mix 8 [26, 27, 28, 29, 30, 31, 32, 33] [0, 1, 3, 0, 8, 24, 63, 127] [(sp ((TP (TF .f32)).sv x0.2.2.2.2.1)), (sp ((TF .f32).sv x0.2.2.2.2.1)), (sp ((TF .f64).sv x28)), (sp ((TP (TF .f32)).sv x1.2.2.2.2.1)), (sp ((TF .f32).sv x1.2.2.2.2.1)), (sp ((TF .f64).sv x31)), (sp (TB.sv x32)), (sp (TB.sv (!x32)))] (by kernel_rfl) (AOK.cons (fun ρ a w hs hz hΓ hp => gp (d_fieldP fa54_4 (hΓ 2 rfl) (At.fst (At.snd (At.snd (At.snd (At.snd (At.refl _ _)))))))) (AOK.cons (fun ρ a w hs hz hΓ hp => gp (d_load y45 hs.le (hp 0 _ rfl rfl).1)) (AOK.cons (fun ρ a w hs hz hΓ hp => gp (d_fconv u45 u109 rfl (hp 1 _ rfl rfl).1 e12)) (AOK.cons (fun ρ a w hs hz hΓ hp => gp (d_fieldP fa54_4 (hΓ 3 rfl) (At.fst (At.snd (At.snd (At.snd (At.snd (At.refl _ _)))))))) (AOK.cons (fun ρ a w hs hz hΓ hp => gp (d_load y45 hs.le (hp 3 _ rfl rfl).1)) (AOK.cons (fun ρ a w hs hz hΓ hp => gp (d_fconv u45 u109 rfl (hp 4 _ rfl rfl).1 e13)) (AOK.cons (fun ρ a w hs hz hΓ hp => gp (d_call fn75 hs.le mapA2 (c75 w _ _ hs.le e14 ((hp 2 _ rfl rfl).1) ((hp 5 _ rfl rfl).1)))) (AOK.cons (fun ρ a w hs hz hΓ hp => gp (d_not (hp 6 _ rfl rfl).1)) AOK.nil rfl) rfl) rfl) rfl) rfl) rfl) rfl) rfl) (fun vs11 => ?_)
          refine T.nil ?_
          refine T.norm ?_
          refine T.cond (b := (!x32)) (fun _ _ h => h) (fun hc => ?_) (fun hc => ?_)
          · replace hF := iteT hF hc
            refine T.seq ?_
            refine T.region mix 1 [4] [0] [(sp (TB.sv false))] (by kernel_rfl) (AOK.cons (fun ρ a w hs hz hΓ hp => gp (d_assign (vB _))) AOK.nil rfl) (fun vs15 => ?_)
            refine T.nil ?_
            refine T.norm ?_
            refine T.ret ?_
            obtain rfl := Option.some.inj hF
            refine T.fin0 fun ρ a w st => ?_
            exact ⟨_, results_one rfl rfl, (st.env 4)⟩
          · replace hF := iteF hF hc
            refine T.skip ?_
            refine T.norm ?_
            refine T.seq ?_
            refine T.seq ?_
            obtain ⟨x38, e17, hF⟩ := bindS hF
            refine T.region mix 6 [34, 35, 36, 37, 38, 39] [0, 1, 0, 4, 15, 31] [(sp ((TP Y47).sv x0.2.2.2.2.2)), (sp (Y47.sv x0.2.2.2.2.2)), (sp ((TP Y47).sv x1.2.2.2.2.2)), (sp (Y47.sv x1.2.2.2.2.2)), (sp (TB.sv x38)), (sp (TB.sv (!x38)))] (by kernel_rfl) (AOK.cons (fun ρ a w hs hz hΓ hp => gp (d_fieldP fa54_5 (hΓ 2 rfl) (At.snd (At.snd (At.snd (At.snd (At.snd (At.refl _ _)))))))) (AOK.cons (fun ρ a w hs hz hΓ hp => gp (d_load y47 hs.le (hp 0 _ rfl rfl).1)) (AOK.cons (fun ρ a w hs hz hΓ hp => gp (d_fieldP fa54_5 (hΓ 3 rfl) (At.snd (At.snd (At.snd (At.snd (At.snd (At.refl _ _)))))))) (AOK.cons (fun ρ a w hs hz hΓ hp => gp (d_load y47 hs.le (hp 2 _ rfl rfl).1)) (AOK.cons (fun ρ a w hs hz hΓ hp => gp (d_call fn76 hs.le mapA2 (c76 w _ _ hs.le e17 ((hp 1 _ rfl rfl).1) ((hp 3 _ rfl rfl).1)))) (AOK.cons (fun ρ a w hs hz hΓ hp => gp (d_not (hp 4 _ rfl rfl).1)) AOK.nil rfl) rfl) rfl) rfl) rfl) rfl) (fun vs16 => ?_)
            refine T.nil ?_
            refine T.norm ?_
            refine T.cond (b := (!x38)) (fun _ _ h => h) (fun hc => ?_) (fun hc => ?_)
            · replace hF := iteT hF hc
              refine T.seq ?_
              refine T.region mix 1 [4] [0] [(sp (TB.sv false))] (by kernel_rfl) (AOK.cons (fun ρ a w hs hz hΓ hp => gp (d_assign (vB _))) AOK.nil rfl) (fun vs18 => ?_)
              refine T.nil ?_
              refine T.norm ?_
              refine T.ret ?_
              obtain rfl := Option.some.inj hF
              refine T.fin0 fun ρ a w st => ?_
              exact ⟨_, results_one rfl rfl, (st.env 4)⟩
            · replace hF := iteF hF hc
              refine T.skip ?_
              refine T.norm ?_
              refine T.seq ?_
              refine T.region mix 1 [4] [0] [(sp (TB.sv true))] (by kernel_rfl) (AOK.cons (fun ρ a w hs hz hΓ hp => gp (d_assign (vB _))) AOK.nil rfl) (fun vs19 => ?_)
              refine T.nil ?_
              refine T.norm ?_
              refine T.ret ?_
              obtain rfl := Option.some.inj hF
              refine T.fin0 fun ρ a w st => ?_
              exact ⟨_, results_one rfl rfl, (st.env 4)⟩

theorem c8 (w : World) (v0 v1 : Value) {σ : Heap} (hσ : σ.le (snap w)) {x0 : (Int × (List Nat) × Int × Int × Nat × (List Int))} {x1 : (Int × (List Nat) × Int × Int × Nat × (List Int))} {r : Bool} (hF : laws_FnExactSameClaim x0 x1 = some r) (h0 : Y48.val σ v0 x0) (h1 : Y48.val σ v1 x1) :
    Calls Try.prog 8 #[v0, v1] w (Ret [] w σ (TB.sv r) []) := by
  unfold laws_FnExactSameClaim at hF
  refine start (args := [v0, v1]) Try.func8 rfl 45 rfl [] [(0, (Y48.sv x0)), (1, (Y48.sv x1))] [] (sat_start _ hσ) rfl (args1 rfl h0 (args1 rfl h1 (args0))) ?_
  refine T.seq ?_
  refine T.region mix 3 [2, 3, 4] [0, 0, 0] [(sp ((TP Y48).sv x0)), (sp ((TP Y48).sv x1)), (sp (TB.sv false))] (by kernel_rfl) (AOK.cons (fun ρ a w hs hz hΓ hp => gp (d_box hs.le (hΓ 0 rfl))) (AOK.cons (fun ρ a w hs hz hΓ hp => gp (d_box hs.le (hΓ 1 rfl))) (AOK.cons (fun ρ a w hs hz hΓ hp => gp (d_assign (vB _))) AOK.nil rfl) rfl) rfl) (fun vs1 => ?_)
  refine T.nil ?_
  refine T.norm ?_
  refine T.seq ?_
  refine T.region mix 1 [5] [0] [(sp ((TI .i64).sv 1048576))] (by kernel_rfl) (AOK.cons (fun ρ a w hs hz hΓ hp => gp (d_assign (vI rfl))) AOK.nil rfl) (fun vs2 => ?_)
  refine T.nil ?_
  refine T.norm ?_
  refine T.seq ?_
  obtain ⟨x12, e4, hF⟩ := bindS hF
  refine T.region mix 4 [10, 11, 12, 5] [0, 0, 3, 7] [(sp (Y48.sv x0)), (sp ((TI .i64).sv 1048576)), (sp ((TI .i64).sv x12)), (sp ((TI .i64).sv x12))] (by kernel_rfl) (AOK.cons (fun ρ a w hs hz hΓ hp => gp (d_load y49 hs.le (hΓ 2 rfl))) (AOK.cons (fun ρ a w hs hz hΓ hp => gp (d_move (hΓ 5 rfl))) (AOK.cons (fun ρ a w hs hz hΓ hp => gp (d_call fn28 hs.le mapA2 (c28 w _ _ hs.le e4 ((hp 0 _ rfl rfl).1) ((hp 1 _ rfl rfl).1)))) (AOK.cons (fun ρ a w hs hz hΓ hp => gp (d_assign (hp 2 _ rfl rfl).1)) AOK.nil rfl) rfl) rfl) rfl) (fun vs3 => ?_)
  refine T.nil ?_
  refine T.norm ?_
  refine T.seq ?_
  refine T.seq ?_
  refine T.region mix 2 [13, 14] [0, 1] [(sp ((TI .i64).sv x12)), (sp (TB.sv (decide (x12 < 0))))] (by kernel_rfl) (AOK.cons (fun ρ a w hs hz hΓ hp => gp (d_move (hΓ 5 rfl))) (AOK.cons (fun ρ a w hs hz hΓ hp => gp (d_lss (hp 0 _ rfl rfl).1 (vI rfl))) AOK.nil rfl) rfl) (fun vs5 => ?_)
  refine T.nil ?_
  refine T.norm ?_
  refine T.cond (b := (decide (x12 < 0))) (fun _ _ h => h) (fun hc => ?_) (fun hc => ?_)
  · replace hF := iteT hF hc
    refine T.seq ?_
    refine T.region mix 1 [4] [0] [(sp (TB.sv true))] (by kernel_rfl) (AOK.cons (fun ρ a w hs hz hΓ hp => gp (d_assign (vB _))) AOK.nil rfl) (fun vs6 => ?_)
    refine T.nil ?_
    refine T.norm ?_
    refine T.ret ?_
    obtain rfl := Option.some.inj hF
    refine T.fin0 fun ρ a w st => ?_
    exact ⟨_, results_one rfl rfl, (st.env 4)⟩
  · replace hF := iteF hF hc
    refine T.skip ?_
    refine T.norm ?_
    refine T.seq ?_
    obtain ⟨x17, e8, hF⟩ := bindS hF
    refine T.region mix 4 [15, 16, 17, 5] [0, 0, 3, 7] [(sp (Y48.sv x1)), (sp ((TI .i64).sv x12)), (sp ((TI .i64).sv x17)), (sp ((TI .i64).sv x17))] (by kernel_rfl) (AOK.cons (fun ρ a w hs hz hΓ hp => gp (d_load y49 hs.le (hΓ 3 rfl))) (AOK.cons (fun ρ a w hs hz hΓ hp => gp (d_move (hΓ 5 rfl))) (AOK.cons (fun ρ a w hs hz hΓ hp => gp (d_call fn28 hs.le mapA2 (c28 w _ _ hs.le e8 ((hp 0 _ rfl rfl).1) ((hp 1 _ rfl rfl).1)))) (AOK.cons (fun ρ a w hs hz hΓ hp => gp (d_assign (hp 2 _ rfl rfl).1)) AOK.nil rfl) rfl) rfl) rfl) (fun vs7 => ?_)
    refine T.nil ?_
    refine T.norm ?_
    refine T.seq ?_
    refine T.seq ?_
    refine T.region mix 2 [18, 19] [0, 1] [(sp ((TI .i64).sv x17)), (sp (TB.sv (decide (x17 < 0))))] (by kernel_rfl) (AOK.cons (fun ρ a w hs hz hΓ hp => gp (d_move (hΓ 5 rfl))) (AOK.cons (fun ρ a w hs hz hΓ hp => gp (d_lss (hp 0 _ rfl rfl).1 (vI rfl))) AOK.nil rfl) rfl) (fun vs9 => ?_)
    refine T.nil ?_
    refine T.norm ?_
    refine T.cond (b := (decide (x17 < 0))) (fun _ _ h => h) (fun hc => ?_) (fun hc => ?_)
    · replace hF := iteT hF hc
      refine T.seq ?_
      refine T.region mix 1 [4] [0] [(sp (TB.sv true))] (by kernel_rfl) (AOK.cons (fun ρ a w hs hz hΓ hp => gp (d_assign (vB _))) AOK.nil rfl) (fun vs10 => ?_)
      refine T.nil ?_
      refine T.norm ?_
      refine T.ret ?_
      obtain rfl := Option.some.inj hF
      refine T.fin0 fun ρ a w st => ?_
      exact ⟨_, results_one rfl rfl, (st.env 4)⟩
    · replace hF := iteF hF hc
      refine T.skip ?_
      refine T.norm ?_
      refine T.seq ?_
      obtain ⟨x21, e12, hF⟩ := bindS hF
      obtain ⟨x23, e13, hF⟩ := bindS hF
      obtain ⟨x24, e14, hF⟩ := bindS hF
      refine T.region mix 6 [20, 21, 22, 23, 24, 6] [0, 1, 0, 7, 15, 31] [(sp (Y48.sv x0)), (sp (Y48.sv x21)), (sp (Y48.sv x1)), (sp (Y48.sv x23)), (sp (TB.sv x24)), (sp (TB.sv x24))] (by kernel_rfl) (AOK.cons (fun ρ a w hs hz hΓ hp => gp (d_load y49 hs.le (hΓ 2 rfl))) (AOK.cons (fun ρ a w hs hz hΓ hp => gp (d_call fn30 hs.le mapA1 (c30 w _ hs.le e12 ((hp 0 _ rfl rfl).1)))) (AOK.cons (fun ρ a w hs hz hΓ hp => gp (d_load y49 hs.le (hΓ 3 rfl))) (AOK.cons (fun ρ a w hs hz hΓ hp => gp (d_call fn30 hs.le mapA1 (c30 w _ hs.le e13 ((hp 2 _ rfl rfl).1)))) (AOK.cons (fun ρ a w hs hz hΓ hp => gp (d_call fn29 hs.le mapA2 (c29 w _ _ hs.le e14 ((hp 1 _ rfl rfl).1) ((hp 3 _ rfl rfl).1)))) (AOK.cons (fun ρ a w hs hz hΓ hp => gp (d_assign (hp 4 _ rfl rfl).1)) AOK.nil rfl) rfl) rfl) rfl) rfl) rfl) (fun vs11 => ?_)
      refine T.nil ?_
      refine T.norm ?_
      refine T.seq ?_
      obtain ⟨x26, e16, hF⟩ := bindS hF
      refine T.region mix 3 [25, 26, 7] [0, 1, 0, 7] [(sp (Y48.sv x0)), (sp (Y48.sv x26)), (sO SRel.any [(1, (boxR 54 Y48 (0, (List.replicate 3 0), 0, 0, 0, [])))])] (by kernel_rfl) (AOK.cons (fun ρ a w hs hz hΓ hp => gp (d_load y49 hs.le (hΓ 2 rfl))) (AOK.cons (fun ρ a w hs hz hΓ hp => gp (d_call fn30 hs.le mapA1 (c30 w _ hs.le e16 ((hp 0 _ rfl rfl).1)))) (AOK.cons (fun ρ a w hs hz hΓ hp => g_alloc hs.le z54 zc54) AOK.nil rfl) rfl) rfl) (fun vs15 => ?_)
      refine T.store 1 y54 rfl (fun ρ a w st => ⟨.inl ⟨(st.env 7).1, rfl⟩, (st.env 26)⟩) (At.refl Y48 (0, (List.replicate 3 0), 0, 0, 0, [])) ?_
      refine T.nil ?_
      refine T.norm ?_
      refine T.seq ?_
      obtain ⟨x28, e18, hF⟩ := bindS hF
      refine T.region mix 3 [27, 28, 8] [0, 1, 0, 7] [(sp (Y48.sv x1)), (sp (Y48.sv x28)), (sO SRel.any [(2, (boxR 54 Y48 (0, (List.replicate 3 0), 0, 0, 0, [])))])] (by kernel_rfl) (AOK.cons (fun ρ a w hs hz hΓ hp => gp (d_load y49 hs.le (hΓ 3 rfl))) (AOK.cons (fun ρ a w hs hz hΓ hp => gp (d_call fn30 hs.le mapA1 (c30 w _ hs.le e18 ((hp 0 _ rfl rfl).1)))) (AOK.cons (fun ρ a w hs hz hΓ hp => g_alloc hs.le z54 zc54) AOK.nil rfl) rfl) rfl) (fun vs17 => ?_)
      refine T.store 2 y54 rfl (fun ρ a w st => ⟨.inl ⟨(st.env 8).1, rfl⟩, (st.env 28)⟩) (At.refl Y48 (0, (List.replicate 3 0), 0, 0, 0, [])) ?_
      refine T.nil ?_
      refine T.norm ?_
      refine T.seq ?_
      obtain ⟨x31, e20, hF⟩ := bindS hF
      refine T.region mix 4 [29, 30, 31, 9] [0, 0, 3, 7] [(sp (Y48.sv x26)), (sp (Y48.sv x28)), (sp (TB.sv x31)), (sp (TB.sv x31))] (by kernel_rfl) (AOK.cons (fun ρ a w hs hz hΓ hp => gp (d_loadO y54 hs 1 rfl (.inl ⟨(hΓ 7 rfl).1, rfl⟩) (At.refl Y48 x26))) (AOK.cons (fun ρ a w hs hz hΓ hp => gp (d_loadO y54 hs 2 rfl (.inl ⟨(hΓ 8 rfl).1, rfl⟩) (At.refl Y48 x28))) (AOK.cons (fun ρ a w hs hz hΓ hp => gp (d_call fn31 hs.le mapA2 (c31 w _ _ hs.le e20 ((hp 0 _ rfl rfl).1) ((hp 1 _ rfl rfl).1)))) (AOK.cons (fun ρ a w hs hz hΓ hp => gp (d_assign (hp 2 _ rfl rfl).1)) AOK.nil rfl) rfl) rfl) rfl) (fun vs19 => ?_)
      refine T.nil ?_
      refine T.norm ?_
      refine T.seq ?_
      refine T.seq ?_
      refine T.region mix 3 [32, 33, 34] [0, 0, 3] [(sp (TB.sv x31)), (sp (TB.sv x24)), (sp (TB.sv (x31 != x24)))] (by kernel_rfl) (AOK.cons (fun ρ a w hs hz hΓ hp => gp (d_move (hΓ 9 rfl))) (AOK.cons (fun ρ a w hs hz hΓ hp => gp (d_move (hΓ 6 rfl))) (AOK.cons (fun ρ a w hs hz hΓ hp => gp (d_neqB u4 (hp 0 _ rfl rfl).1 (hp 1 _ rfl rfl).1)) AOK.nil rfl) rfl) rfl) (fun vs21 => ?_)
      refine T.nil ?_
      refine T.norm ?_
      refine T.cond (b := (x31 != x24)) (fun _ _ h => h) (fun hc => ?_) (fun hc => ?_)
      · replace hF := iteT hF hc
        refine T.seq ?_
        refine T.region mix 1 [4] [0] [(sp (TB.sv false))] (by kernel_rfl) (AOK.cons (fun ρ a w hs hz hΓ hp => gp (d_assign (vB _))) AOK.nil rfl) (fun vs22 => ?_)
        refine T.nil ?_
        refine T.norm ?_
        refine T.ret ?_
        obtain rfl := Option.some.inj hF
        refine T.fin0 fun ρ a w st => ?_
        exact ⟨_, results_one rfl rfl, (st.env 4)⟩
      · replace hF := iteF hF hc
        refine T.skip ?_
        refine T.norm ?_
        refine T.seq ?_
        refine T.seq ?_
        obtain ⟨x37, e24, hF⟩ := bindS hF
        obtain ⟨x38, e25, hF⟩ := bindS hF
        refine T.region mix 5 [35, 36, 37, 38, 39] [0, 0, 2, 7, 15] [(sp (Y48.sv x26)), (sp (Y48.sv x0)), (sp (Y48.sv x37)), (sp (TB.sv x38)), (sp (TB.sv (!x38)))] (by kernel_rfl) (AOK.cons (fun ρ a w hs hz hΓ hp => gp (d_loadO y54 hs 1 rfl (.inl ⟨(hΓ 7 rfl).1, rfl⟩) (At.refl Y48 x26))) (AOK.cons (fun ρ a w hs hz hΓ hp => gp (d_load y49 hs.le (hΓ 2 rfl))) (AOK.cons (fun ρ a w hs hz hΓ hp => gp (d_call fn30 hs.le mapA1 (c30 w _ hs.le e24 ((hp 1 _ rfl rfl).1)))) (AOK.cons (fun ρ a w hs hz hΓ hp => gp (d_call fn32 hs.le mapA2 (c32 w _ _ hs.le e25 ((hp 0 _ rfl rfl).1) ((hp 2 _ rfl rfl).1)))) (AOK.cons (fun ρ a w hs hz hΓ hp => gp (d_not (hp 3 _ rfl rfl).1)) AOK.nil rfl) rfl) rfl) rfl) rfl) (fun vs23 => ?_)
        refine T.nil ?_
        refine T.norm ?_
        refine T.cond (b := (!x38)) (fun _ _ h => h) (fun hc => ?_) (fun hc => ?_)
        · replace hF := iteT hF hc
          refine T.seq ?_
          refine T.region mix 1 [4] [0] [(sp (TB.sv false))] (by kernel_rfl) (AOK.cons (fun ρ a w hs hz hΓ hp => gp (d_assign (vB _))) AOK.nil rfl) (fun vs26 => ?_)
          refine T.nil ?_
          refine T.norm ?_
          refine T.ret ?_
          obtain rfl := Option.some.inj hF
          refine T.fin0 fun ρ a w st => ?_
          exact ⟨_, results_one rfl rfl, (st.env 4)⟩
        · replace hF := iteF hF hc
          refine T.skip ?_
          refine T.norm ?_
          refine T.seq ?_
          refine T.seq ?_
          obtain ⟨x42, e28, hF⟩ := bindS hF
          obtain ⟨x43, e29, hF⟩ := bindS hF
          refine T.region mix 5 [40, 41, 42, 43, 44] [0, 0, 2, 7, 15] [(sp (Y48.sv x28)), (sp (Y48.sv x1)), (sp (Y48.sv x42)), (sp (TB.sv x43)), (sp (TB.sv (!x43)))] (by kernel_rfl) (AOK.cons (fun ρ a w hs hz hΓ hp => gp (d_loadO y54 hs 2 rfl (.inl ⟨(hΓ 8 rfl).1, rfl⟩) (At.refl Y48 x28))) (AOK.cons (fun ρ a w hs hz hΓ hp => gp (d_load y49 hs.le (hΓ 3 rfl))) (AOK.cons (fun ρ a w hs hz hΓ hp => gp (d_call fn30 hs.le mapA1 (c30 w _ hs.le e28 ((hp 1 _ rfl rfl).1)))) (AOK.cons (fun ρ a w hs hz hΓ hp => gp (d_call fn32 hs.le mapA2 (c32 w _ _ hs.le e29 ((hp 0 _ rfl rfl).1) ((hp 2 _ rfl rfl).1)))) (AOK.cons (fun ρ a w hs hz hΓ hp => gp (d_not (hp 3 _ rfl rfl).1)) AOK.nil rfl) rfl) rfl) rfl) rfl) (fun vs27 => ?_)
          refine T.nil ?_
          refine T.norm ?_
          refine T.cond (b := (!x43)) (fun _ _ h => h) (fun hc => ?_) (fun hc => ?_)
          · replace hF := iteT hF hc
            refine T.seq ?_
            refine T.region mix 1 [4] [0] [(sp (TB.sv false))] (by kernel_rfl) (AOK.cons (fun ρ a w hs hz hΓ hp => gp (d_assign (vB _))) AOK.nil rfl) (fun vs30 => ?_)
            refine T.nil ?_
            refine T.norm ?_
            refine T.ret ?_
            obtain rfl := Option.some.inj hF
            refine T.fin0 fun ρ a w st => ?_
            exact ⟨_, results_one rfl rfl, (st.env 4)⟩
          · replace hF := iteF hF hc
            refine T.skip ?_
            refine T.norm ?_
            refine T.seq ?_
            refine T.region mix 1 [4] [0] [(sp (TB.sv true))] (by kernel_rfl) (AOK.cons (fun ρ a w hs hz hΓ hp => gp (d_assign (vB _))) AOK.nil rfl) (fun vs31 => ?_)
            refine T.nil ?_
            refine T.norm ?_
            refine T.ret ?_
            obtain rfl := Option.some.inj hF
            refine T.fin0 fun ρ a w st => ?_
            exact ⟨_, results_one rfl rfl, (st.env 4)⟩
end Go.Proofs.Ytnpkhhfpgedkoaa
