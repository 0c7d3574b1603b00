/-
  The walks: each function comes to what its plain function says.
-/
import Derived.Test.YtnpkhhfpgedkoaaFactsB
import Derived.Test.YtnpkhhfpgedkoaaFB
import Derived.Test.YtnpkhhfpgedkoaaCA
set_option linter.unusedVariables false
set_option maxHeartbeats 1600000
set_option maxRecDepth 100000
namespace Go.Proofs.Ytnpkhhfpgedkoaa
open Go
theorem c48 (w : World) (v0 v1 : Value) {σ : Heap} (hσ : σ.le (snap w)) {x0 : (List ((List Int) × (List Int) × Int))} {x1 : Int} {r : Int} (hF : laws_szStrokeS x0 x1 = some r) (h0 : Y77.val σ v0 x0) (h1 : (TI .i64).val σ v1 x1) :
    Calls Try.prog 48 #[v0, v1] w (Ret [] w σ ((TI .i64).sv r) []) := by
  unfold laws_szStrokeS at hF
  refine start (args := [v0, v1]) Try.func48 rfl 12 rfl [] [(0, (Y77.sv x0)), (1, ((TI .i64).sv x1))] [] (sat_start _ hσ) rfl (args1 rfl h0 (args1 rfl h1 (args0))) ?_
  refine T.seq ?_
  refine T.region mix 1 [4] [0] [(sp ((TI .i64).sv 0))] (by kernel_rfl) (AOK.cons (fun ρ a w hs hz hΓ hp => gp (d_assign (vI rfl))) AOK.nil rfl) (fun vs1 => ?_)
  refine T.nil ?_
  refine T.norm ?_
  refine T.seq ?_
  refine T.region mix 5 [5, 6, 7, 8, 1] [0, 0, 2, 7, 15] [(sp ((TI .i64).sv x1)), (sp (Y77.sv x0)), (sp ((TI .i64).sv (x0.length : Int))), (sp ((TI .i64).sv (IntKind.i64.wrap (x1 - (x0.length : Int))))), (sp ((TI .i64).sv (IntKind.i64.wrap (x1 - (x0.length : Int)))))] (by kernel_rfl) (AOK.cons (fun ρ a w hs hz hΓ hp => gp (d_move (hΓ 1 rfl))) (AOK.cons (fun ρ a w hs hz hΓ hp => gp (d_move (hΓ 0 rfl))) (AOK.cons (fun ρ a w hs hz hΓ hp => gp (d_lenR u77 (hp 1 _ rfl rfl).1)) (AOK.cons (fun ρ a w hs hz hΓ hp => gp (d_sub (hp 0 _ rfl rfl).1 (hp 2 _ rfl rfl).1)) (AOK.cons (fun ρ a w hs hz hΓ hp => gp (d_assign (hp 3 _ rfl rfl).1)) AOK.nil rfl) rfl) rfl) rfl) rfl) (fun vs2 => ?_)
  refine T.nil ?_
  refine T.norm ?_
  refine T.seq ?_
  refine T.seq ?_
  refine T.region mix 2 [9, 10] [0, 1] [(sp ((TI .i64).sv (IntKind.i64.wrap (x1 - (x0.length : Int))))), (sp (TB.sv (decide ((IntKind.i64.wrap (x1 - (x0.length : Int))) < 0))))] (by kernel_rfl) (AOK.cons (fun ρ a w hs hz hΓ hp => gp (d_move (hΓ 1 rfl))) (AOK.cons (fun ρ a w hs hz hΓ hp => gp (d_lss (hp 0 _ rfl rfl).1 (vI rfl))) AOK.nil rfl) rfl) (fun vs3 => ?_)
  refine T.nil ?_
  refine T.norm ?_
  refine T.cond (b := (decide ((IntKind.i64.wrap (x1 - (x0.length : Int))) < 0))) (fun _ _ h => h) (fun hc => ?_) (fun hc => ?_)
  · replace hF := iteT hF hc
    refine T.seq ?_
    refine T.region mix 1 [4] [0] [(sp ((TI .i64).sv (-1)))] (by kernel_rfl) (AOK.cons (fun ρ a w hs hz hΓ hp => gp (d_assign (vI rfl))) AOK.nil rfl) (fun vs4 => ?_)
    refine T.nil ?_
    refine T.norm ?_
    refine T.ret ?_
    obtain rfl := Option.some.inj hF
    refine T.fin0 fun ρ a w st => ?_
    exact ⟨_, results_one rfl rfl, (st.env 4)⟩
  · replace hF := iteF hF hc
    refine T.skip ?_
    refine T.norm ?_
    refine T.seq ?_
    refine T.region mix 2 [11, 4] [0, 1] [(sp ((TI .i64).sv (IntKind.i64.wrap (x1 - (x0.length : Int))))), (sp ((TI .i64).sv (IntKind.i64.wrap (x1 - (x0.length : Int)))))] (by kernel_rfl) (AOK.cons (fun ρ a w hs hz hΓ hp => gp (d_move (hΓ 1 rfl))) (AOK.cons (fun ρ a w hs hz hΓ hp => gp (d_assign (hp 0 _ rfl rfl).1)) AOK.nil rfl) rfl) (fun vs5 => ?_)
    refine T.nil ?_
    refine T.norm ?_
    refine T.ret ?_
    obtain rfl := Option.some.inj hF
    refine T.fin0 fun ρ a w st => ?_
    exact ⟨_, results_one rfl rfl, (st.env 4)⟩

theorem c50 (w : World) (v0 : Value) {σ : Heap} (hσ : σ.le (snap w)) {x0 : (List ((List Int) × (List Int) × Int))} {r : (List ((List Int) × (List Int) × Int))} (hF : laws_toStrokeS x0 = some r) (h0 : Y77.val σ v0 x0) :
    Calls Try.prog 50 #[v0] w (Ret [] w σ SRel.any [slR 40 Y36 r]) := by
  unfold laws_toStrokeS at hF
  refine start (args := [v0]) Try.func50 rfl 23 rfl [] [(0, (Y77.sv x0))] [] (sat_start _ hσ) rfl (args1 rfl h0 (args0)) ?_
  refine T.seq ?_
  refine T.region mix 1 [2] [0] [(sO SRel.any [(1, (slR 40 Y36 []))])] (by kernel_rfl) (AOK.cons (fun ρ a w hs hz hΓ hp => g_nilSl) AOK.nil rfl) (fun vs1 => ?_)
  refine T.nil ?_
  refine T.norm ?_
  refine T.seq ?_
  obtain ⟨_u7, e3, hF⟩ := bindS hF
  refine T.region mix 4 [5, 6, 7, 3] [0, 1, 3, 7] [(sp (Y77.sv x0)), (sp ((TI .i64).sv (x0.length : Int))), (sO SRel.any [(2, (slR 40 Y36 (List.replicate (x0.length : Int).toNat ((List.replicate 2 0), (List.replicate 2 0), 0))))]), (al 2 (id))] (by kernel_rfl) (AOK.cons (fun ρ a w hs hz hΓ hp => gp (d_move (hΓ 0 rfl))) (AOK.cons (fun ρ a w hs hz hΓ hp => gp (d_lenR u77 (hp 0 _ rfl rfl).1)) (AOK.cons (fun ρ a w hs hz hΓ hp => g_makeSl hs.le u83 i40 rfl zc40 (hp 1 _ rfl rfl).1 (hp 1 _ rfl rfl).1 (need_get e3)) (AOK.cons (fun ρ a w hs hz hΓ hp => al_assign rfl) AOK.nil rfl) rfl) rfl) rfl) (fun vs2 => ?_)
  refine T.nil ?_
  refine T.norm ?_
  refine T.seq ?_
  refine T.seq ?_
  refine T.region mix 1 [4] [0] [(sp ((TI .i64).sv 0))] (by kernel_rfl) (AOK.cons (fun ρ a w hs hz hΓ hp => gp (d_assign (vI rfl))) AOK.nil rfl) (fun vs4 => ?_)
  refine T.nil ?_
  refine T.norm ?_
  obtain ⟨yl5, e6, hF⟩ := bindS hF
  refine T.joinD (ι := (Int × (List ((List Int) × (List Int) × Int))) × (Unit)) (fun p => yl5 = p.1) (Γ' := fun p => E [(3, (SRel.eq (vs2 2)))]) (H' := fun p => HL [(2, (slR 40 Y36 p.1.2 (vs2 2)))]) (fun p hy => ?_) (fun hk => ?_)
  · obtain ⟨⟨o4, or2⟩, _⟩ := p
    cases hy
    refine T.norm ?_
    refine T.seq ?_
    refine T.region mix 2 [22, 2] [0, 1] [(sp (SRel.eq (vs2 2))), (sp (SRel.eq (vs2 2)))] (by kernel_rfl) (AOK.cons (fun ρ a w hs hz hΓ hp => gp (d_move (hΓ 3 rfl))) (AOK.cons (fun ρ a w hs hz hΓ hp => gp (d_assign (hp 0 _ rfl rfl).1)) AOK.nil rfl) rfl) (fun vs7 => ?_)
    refine T.nil ?_
    refine T.norm ?_
    refine T.ret ?_
    obtain rfl := Option.some.inj hF
    refine T.fin fun ρ a w st => ?_
    exact ⟨_, results_one rfl rfl, trivial, own1 (own_at (id := 2) (st.env 2) rfl), List.pairwise_singleton _ _⟩
  · skip
    refine T.block ?_
    refine T.loop (f := laws_toStrokeS_l1 x0) (σ := (Int × (List ((List Int) × (List Int) × Int)))) (Z := Unit) (fun s z => E [(0, (Y77.sv x0)), (3, (SRel.eq (vs2 2))), (4, ((TI .i64).sv s.1))]) (fun s z => HL [(2, (slR 40 Y36 s.2 (vs2 2)))]) e6 () (fun φ h => T.toh h ⟨fun _ _ h => h, fun _ _ h => h, fun _ _ h => h, trivial⟩ ⟨rfl, trivial⟩) (fun k s z uu5 hu5 hn5 => ?_)
    obtain ⟨s4, sr2⟩ := s
    dsimp only [laws_toStrokeS_l1] at hu5
    refine T.seq ?_
    refine T.seq ?_
    refine T.region mix 4 [8, 9, 10, 11] [0, 0, 2, 7] [(sp ((TI .i64).sv s4)), (sp (Y77.sv x0)), (sp ((TI .i64).sv (x0.length : Int))), (sp (TB.sv (decide (s4 < (x0.length : Int)))))] (by kernel_rfl) (AOK.cons (fun ρ a w hs hz hΓ hp => gp (d_move (hΓ 4 rfl))) (AOK.cons (fun ρ a w hs hz hΓ hp => gp (d_move (hΓ 0 rfl))) (AOK.cons (fun ρ a w hs hz hΓ hp => gp (d_lenR u77 (hp 1 _ rfl rfl).1)) (AOK.cons (fun ρ a w hs hz hΓ hp => gp (d_lss (hp 0 _ rfl rfl).1 (hp 2 _ rfl rfl).1)) AOK.nil rfl) rfl) rfl) rfl) (fun vs8 => ?_)
    refine T.nil ?_
    refine T.norm ?_
    refine T.cond (b := (decide (s4 < (x0.length : Int)))) (fun _ _ h => h) (fun hc => ?_) (fun hc => ?_)
    · replace hu5 := iteT hu5 hc
      refine T.skip ?_
      refine T.norm ?_
      refine T.seq ?_
      refine T.block ?_
      obtain ⟨x18, e10, hu5⟩ := bindS hu5
      obtain ⟨x20, e11, hu5⟩ := bindS hu5
      obtain ⟨x21, e12, hu5⟩ := bindS hu5
      refine T.region mix 8 [14, 15, 16, 17, 18, 19, 20, 21] [0, 0, 0, 0, 12, 28, 60, 127, 255] [(sp (SRel.eq (vs2 2))), (sp ((TI .i64).sv s4)), (sp (Y77.sv x0)), (sp ((TI .i64).sv s4)), (sp ((TP Y36).sv x18)), (sp (Y36.sv x18)), (sp (Y36.sv x20)), (sp (SRel.eq (at_ (vs2 2) (s4.toNat * Y36.n + 0))))] (by kernel_rfl) (AOK.cons (fun ρ a w hs hz hΓ hp => gp (d_move (hΓ 3 rfl))) (AOK.cons (fun ρ a w hs hz hΓ hp => gp (d_move (hΓ 4 rfl))) (AOK.cons (fun ρ a w hs hz hΓ hp => gp (d_move (hΓ 0 rfl))) (AOK.cons (fun ρ a w hs hz hΓ hp => gp (d_move (hΓ 4 rfl))) (AOK.cons (fun ρ a w hs hz hΓ hp => gp (d_idxR u77 y37 (hp 2 _ rfl rfl).1 (hp 3 _ rfl rfl).1 e10)) (AOK.cons (fun ρ a w hs hz hΓ hp => gp (d_load y37 hs.le (hp 4 _ rfl rfl).1)) (AOK.cons (fun ρ a w hs hz hΓ hp => gp (d_call fn24 hs.le mapA1 (c24 w _ hs.le e11 ((hp 5 _ rfl rfl).1)))) (AOK.cons (fun ρ a w hs hz hΓ hp => gp (d_idxS u83 y40 hs 2 rfl (hp 0 _ rfl rfl).1 (hp 1 _ rfl rfl).1 e12)) AOK.nil rfl) rfl) rfl) rfl) rfl) rfl) rfl) rfl) (fun vs9 => ?_)
      refine T.storeS 2 y40 rfl (idx_get e12).2 (fun ρ a w st => ⟨(st.env 21), (st.env 20)⟩) (At.refl Y36 x21) ?_
      refine T.nil ?_
      refine T.fallX ?_
      refine T.norm ?_
      refine T.region mix 3 [12, 13, 4] [0, 1, 3] [(sp ((TI .i64).sv s4)), (sp ((TI .i64).sv (IntKind.i64.wrap (s4 + 1)))), (sp ((TI .i64).sv (IntKind.i64.wrap (s4 + 1))))] (by kernel_rfl) (AOK.cons (fun ρ a w hs hz hΓ hp => gp (d_move (hΓ 4 rfl))) (AOK.cons (fun ρ a w hs hz hΓ hp => gp (d_add (hp 0 _ rfl rfl).1 (vI rfl))) (AOK.cons (fun ρ a w hs hz hΓ hp => gp (d_assign (hp 1 _ rfl rfl).1)) AOK.nil rfl) rfl) rfl) (fun vs13 => ?_)
      refine T.nil ?_
      obtain rfl := Option.some.inj hu5
      exact T.again hn5 () (fun φ h => T.toh h ⟨fun _ _ h => h, fun _ _ h => h, fun _ _ h => h, trivial⟩ ⟨rfl, trivial⟩)
    · replace hu5 := iteF hu5 hc
      refine T.exit ?_
      obtain rfl := Option.some.inj hu5
      repeat (first | refine T.passX ?_ | refine T.inX (by decide) ?_)
      refine T.hereX ?_
      exact T.toh (hk ((s4, sr2), ()) (Eq.symm hn5)) ⟨fun _ _ h => h, trivial⟩ ⟨rfl, trivial⟩

theorem c95 (w : World) (v0 : Value) {σ : Heap} (hσ : σ.le (snap w)) {x0 : (List ((List Int) × (List Int) × Int))} {r : Int} (hF : spec_l06Strokes x0 = some r) (h0 : Y77.val σ v0 x0) :
    Calls Try.prog 95 #[v0] w (Ret [] w σ ((TI .i64).sv r) []) := by
  unfold spec_l06Strokes at hF
  refine start (args := [v0]) Try.func95 rfl 18 rfl [] [(0, (Y77.sv x0))] [] (sat_start _ hσ) rfl (args1 rfl h0 (args0)) ?_
  refine T.seq ?_
  refine T.region mix 1 [2] [0] [(sp ((TI .i64).sv 0))] (by kernel_rfl) (AOK.cons (fun ρ a w hs hz hΓ hp => gp (d_assign (vI rfl))) AOK.nil rfl) (fun vs1 => ?_)
  refine T.nil ?_
  refine T.norm ?_
  refine T.seq ?_
  refine T.seq ?_
  refine T.region mix 1 [3] [0] [(sp ((TI .i64).sv 0))] (by kernel_rfl) (AOK.cons (fun ρ a w hs hz hΓ hp => gp (d_assign (vI rfl))) AOK.nil rfl) (fun vs2 => ?_)
  refine T.nil ?_
  refine T.norm ?_
  obtain ⟨yl3, e4, hF⟩ := bindS hF
  refine T.joinD (ι := Int × (Unit)) (fun p => yl3 = .inl p.1) (Γ' := fun p => E [(0, (Y77.sv x0))]) (H' := fun p => HL []) (fun p hy => ?_) (fun hk => ?_)
  · obtain ⟨o3, _⟩ := p
    cases hy
    refine T.norm ?_
    refine T.seq ?_
    refine T.seq ?_
    refine T.region mix 3 [15, 16, 17] [0, 1, 3] [(sp (Y77.sv x0)), (sp ((TI .i64).sv (x0.length : Int))), (sp (TB.sv (decide (60 < (x0.length : Int)))))] (by kernel_rfl) (AOK.cons (fun ρ a w hs hz hΓ hp => gp (d_move (hΓ 0 rfl))) (AOK.cons (fun ρ a w hs hz hΓ hp => gp (d_lenR u83 (hp 0 _ rfl rfl).1)) (AOK.cons (fun ρ a w hs hz hΓ hp => gp (d_gtr (hp 1 _ rfl rfl).1 (vI rfl))) AOK.nil rfl) rfl) rfl) (fun vs5 => ?_)
    refine T.nil ?_
    refine T.norm ?_
    refine T.cond (b := (decide (60 < (x0.length : Int)))) (fun _ _ h => h) (fun hc => ?_) (fun hc => ?_)
    · replace hF := iteT hF hc
      refine T.seq ?_
      refine T.region mix 1 [2] [0] [(sp ((TI .i64).sv 3))] (by kernel_rfl) (AOK.cons (fun ρ a w hs hz hΓ hp => gp (d_assign (vI rfl))) AOK.nil rfl) (fun vs6 => ?_)
      refine T.nil ?_
      refine T.norm ?_
      refine T.ret ?_
      obtain rfl := Option.some.inj hF
      refine T.fin0 fun ρ a w st => ?_
      exact ⟨_, results_one rfl rfl, (st.env 2)⟩
    · replace hF := iteF hF hc
      refine T.skip ?_
      refine T.norm ?_
      refine T.seq ?_
      refine T.region mix 1 [2] [0] [(sp ((TI .i64).sv 0))] (by kernel_rfl) (AOK.cons (fun ρ a w hs hz hΓ hp => gp (d_assign (vI rfl))) AOK.nil rfl) (fun vs7 => ?_)
      refine T.nil ?_
      refine T.norm ?_
      refine T.ret ?_
      obtain rfl := Option.some.inj hF
      refine T.fin0 fun ρ a w st => ?_
      exact ⟨_, results_one rfl rfl, (st.env 2)⟩
  · skip
    refine T.block ?_
    refine T.loop (f := spec_l06Strokes_l1 x0) (σ := Int) (Z := Unit) (fun s z => E [(0, (Y77.sv x0)), (3, ((TI .i64).sv s))]) (fun s z => HL []) e4 () (fun φ h => T.toh h ⟨fun _ _ h => h, fun _ _ h => h, trivial⟩ trivial) (fun k s z uu3 hu3 hn3 => ?_)
    obtain ⟨s3, rfl⟩ : ∃ q, q = s := ⟨_, rfl⟩
    dsimp only [spec_l06Strokes_l1] at hu3
    refine T.seq ?_
    refine T.seq ?_
    refine T.region mix 4 [4, 5, 6, 7] [0, 0, 2, 7] [(sp ((TI .i64).sv s3)), (sp (Y77.sv x0)), (sp ((TI .i64).sv (x0.length : Int))), (sp (TB.sv (decide (s3 < (x0.length : Int)))))] (by kernel_rfl) (AOK.cons (fun ρ a w hs hz hΓ hp => gp (d_move (hΓ 3 rfl))) (AOK.cons (fun ρ a w hs hz hΓ hp => gp (d_move (hΓ 0 rfl))) (AOK.cons (fun ρ a w hs hz hΓ hp => gp (d_lenR u83 (hp 1 _ rfl rfl).1)) (AOK.cons (fun ρ a w hs hz hΓ hp => gp (d_lss (hp 0 _ rfl rfl).1 (hp 2 _ rfl rfl).1)) AOK.nil rfl) rfl) rfl) rfl) (fun vs8 => ?_)
    refine T.nil ?_
    refine T.norm ?_
    refine T.cond (b := (decide (s3 < (x0.length : Int)))) (fun _ _ h => h) (fun hc => ?_) (fun hc => ?_)
    · replace hu3 := iteT hu3 hc
      refine T.skip ?_
      refine T.norm ?_
      refine T.seq ?_
      refine T.block ?_
      refine T.seq ?_
      obtain ⟨x12, e10, hu3⟩ := bindS hu3
      obtain ⟨x13, e11, hu3⟩ := bindS hu3
      refine T.region mix 5 [10, 11, 12, 13, 14] [0, 0, 3, 7, 15] [(sp (Y77.sv x0)), (sp ((TI .i64).sv s3)), (sp ((TP Y36).sv x12)), (sp (TB.sv x13)), (sp (TB.sv (!x13)))] (by kernel_rfl) (AOK.cons (fun ρ a w hs hz hΓ hp => gp (d_move (hΓ 0 rfl))) (AOK.cons (fun ρ a w hs hz hΓ hp => gp (d_move (hΓ 3 rfl))) (AOK.cons (fun ρ a w hs hz hΓ hp => gp (d_idxR u83 y40 (hp 0 _ rfl rfl).1 (hp 1 _ rfl rfl).1 e10)) (AOK.cons (fun ρ a w hs hz hΓ hp => gp (d_call fn63 hs.le mapA1 (c63 w _ hs.le e11 ((hp 2 _ rfl rfl).1)))) (AOK.cons (fun ρ a w hs hz hΓ hp => gp (d_not (hp 3 _ rfl rfl).1)) AOK.nil rfl) rfl) rfl) rfl) rfl) (fun vs9 => ?_)
      refine T.nil ?_
      refine T.norm ?_
      refine T.cond (b := (!x13)) (fun _ _ h => h) (fun hc => ?_) (fun hc => ?_)
      · replace hu3 := iteT hu3 hc
        refine T.seq ?_
        refine T.region mix 1 [2] [0] [(sp ((TI .i64).sv 1))] (by kernel_rfl) (AOK.cons (fun ρ a w hs hz hΓ hp => gp (d_assign (vI rfl))) AOK.nil rfl) (fun vs12 => ?_)
        refine T.nil ?_
        refine T.norm ?_
        refine T.ret ?_
        obtain rfl := Option.some.inj hu3
        cases hn3
        obtain rfl := Option.some.inj hF
        refine T.fin0 fun ρ a w st => ?_
        exact ⟨_, results_one rfl rfl, (st.env 2)⟩
      · replace hu3 := iteF hu3 hc
        refine T.skip ?_
        refine T.fallX ?_
        refine T.norm ?_
        refine T.region mix 3 [8, 9, 3] [0, 1, 3] [(sp ((TI .i64).sv s3)), (sp ((TI .i64).sv (IntKind.i64.wrap (s3 + 1)))), (sp ((TI .i64).sv (IntKind.i64.wrap (s3 + 1))))] (by kernel_rfl) (AOK.cons (fun ρ a w hs hz hΓ hp => gp (d_move (hΓ 3 rfl))) (AOK.cons (fun ρ a w hs hz hΓ hp => gp (d_add (hp 0 _ rfl rfl).1 (vI rfl))) (AOK.cons (fun ρ a w hs hz hΓ hp => gp (d_assign (hp 1 _ rfl rfl).1)) AOK.nil rfl) rfl) rfl) (fun vs13 => ?_)
        refine T.nil ?_
        obtain rfl := Option.some.inj hu3
        exact T.again hn3 () (fun φ h => T.toh h ⟨fun _ _ h => h, fun _ _ h => h, trivial⟩ trivial)
    · replace hu3 := iteF hu3 hc
      refine T.exit ?_
      obtain rfl := Option.some.inj hu3
      repeat (first | refine T.passX ?_ | refine T.inX (by decide) ?_)
      refine T.hereX ?_
      exact T.toh (hk (s3, ()) (Eq.symm hn3)) ⟨fun _ _ h => h, trivial⟩ trivial

theorem c116 (w : World) (v0 v1 : Value) {σ : Heap} (hσ : σ.le (snap w)) {x0 : Int} {x1 : Int} {r : Int} (hF : spec_l06Near x0 x1 = some r) (h0 : (TI .i64).val σ v0 x0) (h1 : (TI .i64).val σ v1 x1) :
    Calls Try.prog 116 #[v0, v1] w (Ret [] w σ ((TI .i64).sv r) []) := by
  unfold spec_l06Near at hF
  refine start (args := [v0, v1]) Try.func116 rfl 23 rfl [] [(0, ((TI .i64).sv x0)), (1, ((TI .i64).sv x1))] [] (sat_start _ hσ) rfl (args1 rfl h0 (args1 rfl h1 (args0))) ?_
  refine T.seq ?_
  refine T.region mix 1 [4] [0] [(sp ((TI .i64).sv 0))] (by kernel_rfl) (AOK.cons (fun ρ a w hs hz hΓ hp => gp (d_assign (vI rfl))) AOK.nil rfl) (fun vs1 => ?_)
  refine T.nil ?_
  refine T.norm ?_
  refine T.seq ?_
  refine T.region mix 5 [7, 8, 9, 10, 5] [0, 1, 0, 7, 15] [(sp ((TI .i64).sv x0)), (sp ((TI .i64).sv (IntKind.i64.wrap (2 * x0)))), (sp ((TI .i64).sv x1)), (sp ((TI .i64).sv (IntKind.i64.wrap ((IntKind.i64.wrap (2 * x0)) + x1)))), (sp ((TI .i64).sv (IntKind.i64.wrap ((IntKind.i64.wrap (2 * x0)) + x1))))] (by kernel_rfl) (AOK.cons (fun ρ a w hs hz hΓ hp => gp (d_move (hΓ 0 rfl))) (AOK.cons (fun ρ a w hs hz hΓ hp => gp (d_mul (vI rfl) (hp 0 _ rfl rfl).1)) (AOK.cons (fun ρ a w hs hz hΓ hp => gp (d_move (hΓ 1 rfl))) (AOK.cons (fun ρ a w hs hz hΓ hp => gp (d_add (hp 1 _ rfl rfl).1 (hp 2 _ rfl rfl).1)) (AOK.cons (fun ρ a w hs hz hΓ hp => gp (d_assign (hp 3 _ rfl rfl).1)) AOK.nil rfl) rfl) rfl) rfl) rfl) (fun vs2 => ?_)
  refine T.nil ?_
  refine T.norm ?_
  refine T.seq ?_
  obtain ⟨_u14, e4, hF⟩ := bindS hF
  refine T.region mix 5 [11, 12, 13, 14, 6] [0, 0, 2, 7, 15] [(sp ((TI .i64).sv (IntKind.i64.wrap ((IntKind.i64.wrap (2 * x0)) + x1)))), (sp ((TI .i64).sv x1)), (sp ((TI .i64).sv (IntKind.i64.wrap (2 * x1)))), (sp ((TI .i64).sv (IntKind.i64.wrap (Int.tdiv (IntKind.i64.wrap ((IntKind.i64.wrap (2 * x0)) + x1)) (IntKind.i64.wrap (2 * x1)))))), (sp ((TI .i64).sv (IntKind.i64.wrap (Int.tdiv (IntKind.i64.wrap ((IntKind.i64.wrap (2 * x0)) + x1)) (IntKind.i64.wrap (2 * x1))))))] (by kernel_rfl) (AOK.cons (fun ρ a w hs hz hΓ hp => gp (d_move (hΓ 5 rfl))) (AOK.cons (fun ρ a w hs hz hΓ hp => gp (d_move (hΓ 1 rfl))) (AOK.cons (fun ρ a w hs hz hΓ hp => gp (d_mul (vI rfl) (hp 1 _ rfl rfl).1)) (AOK.cons (fun ρ a w hs hz hΓ hp => gp (d_quo (hp 0 _ rfl rfl).1 (hp 2 _ rfl rfl).1 (of_decide_eq_true (need_get e4)))) (AOK.cons (fun ρ a w hs hz hΓ hp => gp (d_assign (hp 3 _ rfl rfl).1)) AOK.nil rfl) rfl) rfl) rfl) rfl) (fun vs3 => ?_)
  refine T.nil ?_
  refine T.norm ?_
  refine T.seq ?_
  refine T.seq ?_
  obtain ⟨_u18, e6, hF⟩ := bindS hF
  refine T.region mix 5 [15, 16, 17, 18, 19] [0, 0, 2, 7, 15] [(sp ((TI .i64).sv (IntKind.i64.wrap ((IntKind.i64.wrap (2 * x0)) + x1)))), (sp ((TI .i64).sv x1)), (sp ((TI .i64).sv (IntKind.i64.wrap (2 * x1)))), (sp ((TI .i64).sv (Int.tmod (IntKind.i64.wrap ((IntKind.i64.wrap (2 * x0)) + x1)) (IntKind.i64.wrap (2 * x1))))), (sp (TB.sv (decide ((Int.tmod (IntKind.i64.wrap ((IntKind.i64.wrap (2 * x0)) + x1)) (IntKind.i64.wrap (2 * x1))) < 0))))] (by kernel_rfl) (AOK.cons (fun ρ a w hs hz hΓ hp => gp (d_move (hΓ 5 rfl))) (AOK.cons (fun ρ a w hs hz hΓ hp => gp (d_move (hΓ 1 rfl))) (AOK.cons (fun ρ a w hs hz hΓ hp => gp (d_mul (vI rfl) (hp 1 _ rfl rfl).1)) (AOK.cons (fun ρ a w hs hz hΓ hp => gp (d_rem (hp 0 _ rfl rfl).1 (hp 2 _ rfl rfl).1 (of_decide_eq_true (need_get e6)))) (AOK.cons (fun ρ a w hs hz hΓ hp => gp (d_lss (hp 3 _ rfl rfl).1 (vI rfl))) AOK.nil rfl) rfl) rfl) rfl) rfl) (fun vs5 => ?_)
  refine T.nil ?_
  refine T.norm ?_
  obtain ⟨y6, e7, hF⟩ := bindS hF
  refine T.joinS (Γ' := fun (z : Unit) => E [(6, ((TI .i64).sv y6))]) (H' := fun (z : Unit) => HL []) (fun zz => ?_) (fun hk => ?_)
  · skip
    refine T.norm ?_
    refine T.seq ?_
    refine T.region mix 2 [22, 4] [0, 1] [(sp ((TI .i64).sv y6)), (sp ((TI .i64).sv y6))] (by kernel_rfl) (AOK.cons (fun ρ a w hs hz hΓ hp => gp (d_move (hΓ 6 rfl))) (AOK.cons (fun ρ a w hs hz hΓ hp => gp (d_assign (hp 0 _ rfl rfl).1)) AOK.nil rfl) rfl) (fun vs8 => ?_)
    refine T.nil ?_
    refine T.norm ?_
    refine T.ret ?_
    obtain rfl := Option.some.inj hF
    refine T.fin0 fun ρ a w st => ?_
    exact ⟨_, results_one rfl rfl, (st.env 4)⟩
  · refine T.cond (b := (decide ((Int.tmod (IntKind.i64.wrap ((IntKind.i64.wrap (2 * x0)) + x1)) (IntKind.i64.wrap (2 * x1))) < 0))) (fun _ _ h => h) (fun hc => ?_) (fun hc => ?_)
    · replace e7 := iteT e7 hc
      refine T.region mix 3 [20, 21, 6] [0, 1, 3] [(sp ((TI .i64).sv (IntKind.i64.wrap (Int.tdiv (IntKind.i64.wrap ((IntKind.i64.wrap (2 * x0)) + x1)) (IntKind.i64.wrap (2 * x1)))))), (sp ((TI .i64).sv (IntKind.i64.wrap ((IntKind.i64.wrap (Int.tdiv (IntKind.i64.wrap ((IntKind.i64.wrap (2 * x0)) + x1)) (IntKind.i64.wrap (2 * x1)))) - 1)))), (sp ((TI .i64).sv (IntKind.i64.wrap ((IntKind.i64.wrap (Int.tdiv (IntKind.i64.wrap ((IntKind.i64.wrap (2 * x0)) + x1)) (IntKind.i64.wrap (2 * x1)))) - 1))))] (by kernel_rfl) (AOK.cons (fun ρ a w hs hz hΓ hp => gp (d_move (hΓ 6 rfl))) (AOK.cons (fun ρ a w hs hz hΓ hp => gp (d_sub (hp 0 _ rfl rfl).1 (vI rfl))) (AOK.cons (fun ρ a w hs hz hΓ hp => gp (d_assign (hp 1 _ rfl rfl).1)) AOK.nil rfl) rfl) rfl) (fun vs9 => ?_)
      refine T.nil ?_
      cases e7
      exact T.toh (hk ()) ⟨fun _ _ h => h, trivial⟩ trivial
    · replace e7 := iteF e7 hc
      refine T.skip ?_
      cases e7
      exact T.toh (hk ()) ⟨fun _ _ h => h, trivial⟩ trivial

theorem c82 (w : World) (v0 v1 : Value) {σ : Heap} (hσ : σ.le (snap w)) {x0 : (List Int)} {x1 : (List Int)} {r : (List (List Int))} (hF : spec_l06Marks x0 x1 = some r) (h0 : Y25.val σ v0 x0) (h1 : Y25.val σ v1 x1) :
    Calls Try.prog 82 #[v0, v1] w (Ret [] w σ SRel.any [slR 29 Y25 r]) := by
  unfold spec_l06Marks at hF
  refine start (args := [v0, v1]) Try.func82 rfl 54 rfl [] [(0, (Y25.sv x0)), (1, (Y25.sv x1))] [] (sat_start _ hσ) rfl (args1 rfl h0 (args1 rfl h1 (args0))) ?_
  refine T.seq ?_
  refine T.region mix 3 [2, 3, 4] [0, 0, 0] [(sp ((TP Y25).sv x0)), (sp ((TP Y25).sv x1)), (sO SRel.any [(1, (slR 29 Y25 []))])] (by kernel_rfl) (AOK.cons (fun ρ a w hs hz hΓ hp => gp (d_box hs.le (hΓ 0 rfl))) (AOK.cons (fun ρ a w hs hz hΓ hp => gp (d_box hs.le (hΓ 1 rfl))) (AOK.cons (fun ρ a w hs hz hΓ hp => g_nilSl) AOK.nil rfl) rfl) rfl) (fun vs1 => ?_)
  refine T.nil ?_
  refine T.norm ?_
  refine T.seq ?_
  obtain ⟨x12, e3, hF⟩ := bindS hF
  refine T.region mix 4 [10, 11, 12, 5] [0, 0, 3, 7] [(sp (Y25.sv x0)), (sp (Y25.sv x1)), (sp ((TI .i64).sv x12)), (sp ((TI .i64).sv x12))] (by kernel_rfl) (AOK.cons (fun ρ a w hs hz hΓ hp => gp (d_load y29 hs.le (hΓ 2 rfl))) (AOK.cons (fun ρ a w hs hz hΓ hp => gp (d_load y29 hs.le (hΓ 3 rfl))) (AOK.cons (fun ρ a w hs hz hΓ hp => gp (d_call fn61 hs.le mapA2 (c61 w _ _ hs.le e3 ((hp 0 _ rfl rfl).1) ((hp 1 _ rfl rfl).1)))) (AOK.cons (fun ρ a w hs hz hΓ hp => gp (d_assign (hp 2 _ rfl rfl).1)) AOK.nil rfl) rfl) rfl) rfl) (fun vs2 => ?_)
  refine T.nil ?_
  refine T.norm ?_
  refine T.seq ?_
  refine T.seq ?_
  refine T.region mix 2 [13, 14] [0, 1] [(sp ((TI .i64).sv x12)), (sp (TB.sv (decide (x12 = 0))))] (by kernel_rfl) (AOK.cons (fun ρ a w hs hz hΓ hp => gp (d_move (hΓ 5 rfl))) (AOK.cons (fun ρ a w hs hz hΓ hp => gp (d_eql (hp 0 _ rfl rfl).1 (vI rfl))) AOK.nil rfl) rfl) (fun vs4 => ?_)
  refine T.nil ?_
  refine T.norm ?_
  refine T.cond (b := (decide (x12 = 0))) (fun _ _ h => h) (fun hc => ?_) (fun hc => ?_)
  · replace hF := iteT hF hc
    refine T.seq ?_
    refine T.region mix 3 [15, 16, 4] [0, 1, 3] [(sp (Y25.sv x0)), (sO SRel.any [(2, (slR 29 Y25 ([x0] : List (List Int))))]), (al 1 (id))] (by kernel_rfl) (AOK.cons (fun ρ a w hs hz hΓ hp => gp (d_load y29 hs.le (hΓ 2 rfl))) (AOK.cons (fun ρ a w hs hz hΓ hp => g_buildSl hs.le u64 y29 z29 (by decide) (by decide) zc29 (Fills.part rfl (hp 0 _ rfl rfl).1 (At.nth (At.refl _ _) 0 rfl) (Fills.done _))) (AOK.cons (fun ρ a w hs hz hΓ hp => al_assign rfl) AOK.nil rfl) rfl) rfl) (fun vs5 => ?_)
    refine T.nil ?_
    refine T.norm ?_
    refine T.ret ?_
    obtain rfl := Option.some.inj hF
    refine T.fin fun ρ a w st => ?_
    exact ⟨_, results_one rfl rfl, trivial, own1 (own_at (id := 2) (st.env 4) rfl), List.pairwise_singleton _ _⟩
  · replace hF := iteF hF hc
    refine T.skip ?_
    refine T.norm ?_
    refine T.seq ?_
    refine T.region mix 2 [17, 6] [0, 1] [(sO SRel.any [(3, (slR 29 Y25 ([] : List (List Int))))]), (al 0 (id))] (by kernel_rfl) (AOK.cons (fun ρ a w hs hz hΓ hp => g_buildSl hs.le u64 y29 z29 (by decide) (by decide) zc29 (Fills.done _)) (AOK.cons (fun ρ a w hs hz hΓ hp => al_assign rfl) AOK.nil rfl) rfl) (fun vs6 => ?_)
    refine T.nil ?_
    refine T.norm ?_
    refine T.seq ?_
    refine T.seq ?_
    refine T.region mix 1 [7] [0] [(sp ((TI .i64).sv 0))] (by kernel_rfl) (AOK.cons (fun ρ a w hs hz hΓ hp => gp (d_assign (vI rfl))) AOK.nil rfl) (fun vs7 => ?_)
    refine T.nil ?_
    refine T.norm ?_
    obtain ⟨yl8, e9, hF⟩ := bindS hF
    refine T.joinD (ι := (Int × (List (List Int))) × (Value)) (fun p => yl8 = p.1) (Γ' := fun p => E [(6, (SRel.eq p.2))]) (H' := fun p => HL [(3, (slR 29 Y25 p.1.2 p.2))]) (fun p hy => ?_) (fun hk => ?_)
    · obtain ⟨⟨o7, or3⟩, z3_10⟩ := p
      cases hy
      refine T.norm ?_
      refine T.seq ?_
      refine T.region mix 2 [53, 4] [0, 1] [(sp (SRel.eq z3_10)), (sp (SRel.eq z3_10))] (by kernel_rfl) (AOK.cons (fun ρ a w hs hz hΓ hp => gp (d_move (hΓ 6 rfl))) (AOK.cons (fun ρ a w hs hz hΓ hp => gp (d_assign (hp 0 _ rfl rfl).1)) AOK.nil rfl) rfl) (fun vs11 => ?_)
      refine T.nil ?_
      refine T.norm ?_
      refine T.ret ?_
      obtain rfl := Option.some.inj hF
      refine T.fin fun ρ a w st => ?_
      exact ⟨_, results_one rfl rfl, trivial, own1 (own_at (id := 3) (st.env 4) rfl), List.pairwise_singleton _ _⟩
    · skip
      refine T.block ?_
      refine T.loop (f := spec_l06Marks_l1 x0 x1 x12) (σ := (Int × (List (List Int)))) (Z := Value) (fun s z => E [(2, ((TP Y25).sv x0)), (3, ((TP Y25).sv x1)), (5, ((TI .i64).sv x12)), (6, (SRel.eq z)), (7, ((TI .i64).sv s.1))]) (fun s z => HL [(3, (slR 29 Y25 s.2 z))]) e9 (vs6 0) (fun φ h => T.toh h ⟨fun _ _ h => h, fun _ _ h => h, fun _ _ h => h, fun _ _ h => h, fun _ _ h => h, trivial⟩ ⟨rfl, trivial⟩) (fun k s z uu8 hu8 hn8 => ?_)
      obtain ⟨s7, sr3⟩ := s
      obtain ⟨z3, rfl⟩ : ∃ q, q = z := ⟨_, rfl⟩
      dsimp only [spec_l06Marks_l1] at hu8
      refine T.seq ?_
      refine T.seq ?_
      refine T.region mix 3 [18, 19, 20] [0, 0, 3] [(sp ((TI .i64).sv s7)), (sp ((TI .i64).sv x12)), (sp (TB.sv (decide (s7 ≤ x12))))] (by kernel_rfl) (AOK.cons (fun ρ a w hs hz hΓ hp => gp (d_move (hΓ 7 rfl))) (AOK.cons (fun ρ a w hs hz hΓ hp => gp (d_move (hΓ 5 rfl))) (AOK.cons (fun ρ a w hs hz hΓ hp => gp (d_leq (hp 0 _ rfl rfl).1 (hp 1 _ rfl rfl).1)) AOK.nil rfl) rfl) rfl) (fun vs12 => ?_)
      refine T.nil ?_
      refine T.norm ?_
      refine T.cond (b := (decide (s7 ≤ x12))) (fun _ _ h => h) (fun hc => ?_) (fun hc => ?_)
      · replace hu8 := iteT hu8 hc
        refine T.skip ?_
        refine T.norm ?_
        refine T.seq ?_
        refine T.block ?_
        refine T.seq ?_
        refine T.region mix 2 [23, 8] [0, 0, 3] [(sp (Y25.sv ((List.replicate 2 0) : (List Int)))), (sO SRel.any [(4, (boxR 29 Y25 (List.replicate 2 0)))])] (by kernel_rfl) (AOK.cons (fun ρ a w hs hz hΓ hp => gp (d_buildA u29 y24 z29 zc29 (Fills.done _))) (AOK.cons (fun ρ a w hs hz hΓ hp => g_alloc hs.le z29 zc29) AOK.nil rfl) rfl) (fun vs13 => ?_)
        refine T.store 4 y29 rfl (fun ρ a w st => ⟨.inl ⟨(st.env 8).1, rfl⟩, (st.env 23)⟩) (At.refl Y25 (List.replicate 2 0)) ?_
        refine T.nil ?_
        refine T.norm ?_
        refine T.seq ?_
        refine T.seq ?_
        refine T.region mix 1 [9] [0] [(sp ((TI .i64).sv 0))] (by kernel_rfl) (AOK.cons (fun ρ a w hs hz hΓ hp => gp (d_assign (vI rfl))) AOK.nil rfl) (fun vs14 => ?_)
        refine T.nil ?_
        refine T.norm ?_
        obtain ⟨yl15, e16, hu8⟩ := bindS hu8
        refine T.joinD (ι := (Int × (List Int)) × (Unit)) (fun p => yl15 = p.1) (Γ' := fun p => E [(2, ((TP Y25).sv x0)), (3, ((TP Y25).sv x1)), (5, ((TI .i64).sv x12)), (6, (SRel.eq z3)), (7, ((TI .i64).sv s7)), (8, (SRel.eq (vs13 1)))]) (H' := fun p => HL [(3, (slR 29 Y25 sr3 z3)), (4, (boxR 29 Y25 p.1.2 (vs13 1)))]) (fun p hy => ?_) (fun hk => ?_)
        · obtain ⟨⟨o9, or4⟩, _⟩ := p
          cases hy
          refine T.norm ?_
          refine T.region mix 3 [49, 50, 51] [0, 0, 2, 7, 15] [(sp (SRel.eq z3)), (sp (Y25.sv or4)), (sp (Y64.sv ([or4] : List (List Int))))] (by kernel_rfl) (AOK.cons (fun ρ a w hs hz hΓ hp => gp (d_move (hΓ 6 rfl))) (AOK.cons (fun ρ a w hs hz hΓ hp => gp (d_loadO y29 hs 4 rfl (.inl ⟨(hΓ 8 rfl), rfl⟩) (At.refl Y25 or4))) (AOK.cons (fun ρ a w hs hz hΓ hp => gp (d_buildSl hs.le u64 y29 z29 (by decide) (by decide) zc29 (Fills.part rfl (hp 1 _ rfl rfl).1 (At.nth (At.refl _ _) 0 rfl) (Fills.done _)))) AOK.nil rfl) rfl) rfl) (fun vs17 => ?_)
          obtain ⟨x52, e18, hu8⟩ := bindS hu8
          obtain ⟨e18l, rfl⟩ := app_get e18
          refine T.append 3 rfl u64 i29 rfl rfl (fun ρ a w st => ⟨(st.env 49), (cells_ro (by decide) st.sat.le (st.env 51))⟩) e18l (fun v52 => ?_)
          refine T.does (R := (SRel.eq v52)) rfl (fun ρ a w st => have hs := st.sat; d_assign (st.env 52)) ?_
          refine T.nil ?_
          refine T.fallX ?_
          refine T.norm ?_
          refine T.region mix 3 [21, 22, 7] [0, 1, 3] [(sp ((TI .i64).sv s7)), (sp ((TI .i64).sv (IntKind.i64.wrap (s7 + 1)))), (sp ((TI .i64).sv (IntKind.i64.wrap (s7 + 1))))] (by kernel_rfl) (AOK.cons (fun ρ a w hs hz hΓ hp => gp (d_move (hΓ 7 rfl))) (AOK.cons (fun ρ a w hs hz hΓ hp => gp (d_add (hp 0 _ rfl rfl).1 (vI rfl))) (AOK.cons (fun ρ a w hs hz hΓ hp => gp (d_assign (hp 1 _ rfl rfl).1)) AOK.nil rfl) rfl) rfl) (fun vs19 => ?_)
          refine T.nil ?_
          obtain rfl := Option.some.inj hu8
          exact T.again hn8 v52 (fun φ h => T.toh h ⟨fun _ _ h => h, fun _ _ h => h, fun _ _ h => h, fun _ _ h => h, fun _ _ h => h, trivial⟩ ⟨rfl, trivial⟩)
        · skip
          refine T.block ?_
          refine T.loop (f := spec_l06Marks_l2 x0 x1 x12 s7) (σ := (Int × (List Int))) (Z := Unit) (fun s z => E [(2, ((TP Y25).sv x0)), (3, ((TP Y25).sv x1)), (5, ((TI .i64).sv x12)), (6, (SRel.eq z3)), (7, ((TI .i64).sv s7)), (8, (SRel.eq (vs13 1))), (9, ((TI .i64).sv s.1))]) (fun s z => HL [(3, (slR 29 Y25 sr3 z3)), (4, (boxR 29 Y25 s.2 (vs13 1)))]) e16 () (fun φ h => T.toh h ⟨fun _ _ h => h, fun _ _ h => h, fun _ _ h => h, fun _ _ h => h, fun _ _ h => h, fun _ _ h => h.1, fun _ _ h => h, trivial⟩ ⟨rfl, rfl, trivial⟩) (fun k s z uu15 hu15 hn15 => ?_)
          obtain ⟨s9, sr4⟩ := s
          dsimp only [spec_l06Marks_l2] at hu15
          refine T.seq ?_
          refine T.seq ?_
          refine T.region mix 2 [24, 25] [0, 1] [(sp ((TI .i64).sv s9)), (sp (TB.sv (decide (s9 < 2))))] (by kernel_rfl) (AOK.cons (fun ρ a w hs hz hΓ hp => gp (d_move (hΓ 9 rfl))) (AOK.cons (fun ρ a w hs hz hΓ hp => gp (d_lss (hp 0 _ rfl rfl).1 (vI rfl))) AOK.nil rfl) rfl) (fun vs20 => ?_)
          refine T.nil ?_
          refine T.norm ?_
          refine T.cond (b := (decide (s9 < 2))) (fun _ _ h => h) (fun hc => ?_) (fun hc => ?_)
          · replace hu15 := iteT hu15 hc
            refine T.skip ?_
            refine T.norm ?_
            refine T.seq ?_
            refine T.block ?_
            obtain ⟨x30, e22, hu15⟩ := bindS hu15
            obtain ⟨x35, e23, hu15⟩ := bindS hu15
            obtain ⟨x39, e24, hu15⟩ := bindS hu15
            obtain ⟨x45, e25, hu15⟩ := bindS hu15
            obtain ⟨x48, e26, hu15⟩ := bindS hu15
            refine T.region mix 21 [28, 29, 30, 31, 32, 33, 34, 35, 36, 37, 38, 39, 40, 41, 42, 43, 44, 45, 46, 47, 48] [0, 0, 2, 6, 14, 0, 0, 64, 192, 448, 0, 1024, 3072, 7168, 16320, 32736, 0, 131040, 262142, 524286, 1048575, 2097151] [(sp ((TI .i64).sv s9)), (sp ((TI .i64).sv s9)), (sp ((TP (TI .i16)).sv x30)), (sp ((TI .i16).sv x30)), (sp ((TI .i64).sv x30)), (sp ((TI .i64).sv s7)), (sp ((TI .i64).sv s9)), (sp ((TP (TI .i16)).sv x35)), (sp ((TI .i16).sv x35)), (sp ((TI .i64).sv x35)), (sp ((TI .i64).sv s9)), (sp ((TP (TI .i16)).sv x39)), (sp ((TI .i16).sv x39)), (sp ((TI .i64).sv x39)), (sp ((TI .i64).sv (IntKind.i64.wrap (x35 - x39)))), (sp ((TI .i64).sv (IntKind.i64.wrap (s7 * (IntKind.i64.wrap (x35 - x39)))))), (sp ((TI .i64).sv x12)), (sp ((TI .i64).sv x45)), (sp ((TI .i64).sv (IntKind.i64.wrap (x30 + x45)))), (sp ((TI .i16).sv (IntKind.i16.wrap (IntKind.i64.wrap (x30 + x45))))), (sp (SRel.eq (at_ (vs13 1) (0 + s9.toNat * (TI .i16).n))))] (by kernel_rfl) (AOK.cons (fun ρ a w hs hz hΓ hp => gp (d_move (hΓ 9 rfl))) (AOK.cons (fun ρ a w hs hz hΓ hp => gp (d_move (hΓ 9 rfl))) (AOK.cons (fun ρ a w hs hz hΓ hp => gp (d_idxP u29 y24 (hΓ 2 rfl) (hp 1 _ rfl rfl).1 e22)) (AOK.cons (fun ρ a w hs hz hΓ hp => gp (d_load y24 hs.le (hp 2 _ rfl rfl).1)) (AOK.cons (fun ρ a w hs hz hΓ hp => gp (d_widen u24 u2 rfl (hp 3 _ rfl rfl).1)) (AOK.cons (fun ρ a w hs hz hΓ hp => gp (d_move (hΓ 7 rfl))) (AOK.cons (fun ρ a w hs hz hΓ hp => gp (d_move (hΓ 9 rfl))) (AOK.cons (fun ρ a w hs hz hΓ hp => gp (d_idxP u29 y24 (hΓ 3 rfl) (hp 6 _ rfl rfl).1 e23)) (AOK.cons (fun ρ a w hs hz hΓ hp => gp (d_load y24 hs.le (hp 7 _ rfl rfl).1)) (AOK.cons (fun ρ a w hs hz hΓ hp => gp (d_widen u24 u2 rfl (hp 8 _ rfl rfl).1)) (AOK.cons (fun ρ a w hs hz hΓ hp => gp (d_move (hΓ 9 rfl))) (AOK.cons (fun ρ a w hs hz hΓ hp => gp (d_idxP u29 y24 (hΓ 2 rfl) (hp 10 _ rfl rfl).1 e24)) (AOK.cons (fun ρ a w hs hz hΓ hp => gp (d_load y24 hs.le (hp 11 _ rfl rfl).1)) (AOK.cons (fun ρ a w hs hz hΓ hp => gp (d_widen u24 u2 rfl (hp 12 _ rfl rfl).1)) (AOK.cons (fun ρ a w hs hz hΓ hp => gp (d_sub (hp 9 _ rfl rfl).1 (hp 13 _ rfl rfl).1)) (AOK.cons (fun ρ a w hs hz hΓ hp => gp (d_mul (hp 5 _ rfl rfl).1 (hp 14 _ rfl rfl).1)) (AOK.cons (fun ρ a w hs hz hΓ hp => gp (d_move (hΓ 5 rfl))) (AOK.cons (fun ρ a w hs hz hΓ hp => gp (d_call fn116 hs.le mapA2 (c116 w _ _ hs.le e25 ((hp 15 _ rfl rfl).1) ((hp 16 _ rfl rfl).1)))) (AOK.cons (fun ρ a w hs hz hΓ hp => gp (d_add (hp 4 _ rfl rfl).1 (hp 17 _ rfl rfl).1)) (AOK.cons (fun ρ a w hs hz hΓ hp => gp (d_conv u2 u24 (hp 18 _ rfl rfl).1)) (AOK.cons (fun ρ a w hs hz hΓ hp => gp (d_idxO u29 y24 hs 4 rfl (.inl ⟨(hΓ 8 rfl), rfl⟩) (At.refl Y25 sr4) (hp 0 _ rfl rfl).1 e26)) AOK.nil rfl) rfl) rfl) rfl) rfl) rfl) rfl) rfl) rfl) rfl) rfl) rfl) rfl) rfl) rfl) rfl) rfl) rfl) rfl) rfl) rfl) (fun vs21 => ?_)
            refine T.store 4 y24 rfl (fun ρ a w st => ⟨.inr (st.env 48), (st.env 47)⟩) (At.elem (At.refl Y25 sr4) (idx_get e26).2) ?_
            refine T.nil ?_
            refine T.fallX ?_
            refine T.norm ?_
            refine T.region mix 3 [26, 27, 9] [0, 1, 3] [(sp ((TI .i64).sv s9)), (sp ((TI .i64).sv (IntKind.i64.wrap (s9 + 1)))), (sp ((TI .i64).sv (IntKind.i64.wrap (s9 + 1))))] (by kernel_rfl) (AOK.cons (fun ρ a w hs hz hΓ hp => gp (d_move (hΓ 9 rfl))) (AOK.cons (fun ρ a w hs hz hΓ hp => gp (d_add (hp 0 _ rfl rfl).1 (vI rfl))) (AOK.cons (fun ρ a w hs hz hΓ hp => gp (d_assign (hp 1 _ rfl rfl).1)) AOK.nil rfl) rfl) rfl) (fun vs27 => ?_)
            refine T.nil ?_
            obtain rfl := Option.some.inj hu15
            exact T.again hn15 () (fun φ h => T.toh h ⟨fun _ _ h => h, fun _ _ h => h, fun _ _ h => h, fun _ _ h => h, fun _ _ h => h, fun _ _ h => h, fun _ _ h => h, trivial⟩ ⟨rfl, rfl, trivial⟩)
          · replace hu15 := iteF hu15 hc
            refine T.exit ?_
            obtain rfl := Option.some.inj hu15
            repeat (first | refine T.passX ?_ | refine T.inX (by decide) ?_)
            refine T.hereX ?_
            exact T.toh (hk ((s9, sr4), ()) (Eq.symm hn15)) ⟨fun _ _ h => h, fun _ _ h => h, fun _ _ h => h, fun _ _ h => h, fun _ _ h => h, fun _ _ h => h, trivial⟩ ⟨rfl, rfl, trivial⟩
      · replace hu8 := iteF hu8 hc
        refine T.exit ?_
        obtain rfl := Option.some.inj hu8
        repeat (first | refine T.passX ?_ | refine T.inX (by decide) ?_)
        refine T.hereX ?_
        exact T.toh (hk ((s7, sr3), z3) (Eq.symm hn8)) ⟨fun _ _ h => h, trivial⟩ ⟨rfl, trivial⟩

theorem c120 (w : World) (v0 v1 v2 : Value) {x0 : (List Int)} {x1 : (List Int)} {x2 : Bool} {r : (List Int)} (hF : spec_l06Put x0 x1 x2 = some r) (hm : (boxR 27 Y23 x0 v0).holds (snapX (blkOf v0).toList w) w) (h1 : Y25.val (snapX (blkOf v0).toList w) v1 x1) (h2 : TB.val (snapX (blkOf v0).toList w) v2 x2) :
    Calls Try.prog 120 #[v0, v1, v2] w (RetM (blkOf v0).toList w SRel.any (boxR 27 Y23 r v0)) := by
  unfold spec_l06Put at hF
  refine start (args := [v0, v1, v2]) Try.func120 rfl 36 rfl (blkOf v0).toList [(0, (SRel.eq v0)), (1, (Y25.sv x1)), (2, (TB.sv x2))] [(1, (boxR 27 Y23 x0 v0))] (sat_mut (r := (boxR 27 Y23 x0 v0)) 1 hm) rfl (args1 rfl rfl (args1 rfl h1 (args1 rfl h2 (args0)))) ?_
  refine T.seq ?_
  refine T.region mix 1 [4] [0] [(sp ((TP Y25).sv x1))] (by kernel_rfl) (AOK.cons (fun ρ a w hs hz hΓ hp => gp (d_box hs.le (hΓ 1 rfl))) AOK.nil rfl) (fun vs1 => ?_)
  refine T.nil ?_
  refine T.norm ?_
  refine T.seq ?_
  refine T.seq ?_
  obtain ⟨x8, e3, hF⟩ := bindS hF
  refine T.region mix 3 [7, 8, 9] [0, 1, 3] [(sp (Y25.sv x1)), (sp (TB.sv x8)), (sp (TB.sv (!x8)))] (by kernel_rfl) (AOK.cons (fun ρ a w hs hz hΓ hp => gp (d_load y29 hs.le (hΓ 4 rfl))) (AOK.cons (fun ρ a w hs hz hΓ hp => gp (d_call fn59 hs.le mapA1 (c59 w _ hs.le e3 ((hp 0 _ rfl rfl).1)))) (AOK.cons (fun ρ a w hs hz hΓ hp => gp (d_not (hp 1 _ rfl rfl).1)) AOK.nil rfl) rfl) rfl) (fun vs2 => ?_)
  refine T.nil ?_
  refine T.norm ?_
  refine T.cond (b := (!x8)) (fun _ _ h => h) (fun hc => ?_) (fun hc => ?_)
  · replace hF := iteT hF hc
    refine T.ret ?_
    obtain rfl := Option.some.inj hF
    refine T.finM fun ρ a w st => ?_
    exact ⟨_, results_no rfl, fun σ => trivial, mut_on st.sat 1 rfl (loose_boxR (flat_TArr (flat_TI _))) rfl⟩
  · replace hF := iteF hF hc
    refine T.skip ?_
    refine T.norm ?_
    refine T.seq ?_
    refine T.region mix 5 [10, 11, 12, 13, 6] [0, 1, 3, 7, 15] [(sp ((TP (TI .i16)).sv (nth x1 0))), (sp ((TI .i16).sv (nth x1 0))), (sp ((TI .u64).sv (IntKind.u64.wrap (nth x1 0)))), (sp ((TI .u64).sv (IntKind.u64.wrap (1 * 2 ^ (min (IntKind.u64.wrap (nth x1 0)).toNat IntKind.u64.bits))))), (sp ((TI .u64).sv (IntKind.u64.wrap (1 * 2 ^ (min (IntKind.u64.wrap (nth x1 0)).toNat IntKind.u64.bits)))))] (by kernel_rfl) (AOK.cons (fun ρ a w hs hz hΓ hp => gp (d_idxPc .i64 0 u29 y24 (hΓ 4 rfl) rfl)) (AOK.cons (fun ρ a w hs hz hΓ hp => gp (d_load y24 hs.le (hp 0 _ rfl rfl).1)) (AOK.cons (fun ρ a w hs hz hΓ hp => gp (d_conv u24 u94 (hp 1 _ rfl rfl).1)) (AOK.cons (fun ρ a w hs hz hΓ hp => gp (d_shl (vI rfl) (hp 2 _ rfl rfl).1 (rng_nn (by decide) (hp 2 _ rfl rfl).1))) (AOK.cons (fun ρ a w hs hz hΓ hp => gp (d_assign (hp 3 _ rfl rfl).1)) AOK.nil rfl) rfl) rfl) rfl) rfl) (fun vs4 => ?_)
    refine T.nil ?_
    refine T.norm ?_
    refine T.seq ?_
    obtain ⟨x18, e6, hF⟩ := bindS hF
    obtain ⟨x23, e7, hF⟩ := bindS hF
    refine T.region mix 10 [14, 15, 16, 17, 18, 19, 20, 21, 22, 23] [0, 0, 2, 1, 15, 31, 0, 127, 1, 511, 1023] [(sp (SRel.eq v0)), (sp ((TP (TI .i16)).sv (nth x1 1))), (sp ((TI .i16).sv (nth x1 1))), (sp (SRel.eq v0)), (sp (SRel.eq (at_ v0 (0 + (nth x1 1).toNat * (TI .u64).n)))), (sp ((TI .u64).sv x18)), (sp ((TI .u64).sv (IntKind.u64.wrap (1 * 2 ^ (min (IntKind.u64.wrap (nth x1 0)).toNat IntKind.u64.bits))))), (sp ((TI .u64).sv (bitop .or .u64 x18 (IntKind.u64.wrap (1 * 2 ^ (min (IntKind.u64.wrap (nth x1 0)).toNat IntKind.u64.bits)))))), (sp (SRel.eq v0)), (sp (SRel.eq (at_ v0 (0 + (nth x1 1).toNat * (TI .u64).n))))] (by kernel_rfl) (AOK.cons (fun ρ a w hs hz hΓ hp => gp (d_move (hΓ 0 rfl))) (AOK.cons (fun ρ a w hs hz hΓ hp => gp (d_idxPc .i64 1 u29 y24 (hΓ 4 rfl) rfl)) (AOK.cons (fun ρ a w hs hz hΓ hp => gp (d_load y24 hs.le (hp 1 _ rfl rfl).1)) (AOK.cons (fun ρ a w hs hz hΓ hp => gp (d_nilCheckB hs 1 rfl (hp 0 _ rfl rfl).1)) (AOK.cons (fun ρ a w hs hz hΓ hp => gp (d_idxO u27 y22 hs 1 rfl (.inl ⟨(hp 3 _ rfl rfl).1, rfl⟩) (At.refl Y23 x0) (hp 2 _ rfl rfl).1 e6)) (AOK.cons (fun ρ a w hs hz hΓ hp => gp (d_loadO y22 hs 1 rfl (.inr (hp 4 _ rfl rfl).1) (At.elem (At.refl Y23 x0) (idx_get e6).2))) (AOK.cons (fun ρ a w hs hz hΓ hp => gp (d_move (hΓ 6 rfl))) (AOK.cons (fun ρ a w hs hz hΓ hp => gp (d_or (hp 5 _ rfl rfl).1 (hp 6 _ rfl rfl).1)) (AOK.cons (fun ρ a w hs hz hΓ hp => gp (d_nilCheckB hs 1 rfl (hp 0 _ rfl rfl).1)) (AOK.cons (fun ρ a w hs hz hΓ hp => gp (d_idxO u27 y22 hs 1 rfl (.inl ⟨(hp 8 _ rfl rfl).1, rfl⟩) (At.refl Y23 x0) (hp 2 _ rfl rfl).1 e7)) AOK.nil rfl) rfl) rfl) rfl) rfl) rfl) rfl) rfl) rfl) rfl) (fun vs5 => ?_)
    refine T.store 1 y22 rfl (fun ρ a w st => ⟨.inr (st.env 23), (st.env 21)⟩) (At.elem (At.refl Y23 x0) (idx_get e7).2) ?_
    refine T.nil ?_
    refine T.norm ?_
    refine T.seq ?_
    refine T.region mix 2 [24, 25] [0, 1] [(sp (TB.sv x2)), (sp (TB.sv (!x2)))] (by kernel_rfl) (AOK.cons (fun ρ a w hs hz hΓ hp => gp (d_move (hΓ 2 rfl))) (AOK.cons (fun ρ a w hs hz hΓ hp => gp (d_not (hp 0 _ rfl rfl).1)) AOK.nil rfl) rfl) (fun vs8 => ?_)
    refine T.nil ?_
    refine T.norm ?_
    obtain ⟨r1, e9, hF⟩ := bindS hF
    refine T.joinS (Γ' := fun (z : Unit) => E []) (H' := fun (z : Unit) => HL [(1, (boxR 27 Y23 r1 v0))]) (fun zz => ?_) (fun hk => ?_)
    · skip
      refine T.atEnd ?_
      obtain rfl := Option.some.inj hF
      refine T.finM fun ρ a w st => ?_
      exact ⟨_, results_no rfl, fun σ => trivial, mut_on st.sat 1 rfl (loose_boxR (flat_TArr (flat_TI _))) rfl⟩
    · refine T.cond (b := (!x2)) (fun _ _ h => h) (fun hc => ?_) (fun hc => ?_)
      · replace e9 := iteT e9 hc
        obtain ⟨x30, e11, e9⟩ := bindS e9
        obtain ⟨x35, e12, e9⟩ := bindS e9
        refine T.region mix 10 [26, 27, 28, 29, 30, 31, 32, 33, 34, 35] [0, 0, 2, 1, 15, 31, 0, 127, 1, 511, 1023] [(sp (SRel.eq v0)), (sp ((TP (TI .i16)).sv (nth x1 1))), (sp ((TI .i16).sv (nth x1 1))), (sp (SRel.eq v0)), (sp (SRel.eq (at_ v0 (0 + (nth x1 1).toNat * (TI .u64).n)))), (sp ((TI .u64).sv x30)), (sp ((TI .u64).sv (IntKind.u64.wrap (1 * 2 ^ (min (IntKind.u64.wrap (nth x1 0)).toNat IntKind.u64.bits))))), (sp ((TI .u64).sv (bitop .xor .u64 x30 (IntKind.u64.wrap (1 * 2 ^ (min (IntKind.u64.wrap (nth x1 0)).toNat IntKind.u64.bits)))))), (sp (SRel.eq v0)), (sp (SRel.eq (at_ v0 (0 + (nth x1 1).toNat * (TI .u64).n))))] (by kernel_rfl) (AOK.cons (fun ρ a w hs hz hΓ hp => gp (d_move (hΓ 0 rfl))) (AOK.cons (fun ρ a w hs hz hΓ hp => gp (d_idxPc .i64 1 u29 y24 (hΓ 4 rfl) rfl)) (AOK.cons (fun ρ a w hs hz hΓ hp => gp (d_load y24 hs.le (hp 1 _ rfl rfl).1)) (AOK.cons (fun ρ a w hs hz hΓ hp => gp (d_nilCheckB hs 1 rfl (hp 0 _ rfl rfl).1)) (AOK.cons (fun ρ a w hs hz hΓ hp => gp (d_idxO u27 y22 hs 1 rfl (.inl ⟨(hp 3 _ rfl rfl).1, rfl⟩) (At.refl Y23 (x0.set (nth x1 1).toNat (bitop .or .u64 x18 (IntKind.u64.wrap (1 * 2 ^ (min (IntKind.u64.wrap (nth x1 0)).toNat IntKind.u64.bits)))))) (hp 2 _ rfl rfl).1 e11)) (AOK.cons (fun ρ a w hs hz hΓ hp => gp (d_loadO y22 hs 1 rfl (.inr (hp 4 _ rfl rfl).1) (At.elem (At.refl Y23 (x0.set (nth x1 1).toNat (bitop .or .u64 x18 (IntKind.u64.wrap (1 * 2 ^ (min (IntKind.u64.wrap (nth x1 0)).toNat IntKind.u64.bits)))))) (idx_get e11).2))) (AOK.cons (fun ρ a w hs hz hΓ hp => gp (d_move (hΓ 6 rfl))) (AOK.cons (fun ρ a w hs hz hΓ hp => gp (d_xor (hp 5 _ rfl rfl).1 (hp 6 _ rfl rfl).1)) (AOK.cons (fun ρ a w hs hz hΓ hp => gp (d_nilCheckB hs 1 rfl (hp 0 _ rfl rfl).1)) (AOK.cons (fun ρ a w hs hz hΓ hp => gp (d_idxO u27 y22 hs 1 rfl (.inl ⟨(hp 8 _ rfl rfl).1, rfl⟩) (At.refl Y23 (x0.set (nth x1 1).toNat (bitop .or .u64 x18 (IntKind.u64.wrap (1 * 2 ^ (min (IntKind.u64.wrap (nth x1 0)).toNat IntKind.u64.bits)))))) (hp 2 _ rfl rfl).1 e12)) AOK.nil rfl) rfl) rfl) rfl) rfl) rfl) rfl) rfl) rfl) rfl) (fun vs10 => ?_)
        refine T.store 1 y22 rfl (fun ρ a w st => ⟨.inr (st.env 35), (st.env 33)⟩) (At.elem (At.refl Y23 (x0.set (nth x1 1).toNat (bitop .or .u64 x18 (IntKind.u64.wrap (1 * 2 ^ (min (IntKind.u64.wrap (nth x1 0)).toNat IntKind.u64.bits)))))) (idx_get e12).2) ?_
        refine T.nil ?_
        cases e9
        exact T.toh (hk ()) trivial ⟨rfl, trivial⟩
      · replace e9 := iteF e9 hc
        refine T.skip ?_
        cases e9
        exact T.toh (hk ()) trivial ⟨rfl, trivial⟩

theorem c90 (w : World) (v0 v1 : Value) {x0 : (List Int)} {x1 : ((List Int) × (List Int) × Int)} {r : (List Int)} (hF : spec_l06Stroke x0 x1 = some r) (hm : (boxR 27 Y23 x0 v0).holds (snapX (blkOf v0).toList w) w) (h1 : (TP Y36).val (snapX (blkOf v0).toList w) v1 x1) :
    Calls Try.prog 90 #[v0, v1] w (RetM (blkOf v0).toList w SRel.any (boxR 27 Y23 r v0)) := by
  unfold spec_l06Stroke at hF
  refine start (args := [v0, v1]) Try.func90 rfl 33 rfl (blkOf v0).toList [(0, (SRel.eq v0)), (1, ((TP Y36).sv x1))] [(1, (boxR 27 Y23 x0 v0))] (sat_mut (r := (boxR 27 Y23 x0 v0)) 1 hm) rfl (args1 rfl rfl (args1 rfl h1 (args0))) ?_
  refine T.seq ?_
  obtain ⟨x14, e2, hF⟩ := bindS hF
  refine T.region mix 10 [6, 7, 8, 9, 10, 11, 12, 13, 14, 4] [0, 1, 3, 7, 0, 16, 48, 112, 255, 511] [(sp ((TP Y36).sv x1)), (sp ((TP Y36).sv x1)), (sp ((TP Y25).sv x1.1)), (sp (Y25.sv x1.1)), (sp ((TP Y36).sv x1)), (sp ((TP Y36).sv x1)), (sp ((TP Y25).sv x1.2.1)), (sp (Y25.sv x1.2.1)), (sp (Y64.sv x14)), (sp (Y64.sv x14))] (by kernel_rfl) (AOK.cons (fun ρ a w hs hz hΓ hp => gp (d_move (hΓ 1 rfl))) (AOK.cons (fun ρ a w hs hz hΓ hp => gp (d_nilCheckP (hp 0 _ rfl rfl).1)) (AOK.cons (fun ρ a w hs hz hΓ hp => gp (d_fieldP fa40_0 (hp 1 _ rfl rfl).1 (At.fst (At.refl _ _)))) (AOK.cons (fun ρ a w hs hz hΓ hp => gp (d_load y29 hs.le (hp 2 _ rfl rfl).1)) (AOK.cons (fun ρ a w hs hz hΓ hp => gp (d_move (hΓ 1 rfl))) (AOK.cons (fun ρ a w hs hz hΓ hp => gp (d_nilCheckP (hp 4 _ rfl rfl).1)) (AOK.cons (fun ρ a w hs hz hΓ hp => gp (d_fieldP fa40_1 (hp 5 _ rfl rfl).1 (At.fst (At.snd (At.refl _ _))))) (AOK.cons (fun ρ a w hs hz hΓ hp => gp (d_load y29 hs.le (hp 6 _ rfl rfl).1)) (AOK.cons (fun ρ a w hs hz hΓ hp => gp (d_callR fn82 hs.le mapA2 (c82 w _ _ hs.le e2 ((hp 3 _ rfl rfl).1) ((hp 7 _ rfl rfl).1)))) (AOK.cons (fun ρ a w hs hz hΓ hp => gp (d_assign (hp 8 _ rfl rfl).1)) AOK.nil rfl) rfl) rfl) rfl) rfl) rfl) rfl) rfl) rfl) rfl) (fun vs1 => ?_)
  refine T.nil ?_
  refine T.norm ?_
  refine T.seq ?_
  refine T.region mix 1 [5] [0] [(sp ((TI .i64).sv 0))] (by kernel_rfl) (AOK.cons (fun ρ a w hs hz hΓ hp => gp (d_assign (vI rfl))) AOK.nil rfl) (fun vs3 => ?_)
  refine T.nil ?_
  refine T.norm ?_
  obtain ⟨yl4, e5, hF⟩ := bindS hF
  refine T.joinD (ι := (Int × (List Int)) × (Unit)) (fun p => yl4 = p.1) (Γ' := fun p => E []) (H' := fun p => HL [(1, (boxR 27 Y23 p.1.2 v0))]) (fun p hy => ?_) (fun hk => ?_)
  · obtain ⟨⟨o5, or1⟩, _⟩ := p
    cases hy
    refine T.atEnd ?_
    obtain rfl := Option.some.inj hF
    refine T.finM fun ρ a w st => ?_
    exact ⟨_, results_no rfl, fun σ => trivial, mut_on st.sat 1 rfl (loose_boxR (flat_TArr (flat_TI _))) rfl⟩
  · skip
    refine T.block ?_
    refine T.loop (f := spec_l06Stroke_l1 x1 x14) (σ := (Int × (List Int))) (Z := Unit) (fun s z => E [(0, (SRel.eq v0)), (1, ((TP Y36).sv x1)), (4, (Y64.sv x14)), (5, ((TI .i64).sv s.1))]) (fun s z => HL [(1, (boxR 27 Y23 s.2 v0))]) e5 () (fun φ h => T.toh h ⟨fun _ _ h => h, fun _ _ h => h, fun _ _ h => h, fun _ _ h => h, trivial⟩ ⟨rfl, trivial⟩) (fun k s z uu4 hu4 hn4 => ?_)
    obtain ⟨s5, sr1⟩ := s
    dsimp only [spec_l06Stroke_l1] at hu4
    refine T.seq ?_
    refine T.seq ?_
    refine T.region mix 4 [15, 16, 17, 18] [0, 0, 2, 7] [(sp ((TI .i64).sv s5)), (sp (Y64.sv x14)), (sp ((TI .i64).sv (x14.length : Int))), (sp (TB.sv (decide (s5 < (x14.length : Int)))))] (by kernel_rfl) (AOK.cons (fun ρ a w hs hz hΓ hp => gp (d_move (hΓ 5 rfl))) (AOK.cons (fun ρ a w hs hz hΓ hp => gp (d_move (hΓ 4 rfl))) (AOK.cons (fun ρ a w hs hz hΓ hp => gp (d_lenR u64 (hp 1 _ rfl rfl).1)) (AOK.cons (fun ρ a w hs hz hΓ hp => gp (d_lss (hp 0 _ rfl rfl).1 (hp 2 _ rfl rfl).1)) AOK.nil rfl) rfl) rfl) rfl) (fun vs6 => ?_)
    refine T.nil ?_
    refine T.norm ?_
    refine T.cond (b := (decide (s5 < (x14.length : Int)))) (fun _ _ h => h) (fun hc => ?_) (fun hc => ?_)
    · replace hu4 := iteT hu4 hc
      refine T.skip ?_
      refine T.norm ?_
      refine T.seq ?_
      refine T.block ?_
      refine T.seq ?_
      obtain ⟨x26, e8, hu4⟩ := bindS hu4
      refine T.region mix 6 [21, 22, 23, 24, 25, 26] [0, 1, 3, 7, 0, 31] [(sp ((TP Y36).sv x1)), (sp ((TP Y36).sv x1)), (sp ((TP (TI .i8)).sv x1.2.2)), (sp ((TI .i8).sv x1.2.2)), (sp ((TI .i64).sv s5)), (sp (TB.sv x26))] (by kernel_rfl) (AOK.cons (fun ρ a w hs hz hΓ hp => gp (d_move (hΓ 1 rfl))) (AOK.cons (fun ρ a w hs hz hΓ hp => gp (d_nilCheckP (hp 0 _ rfl rfl).1)) (AOK.cons (fun ρ a w hs hz hΓ hp => gp (d_fieldP fa40_2 (hp 1 _ rfl rfl).1 (At.snd (At.snd (At.refl _ _))))) (AOK.cons (fun ρ a w hs hz hΓ hp => gp (d_load y34 hs.le (hp 2 _ rfl rfl).1)) (AOK.cons (fun ρ a w hs hz hΓ hp => gp (d_move (hΓ 5 rfl))) (AOK.cons (fun ρ a w hs hz hΓ hp => gp (d_call fn62 hs.le mapA2 (c62 w _ _ hs.le e8 ((hp 3 _ rfl rfl).1) ((hp 4 _ rfl rfl).1)))) AOK.nil rfl) rfl) rfl) rfl) rfl) rfl) (fun vs7 => ?_)
      refine T.nil ?_
      refine T.norm ?_
      obtain ⟨r1, e9, hu4⟩ := bindS hu4
      refine T.joinS (Γ' := fun (z : Unit) => E [(0, (SRel.eq v0)), (1, ((TP Y36).sv x1)), (4, (Y64.sv x14)), (5, ((TI .i64).sv s5))]) (H' := fun (z : Unit) => HL [(1, (boxR 27 Y23 r1 v0))]) (fun zz => ?_) (fun hk => ?_)
      · skip
        refine T.fallX ?_
        refine T.norm ?_
        refine T.region mix 3 [19, 20, 5] [0, 1, 3] [(sp ((TI .i64).sv s5)), (sp ((TI .i64).sv (IntKind.i64.wrap (s5 + 1)))), (sp ((TI .i64).sv (IntKind.i64.wrap (s5 + 1))))] (by kernel_rfl) (AOK.cons (fun ρ a w hs hz hΓ hp => gp (d_move (hΓ 5 rfl))) (AOK.cons (fun ρ a w hs hz hΓ hp => gp (d_add (hp 0 _ rfl rfl).1 (vI rfl))) (AOK.cons (fun ρ a w hs hz hΓ hp => gp (d_assign (hp 1 _ rfl rfl).1)) AOK.nil rfl) rfl) rfl) (fun vs10 => ?_)
        refine T.nil ?_
        obtain rfl := Option.some.inj hu4
        exact T.again hn4 () (fun φ h => T.toh h ⟨fun _ _ h => h, fun _ _ h => h, fun _ _ h => h, fun _ _ h => h, trivial⟩ ⟨rfl, trivial⟩)
      · refine T.cond (b := x26) (fun _ _ h => h) (fun hc => ?_) (fun hc => ?_)
        · replace e9 := iteT e9 hc
          obtain ⟨x30, e12, e9⟩ := bindS e9
          refine T.region mix 5 [27, 28, 29, 30, 31] [0, 0, 0, 6, 14, 31] [(sp (SRel.eq v0)), (sp (Y64.sv x14)), (sp ((TI .i64).sv s5)), (sp ((TP Y25).sv x30)), (sp (Y25.sv x30))] (by kernel_rfl) (AOK.cons (fun ρ a w hs hz hΓ hp => gp (d_move (hΓ 0 rfl))) (AOK.cons (fun ρ a w hs hz hΓ hp => gp (d_move (hΓ 4 rfl))) (AOK.cons (fun ρ a w hs hz hΓ hp => gp (d_move (hΓ 5 rfl))) (AOK.cons (fun ρ a w hs hz hΓ hp => gp (d_idxR u64 y29 (hp 1 _ rfl rfl).1 (hp 2 _ rfl rfl).1 e12)) (AOK.cons (fun ρ a w hs hz hΓ hp => gp (d_load y29 hs.le (hp 3 _ rfl rfl).1)) AOK.nil rfl) rfl) rfl) rfl) rfl) (fun vs11 => ?_)
          obtain ⟨x32, e13, e9⟩ := bindS e9
          refine T.callB (R := SRel.any) (r := (boxR 27 Y23 sr1 v0)) (r' := (boxR 27 Y23 x32 v0)) 1 fn120 rfl rfl (loose_boxR (flat_TArr (flat_TI _))) (loose_boxR (flat_TArr (flat_TI _))) rfl (fun ρ a w st hle hm => ?_) ?_
          · rw [mapA3]; exact call_at (r := boxR 27 Y23 x32) (st.env 27) (c120 w _ _ _  e13 (hm_at (r := boxR 27 Y23 sr1) (st.env 27) hm) (Ty.val_mono _ (le_at (st.env 27) hle) (st.env 31)) (Ty.val_mono _ (le_at (st.env 27) hle) (vB _)))
          refine T.nil ?_
          cases e9
          exact T.toh (hk ()) ⟨fun _ _ h => h, fun _ _ h => h, fun _ _ h => h, fun _ _ h => h, trivial⟩ ⟨rfl, trivial⟩
        · replace e9 := iteF e9 hc
          refine T.skip ?_
          cases e9
          exact T.toh (hk ()) ⟨fun _ _ h => h, fun _ _ h => h, fun _ _ h => h, fun _ _ h => h, trivial⟩ ⟨rfl, trivial⟩
    · replace hu4 := iteF hu4 hc
      refine T.exit ?_
      obtain rfl := Option.some.inj hu4
      repeat (first | refine T.passX ?_ | refine T.inX (by decide) ?_)
      refine T.hereX ?_
      exact T.toh (hk ((s5, sr1), ()) (Eq.symm hn4)) trivial ⟨rfl, trivial⟩

theorem c57 (w : World) (v0 v1 : Value) {σ : Heap} (hσ : σ.le (snap w)) {x0 : (List Int)} {x1 : (List ((List Int) × (List Int) × Int))} {r : ((List Int) × Int)} (hF : spec_DrawStrokes x0 x1 = some r) (h0 : Y23.val σ v0 x0) (h1 : Y77.val σ v1 x1) :
    Calls Try.prog 57 #[v0, v1] w (Ret [] w σ (SRel.tup2 (Y23.sv r.1) ((TI .i64).sv r.2)) []) := by
  unfold spec_DrawStrokes at hF
  refine start (args := [v0, v1]) Try.func57 rfl 25 rfl [] [(0, (Y23.sv x0)), (1, (Y77.sv x1))] [] (sat_start _ hσ) rfl (args1 rfl h0 (args1 rfl h1 (args0))) ?_
  refine T.seq ?_
  refine T.region mix 3 [2, 4, 5] [0, 0, 0] [(sO SRel.any [(1, (boxR 27 Y23 x0))]), (sO SRel.any [(2, (boxR 27 Y23 (List.replicate 64 0)))]), (sp ((TI .i64).sv 0))] (by kernel_rfl) (AOK.cons (fun ρ a w hs hz hΓ hp => g_box hs.le (hΓ 0 rfl)) (AOK.cons (fun ρ a w hs hz hΓ hp => g_alloc hs.le z27 zc27) (AOK.cons (fun ρ a w hs hz hΓ hp => gp (d_assign (vI rfl))) AOK.nil rfl) rfl) rfl) (fun vs1 => ?_)
  refine T.nil ?_
  refine T.norm ?_
  refine T.seq ?_
  refine T.seq ?_
  obtain ⟨x9, e3, hF⟩ := bindS hF
  refine T.region mix 3 [8, 9, 6] [0, 1, 3] [(sp (Y77.sv x1)), (sp ((TI .i64).sv x9)), (sp ((TI .i64).sv x9))] (by kernel_rfl) (AOK.cons (fun ρ a w hs hz hΓ hp => gp (d_move (hΓ 1 rfl))) (AOK.cons (fun ρ a w hs hz hΓ hp => gp (d_call fn95 hs.le mapA1 (c95 w _ hs.le e3 ((hp 0 _ rfl rfl).1)))) (AOK.cons (fun ρ a w hs hz hΓ hp => gp (d_assign (hp 1 _ rfl rfl).1)) AOK.nil rfl) rfl) rfl) (fun vs2 => ?_)
  refine T.nil ?_
  refine T.norm ?_
  refine T.seq ?_
  refine T.region mix 2 [10, 11] [0, 1] [(sp ((TI .i64).sv x9)), (sp (TB.sv (decide (x9 ≠ 0))))] (by kernel_rfl) (AOK.cons (fun ρ a w hs hz hΓ hp => gp (d_move (hΓ 6 rfl))) (AOK.cons (fun ρ a w hs hz hΓ hp => gp (d_neq (hp 0 _ rfl rfl).1 (vI rfl))) AOK.nil rfl) rfl) (fun vs4 => ?_)
  refine T.nil ?_
  refine T.norm ?_
  refine T.cond (b := (decide (x9 ≠ 0))) (fun _ _ h => h) (fun hc => ?_) (fun hc => ?_)
  · replace hF := iteT hF hc
    refine T.seq ?_
    refine T.region mix 2 [12, 13] [0, 0, 1, 7] [(sp (Y23.sv ((List.replicate 64 0) : (List Int)))), (sp ((TI .i64).sv x9))] (by kernel_rfl) (AOK.cons (fun ρ a w hs hz hΓ hp => gp (d_buildA u27 y22 z27 zc27 (Fills.done _))) (AOK.cons (fun ρ a w hs hz hΓ hp => gp (d_move (hΓ 6 rfl))) AOK.nil rfl) rfl) (fun vs5 => ?_)
    refine T.store 2 y27 rfl (fun ρ a w st => ⟨.inl ⟨(st.env 4).1, rfl⟩, (st.env 12)⟩) (At.refl Y23 (List.replicate 64 0)) ?_
    refine T.does (R := ((TI .i64).sv x9)) rfl (fun ρ a w st => have hs := st.sat; d_assign (st.env 13)) ?_
    refine T.nil ?_
    refine T.norm ?_
    refine T.ret ?_
    obtain rfl := Option.some.inj hF
    refine T.fin0 fun ρ a w st => ?_
    obtain ⟨q0, hr0, hv0⟩ := rv_cell y27 st.sat 2 rfl (st.env 4).1
    exact ⟨_, results_two rfl hr0 rfl, ⟨_, _, rfl, hv0, (st.env 5)⟩⟩
  · replace hF := iteF hF hc
    refine T.skip ?_
    refine T.norm ?_
    refine T.seq ?_
    refine T.seq ?_
    refine T.region mix 1 [7] [0] [(sp ((TI .i64).sv 0))] (by kernel_rfl) (AOK.cons (fun ρ a w hs hz hΓ hp => gp (d_assign (vI rfl))) AOK.nil rfl) (fun vs6 => ?_)
    refine T.nil ?_
    refine T.norm ?_
    obtain ⟨yl7, e8, hF⟩ := bindS hF
    refine T.joinD (ι := (Int × (List Int)) × (Unit)) (fun p => yl7 = p.1) (Γ' := fun p => E [(2, (SRel.eq (vs1 0))), (4, (SRel.eq (vs1 1)))]) (H' := fun p => HL [(1, (boxR 27 Y23 p.1.2 (vs1 0))), (2, (boxR 27 Y23 (List.replicate 64 0) (vs1 1)))]) (fun p hy => ?_) (fun hk => ?_)
    · obtain ⟨⟨o7, or1⟩, _⟩ := p
      cases hy
      refine T.norm ?_
      refine T.seq ?_
      refine T.region mix 1 [24] [0, 1, 3] [(sp (Y23.sv or1))] (by kernel_rfl) (AOK.cons (fun ρ a w hs hz hΓ hp => gp (d_loadO y27 hs 1 rfl (.inl ⟨(hΓ 2 rfl), rfl⟩) (At.refl Y23 or1))) AOK.nil rfl) (fun vs9 => ?_)
      refine T.store 2 y27 rfl (fun ρ a w st => ⟨.inl ⟨(st.env 4), rfl⟩, (st.env 24)⟩) (At.refl Y23 (List.replicate 64 0)) ?_
      refine T.does (R := ((TI .i64).sv 0)) rfl (fun ρ a w st => have hs := st.sat; d_assign (vI rfl)) ?_
      refine T.nil ?_
      refine T.norm ?_
      refine T.ret ?_
      obtain rfl := Option.some.inj hF
      refine T.fin0 fun ρ a w st => ?_
      obtain ⟨q0, hr0, hv0⟩ := rv_cell y27 st.sat 2 rfl (st.env 4)
      exact ⟨_, results_two rfl hr0 rfl, ⟨_, _, rfl, hv0, (st.env 5)⟩⟩
    · skip
      refine T.block ?_
      refine T.loop (f := spec_DrawStrokes_l1 x1) (σ := (Int × (List Int))) (Z := Unit) (fun s z => E [(1, (Y77.sv x1)), (2, (SRel.eq (vs1 0))), (4, (SRel.eq (vs1 1))), (7, ((TI .i64).sv s.1))]) (fun s z => HL [(1, (boxR 27 Y23 s.2 (vs1 0))), (2, (boxR 27 Y23 (List.replicate 64 0) (vs1 1)))]) e8 () (fun φ h => T.toh h ⟨fun _ _ h => h, fun _ _ h => h.1, fun _ _ h => h.1, fun _ _ h => h, trivial⟩ ⟨rfl, rfl, trivial⟩) (fun k s z uu7 hu7 hn7 => ?_)
      obtain ⟨s7, sr1⟩ := s
      dsimp only [spec_DrawStrokes_l1] at hu7
      refine T.seq ?_
      refine T.seq ?_
      refine T.region mix 4 [14, 15, 16, 17] [0, 0, 2, 7] [(sp ((TI .i64).sv s7)), (sp (Y77.sv x1)), (sp ((TI .i64).sv (x1.length : Int))), (sp (TB.sv (decide (s7 < (x1.length : Int)))))] (by kernel_rfl) (AOK.cons (fun ρ a w hs hz hΓ hp => gp (d_move (hΓ 7 rfl))) (AOK.cons (fun ρ a w hs hz hΓ hp => gp (d_move (hΓ 1 rfl))) (AOK.cons (fun ρ a w hs hz hΓ hp => gp (d_lenR u83 (hp 1 _ rfl rfl).1)) (AOK.cons (fun ρ a w hs hz hΓ hp => gp (d_lss (hp 0 _ rfl rfl).1 (hp 2 _ rfl rfl).1)) AOK.nil rfl) rfl) rfl) rfl) (fun vs10 => ?_)
      refine T.nil ?_
      refine T.norm ?_
      refine T.cond (b := (decide (s7 < (x1.length : Int)))) (fun _ _ h => h) (fun hc => ?_) (fun hc => ?_)
      · replace hu7 := iteT hu7 hc
        refine T.skip ?_
        refine T.norm ?_
        refine T.seq ?_
        refine T.block ?_
        obtain ⟨x22, e12, hu7⟩ := bindS hu7
        refine T.region mix 3 [20, 21, 22] [0, 0, 3, 7] [(sp (Y77.sv x1)), (sp ((TI .i64).sv s7)), (sp ((TP Y36).sv x22))] (by kernel_rfl) (AOK.cons (fun ρ a w hs hz hΓ hp => gp (d_move (hΓ 1 rfl))) (AOK.cons (fun ρ a w hs hz hΓ hp => gp (d_move (hΓ 7 rfl))) (AOK.cons (fun ρ a w hs hz hΓ hp => gp (d_idxR u83 y40 (hp 0 _ rfl rfl).1 (hp 1 _ rfl rfl).1 e12)) AOK.nil rfl) rfl) rfl) (fun vs11 => ?_)
        obtain ⟨x23, e13, hu7⟩ := bindS hu7
        refine T.callB (R := SRel.any) (r := (boxR 27 Y23 sr1 (vs1 0))) (r' := (boxR 27 Y23 x23 (vs1 0))) 1 fn90 rfl rfl (loose_boxR (flat_TArr (flat_TI _))) (loose_boxR (flat_TArr (flat_TI _))) rfl (fun ρ a w st hle hm => ?_) ?_
        · rw [mapA2]; exact call_at (r := boxR 27 Y23 x23) (st.env 2) (c90 w _ _  e13 (hm_at (r := boxR 27 Y23 sr1) (st.env 2) hm) (Ty.val_mono _ (le_at (st.env 2) hle) (st.env 22)))
        refine T.nil ?_
        refine T.fallX ?_
        refine T.norm ?_
        refine T.region mix 3 [18, 19, 7] [0, 1, 3] [(sp ((TI .i64).sv s7)), (sp ((TI .i64).sv (IntKind.i64.wrap (s7 + 1)))), (sp ((TI .i64).sv (IntKind.i64.wrap (s7 + 1))))] (by kernel_rfl) (AOK.cons (fun ρ a w hs hz hΓ hp => gp (d_move (hΓ 7 rfl))) (AOK.cons (fun ρ a w hs hz hΓ hp => gp (d_add (hp 0 _ rfl rfl).1 (vI rfl))) (AOK.cons (fun ρ a w hs hz hΓ hp => gp (d_assign (hp 1 _ rfl rfl).1)) AOK.nil rfl) rfl) rfl) (fun vs14 => ?_)
        refine T.nil ?_
        obtain rfl := Option.some.inj hu7
        exact T.again hn7 () (fun φ h => T.toh h ⟨fun _ _ h => h, fun _ _ h => h, fun _ _ h => h, fun _ _ h => h, trivial⟩ ⟨rfl, rfl, trivial⟩)
      · replace hu7 := iteF hu7 hc
        refine T.exit ?_
        obtain rfl := Option.some.inj hu7
        repeat (first | refine T.passX ?_ | refine T.inX (by decide) ?_)
        refine T.hereX ?_
        exact T.toh (hk ((s7, sr1), ()) (Eq.symm hn7)) ⟨fun _ _ h => h, fun _ _ h => h, trivial⟩ ⟨rfl, rfl, trivial⟩

theorem c132 (w : World) (v0 v1 : Value) {σ : Heap} (hσ : σ.le (snap w)) {x0 : (List ((List Int) × (List Int) × Int))} {x1 : (((List Int) × (List Int) × Int) → Option Bool)} {r : Int} (hF : slices_IndexFunc_Stroke_Stroke x0 x1 = some r) (h0 : Y77.val σ v0 x0) (h1 : (fn1 Try.prog Y36 TB x1).p σ v1) :
    Calls Try.prog 132 #[v0, v1] w (Ret [] w σ ((TI .i64).sv r) []) := by
  unfold slices_IndexFunc_Stroke_Stroke at hF
  refine start (args := [v0, v1]) Try.func132 rfl 19 rfl [] [(0, (Y77.sv x0)), (1, (fn1 Try.prog Y36 TB x1))] [] (sat_start _ hσ) rfl (args1 rfl h0 (args1 rfl h1 (args0))) ?_
  refine T.seq ?_
  refine T.region mix 1 [4] [0] [(sp ((TI .i64).sv 0))] (by kernel_rfl) (AOK.cons (fun ρ a w hs hz hΓ hp => gp (d_assign (vI rfl))) AOK.nil rfl) (fun vs1 => ?_)
  refine T.nil ?_
  refine T.norm ?_
  refine T.seq ?_
  refine T.seq ?_
  refine T.region mix 3 [6, 7, 8] [0, 1, 0] [(sp (Y77.sv x0)), (sp ((TI .i64).sv (x0.length : Int))), (sp ((TI .i64).sv 0))] (by kernel_rfl) (AOK.cons (fun ρ a w hs hz hΓ hp => gp (d_move (hΓ 0 rfl))) (AOK.cons (fun ρ a w hs hz hΓ hp => gp (d_lenR u83 (hp 0 _ rfl rfl).1)) (AOK.cons (fun ρ a w hs hz hΓ hp => gp (d_move (vI rfl))) AOK.nil rfl) rfl) rfl) (fun vs2 => ?_)
  refine T.nil ?_
  refine T.norm ?_
  obtain ⟨yl3, e4, hF⟩ := bindS hF
  refine T.joinD (ι := Int × (Unit)) (fun p => yl3 = .inl p.1) (Γ' := fun p => E []) (H' := fun p => HL []) (fun p hy => ?_) (fun hk => ?_)
  · obtain ⟨o8, _⟩ := p
    cases hy
    refine T.norm ?_
    refine T.seq ?_
    refine T.region mix 1 [4] [0] [(sp ((TI .i64).sv (-1)))] (by kernel_rfl) (AOK.cons (fun ρ a w hs hz hΓ hp => gp (d_assign (vI rfl))) AOK.nil rfl) (fun vs5 => ?_)
    refine T.nil ?_
    refine T.norm ?_
    refine T.ret ?_
    obtain rfl := Option.some.inj hF
    refine T.fin0 fun ρ a w st => ?_
    exact ⟨_, results_one rfl rfl, (st.env 4)⟩
  · skip
    refine T.block ?_
    refine T.loop (f := slices_IndexFunc_Stroke_Stroke_l1 x0 x1) (σ := Int) (Z := Unit) (fun s z => E [(0, (Y77.sv x0)), (1, (fn1 Try.prog Y36 TB x1)), (7, ((TI .i64).sv (x0.length : Int))), (8, ((TI .i64).sv s))]) (fun s z => HL []) e4 () (fun φ h => T.toh h ⟨fun _ _ h => h, fun _ _ h => h, fun _ _ h => h, fun _ _ h => h, trivial⟩ trivial) (fun k s z uu3 hu3 hn3 => ?_)
    obtain ⟨s8, rfl⟩ : ∃ q, q = s := ⟨_, rfl⟩
    dsimp only [slices_IndexFunc_Stroke_Stroke_l1] at hu3
    refine T.seq ?_
    refine T.region mix 1 [9] [0] [(sp (TB.sv (decide (s8 < (x0.length : Int)))))] (by kernel_rfl) (AOK.cons (fun ρ a w hs hz hΓ hp => gp (d_lss (hΓ 8 rfl) (hΓ 7 rfl))) AOK.nil rfl) (fun vs6 => ?_)
    refine T.nil ?_
    refine T.norm ?_
    refine T.seq ?_
    refine T.cond (b := (decide (s8 < (x0.length : Int)))) (fun _ _ h => h) (fun hc => ?_) (fun hc => ?_)
    · replace hu3 := iteT hu3 hc
      refine T.skip ?_
      refine T.norm ?_
      refine T.seq ?_
      refine T.block ?_
      refine T.seq ?_
      refine T.region mix 2 [10, 5] [0, 1] [(sp ((TI .i64).sv s8)), (sp ((TI .i64).sv s8))] (by kernel_rfl) (AOK.cons (fun ρ a w hs hz hΓ hp => gp (d_move (hΓ 8 rfl))) (AOK.cons (fun ρ a w hs hz hΓ hp => gp (d_assign (hp 0 _ rfl rfl).1)) AOK.nil rfl) rfl) (fun vs7 => ?_)
      refine T.nil ?_
      refine T.norm ?_
      refine T.seq ?_
      obtain ⟨x14, e9, hu3⟩ := bindS hu3
      obtain ⟨x16, e10, hu3⟩ := bindS hu3
      refine T.region mix 6 [11, 12, 13, 14, 15, 16] [0, 0, 0, 6, 14, 31] [(sp (fn1 Try.prog Y36 TB x1)), (sp (Y77.sv x0)), (sp ((TI .i64).sv s8)), (sp ((TP Y36).sv x14)), (sp (Y36.sv x14)), (sp (TB.sv x16))] (by kernel_rfl) (AOK.cons (fun ρ a w hs hz hΓ hp => gp (d_move (hΓ 1 rfl))) (AOK.cons (fun ρ a w hs hz hΓ hp => gp (d_move (hΓ 0 rfl))) (AOK.cons (fun ρ a w hs hz hΓ hp => gp (d_move (hΓ 5 rfl))) (AOK.cons (fun ρ a w hs hz hΓ hp => gp (d_idxR u83 y40 (hp 1 _ rfl rfl).1 (hp 2 _ rfl rfl).1 e9)) (AOK.cons (fun ρ a w hs hz hΓ hp => gp (d_load y40 hs.le (hp 3 _ rfl rfl).1)) (AOK.cons (fun ρ a w hs hz hΓ hp => gp (d_callV1 hs.le flat_TB ((hp 0 _ rfl rfl).1) ((hp 4 _ rfl rfl).1) e10)) AOK.nil rfl) rfl) rfl) rfl) rfl) rfl) (fun vs8 => ?_)
      refine T.nil ?_
      refine T.norm ?_
      refine T.cond (b := x16) (fun _ _ h => h) (fun hc => ?_) (fun hc => ?_)
      · replace hu3 := iteT hu3 hc
        refine T.seq ?_
        refine T.region mix 2 [17, 4] [0, 1] [(sp ((TI .i64).sv s8)), (sp ((TI .i64).sv s8))] (by kernel_rfl) (AOK.cons (fun ρ a w hs hz hΓ hp => gp (d_move (hΓ 5 rfl))) (AOK.cons (fun ρ a w hs hz hΓ hp => gp (d_assign (hp 0 _ rfl rfl).1)) AOK.nil rfl) rfl) (fun vs11 => ?_)
        refine T.nil ?_
        refine T.norm ?_
        refine T.ret ?_
        obtain rfl := Option.some.inj hu3
        cases hn3
        obtain rfl := Option.some.inj hF
        refine T.fin0 fun ρ a w st => ?_
        exact ⟨_, results_one rfl rfl, (st.env 4)⟩
      · replace hu3 := iteF hu3 hc
        refine T.skip ?_
        refine T.fallX ?_
        refine T.norm ?_
        refine T.region mix 2 [18, 8] [0, 1] [(sp ((TI .i64).sv (IntKind.i64.wrap (s8 + 1)))), (sp ((TI .i64).sv (IntKind.i64.wrap (s8 + 1))))] (by kernel_rfl) (AOK.cons (fun ρ a w hs hz hΓ hp => gp (d_add (hΓ 8 rfl) (vI rfl))) (AOK.cons (fun ρ a w hs hz hΓ hp => gp (d_move (hp 0 _ rfl rfl).1)) AOK.nil rfl) rfl) (fun vs12 => ?_)
        refine T.nil ?_
        obtain rfl := Option.some.inj hu3
        exact T.again hn3 () (fun φ h => T.toh h ⟨fun _ _ h => h, fun _ _ h => h, fun _ _ h => h, fun _ _ h => h, trivial⟩ trivial)
    · replace hu3 := iteF hu3 hc
      refine T.exit ?_
      obtain rfl := Option.some.inj hu3
      repeat (first | refine T.passX ?_ | refine T.inX (by decide) ?_)
      refine T.hereX ?_
      exact T.toh (hk (s8, ()) (Eq.symm hn3)) trivial trivial

theorem c124 (w : World) (v0 v1 : Value) {σ : Heap} (hσ : σ.le (snap w)) {x0 : (List ((List Int) × (List Int) × Int))} {x1 : (((List Int) × (List Int) × Int) → Option Bool)} {r : Bool} (hF : slices_ContainsFunc_Stroke_Stroke x0 x1 = some r) (h0 : Y77.val σ v0 x0) (h1 : (fn1 Try.prog Y36 TB x1).p σ v1) :
    Calls Try.prog 124 #[v0, v1] w (Ret [] w σ (TB.sv r) []) := by
  unfold slices_ContainsFunc_Stroke_Stroke at hF
  refine start (args := [v0, v1]) Try.func124 rfl 9 rfl [] [(0, (Y77.sv x0)), (1, (fn1 Try.prog Y36 TB x1))] [] (sat_start _ hσ) rfl (args1 rfl h0 (args1 rfl h1 (args0))) ?_
  refine T.seq ?_
  refine T.region mix 1 [4] [0] [(sp (TB.sv false))] (by kernel_rfl) (AOK.cons (fun ρ a w hs hz hΓ hp => gp (d_assign (vB _))) AOK.nil rfl) (fun vs1 => ?_)
  refine T.nil ?_
  refine T.norm ?_
  refine T.seq ?_
  obtain ⟨x7, e3, hF⟩ := bindS hF
  refine T.region mix 5 [5, 6, 7, 8, 4] [0, 0, 3, 7, 15] [(sp (Y77.sv x0)), (sp (fn1 Try.prog Y36 TB x1)), (sp ((TI .i64).sv x7)), (sp (TB.sv (decide (0 ≤ x7)))), (sp (TB.sv (decide (0 ≤ x7))))] (by kernel_rfl) (AOK.cons (fun ρ a w hs hz hΓ hp => gp (d_move (hΓ 0 rfl))) (AOK.cons (fun ρ a w hs hz hΓ hp => gp (d_move (hΓ 1 rfl))) (AOK.cons (fun ρ a w hs hz hΓ hp => gp (d_call fn132 hs.le mapA2 (c132 w _ _ hs.le e3 ((hp 0 _ rfl rfl).1) ((hp 1 _ rfl rfl).1)))) (AOK.cons (fun ρ a w hs hz hΓ hp => gp (d_geq (hp 2 _ rfl rfl).1 (vI rfl))) (AOK.cons (fun ρ a w hs hz hΓ hp => gp (d_assign (hp 3 _ rfl rfl).1)) AOK.nil rfl) rfl) rfl) rfl) rfl) (fun vs2 => ?_)
  refine T.nil ?_
  refine T.norm ?_
  refine T.ret ?_
  obtain rfl := Option.some.inj hF
  refine T.fin0 fun ρ a w st => ?_
  exact ⟨_, results_one rfl rfl, (st.env 4)⟩

theorem c87 (w : World) (v0 v1 : Value) {σ : Heap} (hσ : σ.le (snap w)) {x0 : Bool} {x1 : Int} {r : Int} (hF : impl_when x0 x1 = some r) (h0 : TB.val σ v0 x0) (h1 : (TI .i64).val σ v1 x1) :
    Calls Try.prog 87 #[v0, v1] w (Ret [] w σ ((TI .i64).sv r) []) := by
  unfold impl_when at hF
  refine start (args := [v0, v1]) Try.func87 rfl 7 rfl [] [(0, (TB.sv x0)), (1, ((TI .i64).sv x1))] [] (sat_start _ hσ) rfl (args1 rfl h0 (args1 rfl h1 (args0))) ?_
  refine T.seq ?_
  refine T.region mix 1 [4] [0] [(sp ((TI .i64).sv 0))] (by kernel_rfl) (AOK.cons (fun ρ a w hs hz hΓ hp => gp (d_assign (vI rfl))) AOK.nil rfl) (fun vs1 => ?_)
  refine T.nil ?_
  refine T.norm ?_
  refine T.seq ?_
  refine T.seq ?_
  refine T.region mix 1 [5] [0] [(sp (TB.sv x0))] (by kernel_rfl) (AOK.cons (fun ρ a w hs hz hΓ hp => gp (d_move (hΓ 0 rfl))) AOK.nil rfl) (fun vs2 => ?_)
  refine T.nil ?_
  refine T.norm ?_
  refine T.cond (b := x0) (fun _ _ h => h) (fun hc => ?_) (fun hc => ?_)
  · replace hF := iteT hF hc
    refine T.seq ?_
    refine T.region mix 2 [6, 4] [0, 1] [(sp ((TI .i64).sv x1)), (sp ((TI .i64).sv x1))] (by kernel_rfl) (AOK.cons (fun ρ a w hs hz hΓ hp => gp (d_move (hΓ 1 rfl))) (AOK.cons (fun ρ a w hs hz hΓ hp => gp (d_assign (hp 0 _ rfl rfl).1)) AOK.nil rfl) rfl) (fun vs3 => ?_)
    refine T.nil ?_
    refine T.norm ?_
    refine T.ret ?_
    obtain rfl := Option.some.inj hF
    refine T.fin0 fun ρ a w st => ?_
    exact ⟨_, results_one rfl rfl, (st.env 4)⟩
  · replace hF := iteF hF hc
    refine T.skip ?_
    refine T.norm ?_
    refine T.seq ?_
    refine T.region mix 1 [4] [0] [(sp ((TI .i64).sv 0))] (by kernel_rfl) (AOK.cons (fun ρ a w hs hz hΓ hp => gp (d_assign (vI rfl))) AOK.nil rfl) (fun vs4 => ?_)
    refine T.nil ?_
    refine T.norm ?_
    refine T.ret ?_
    obtain rfl := Option.some.inj hF
    refine T.fin0 fun ρ a w st => ?_
    exact ⟨_, results_one rfl rfl, (st.env 4)⟩

theorem c86 (w : World) (v0 : Value) {σ : Heap} (hσ : σ.le (snap w)) {x0 : (List Int)} {r : Int} (hF : impl_first x0 = some r) (h0 : Y78.val σ v0 x0) :
    Calls Try.prog 86 #[v0] w (Ret [] w σ ((TI .i64).sv r) []) := by
  unfold impl_first at hF
  refine start (args := [v0]) Try.func86 rfl 15 rfl [] [(0, (Y78.sv x0))] [] (sat_start _ hσ) rfl (args1 rfl h0 (args0)) ?_
  refine T.seq ?_
  refine T.region mix 1 [2] [0] [(sp ((TI .i64).sv 0))] (by kernel_rfl) (AOK.cons (fun ρ a w hs hz hΓ hp => gp (d_assign (vI rfl))) AOK.nil rfl) (fun vs1 => ?_)
  refine T.nil ?_
  refine T.norm ?_
  refine T.seq ?_
  refine T.seq ?_
  refine T.region mix 3 [5, 6, 7] [0, 1, 0] [(sp (Y78.sv x0)), (sp ((TI .i64).sv (x0.length : Int))), (sp ((TI .i64).sv 0))] (by kernel_rfl) (AOK.cons (fun ρ a w hs hz hΓ hp => gp (d_move (hΓ 0 rfl))) (AOK.cons (fun ρ a w hs hz hΓ hp => gp (d_lenR u78 (hp 0 _ rfl rfl).1)) (AOK.cons (fun ρ a w hs hz hΓ hp => gp (d_move (vI rfl))) AOK.nil rfl) rfl) rfl) (fun vs2 => ?_)
  refine T.nil ?_
  refine T.norm ?_
  obtain ⟨yl3, e4, hF⟩ := bindS hF
  refine T.joinD (ι := Int × (Unit)) (fun p => yl3 = .inl p.1) (Γ' := fun p => E []) (H' := fun p => HL []) (fun p hy => ?_) (fun hk => ?_)
  · obtain ⟨o7, _⟩ := p
    cases hy
    refine T.norm ?_
    refine T.seq ?_
    refine T.region mix 1 [2] [0] [(sp ((TI .i64).sv 0))] (by kernel_rfl) (AOK.cons (fun ρ a w hs hz hΓ hp => gp (d_assign (vI rfl))) AOK.nil rfl) (fun vs5 => ?_)
    refine T.nil ?_
    refine T.norm ?_
    refine T.ret ?_
    obtain rfl := Option.some.inj hF
    refine T.fin0 fun ρ a w st => ?_
    exact ⟨_, results_one rfl rfl, (st.env 2)⟩
  · skip
    refine T.block ?_
    refine T.loop (f := impl_first_l1 x0) (σ := Int) (Z := Unit) (fun s z => E [(5, (Y78.sv x0)), (6, ((TI .i64).sv (x0.length : Int))), (7, ((TI .i64).sv s))]) (fun s z => HL []) e4 () (fun φ h => T.toh h ⟨fun _ _ h => h, fun _ _ h => h, fun _ _ h => h, trivial⟩ trivial) (fun k s z uu3 hu3 hn3 => ?_)
    obtain ⟨s7, rfl⟩ : ∃ q, q = s := ⟨_, rfl⟩
    dsimp only [impl_first_l1] at hu3
    refine T.seq ?_
    refine T.region mix 1 [8] [0] [(sp (TB.sv (decide (s7 < (x0.length : Int)))))] (by kernel_rfl) (AOK.cons (fun ρ a w hs hz hΓ hp => gp (d_lss (hΓ 7 rfl) (hΓ 6 rfl))) AOK.nil rfl) (fun vs6 => ?_)
    refine T.nil ?_
    refine T.norm ?_
    refine T.seq ?_
    refine T.cond (b := (decide (s7 < (x0.length : Int)))) (fun _ _ h => h) (fun hc => ?_) (fun hc => ?_)
    · replace hu3 := iteT hu3 hc
      refine T.skip ?_
      refine T.norm ?_
      refine T.seq ?_
      refine T.block ?_
      refine T.seq ?_
      obtain ⟨x9, e8, hu3⟩ := bindS hu3
      refine T.region mix 3 [9, 10, 4] [0, 1, 3] [(sp ((TP (TI .i64)).sv x9)), (sp ((TI .i64).sv x9)), (sp ((TI .i64).sv x9))] (by kernel_rfl) (AOK.cons (fun ρ a w hs hz hΓ hp => gp (d_idxR u78 y2 (hΓ 5 rfl) (hΓ 7 rfl) e8)) (AOK.cons (fun ρ a w hs hz hΓ hp => gp (d_load y2 hs.le (hp 0 _ rfl rfl).1)) (AOK.cons (fun ρ a w hs hz hΓ hp => gp (d_assign (hp 1 _ rfl rfl).1)) AOK.nil rfl) rfl) rfl) (fun vs7 => ?_)
      refine T.nil ?_
      refine T.norm ?_
      refine T.seq ?_
      refine T.region mix 2 [11, 12] [0, 1] [(sp ((TI .i64).sv x9)), (sp (TB.sv (decide (x9 ≠ 0))))] (by kernel_rfl) (AOK.cons (fun ρ a w hs hz hΓ hp => gp (d_move (hΓ 4 rfl))) (AOK.cons (fun ρ a w hs hz hΓ hp => gp (d_neq (hp 0 _ rfl rfl).1 (vI rfl))) AOK.nil rfl) rfl) (fun vs9 => ?_)
      refine T.nil ?_
      refine T.norm ?_
      refine T.cond (b := (decide (x9 ≠ 0))) (fun _ _ h => h) (fun hc => ?_) (fun hc => ?_)
      · replace hu3 := iteT hu3 hc
        refine T.seq ?_
        refine T.region mix 2 [13, 2] [0, 1] [(sp ((TI .i64).sv x9)), (sp ((TI .i64).sv x9))] (by kernel_rfl) (AOK.cons (fun ρ a w hs hz hΓ hp => gp (d_move (hΓ 4 rfl))) (AOK.cons (fun ρ a w hs hz hΓ hp => gp (d_assign (hp 0 _ rfl rfl).1)) AOK.nil rfl) rfl) (fun vs10 => ?_)
        refine T.nil ?_
        refine T.norm ?_
        refine T.ret ?_
        obtain rfl := Option.some.inj hu3
        cases hn3
        obtain rfl := Option.some.inj hF
        refine T.fin0 fun ρ a w st => ?_
        exact ⟨_, results_one rfl rfl, (st.env 2)⟩
      · replace hu3 := iteF hu3 hc
        refine T.skip ?_
        refine T.fallX ?_
        refine T.norm ?_
        refine T.region mix 2 [14, 7] [0, 1] [(sp ((TI .i64).sv (IntKind.i64.wrap (s7 + 1)))), (sp ((TI .i64).sv (IntKind.i64.wrap (s7 + 1))))] (by kernel_rfl) (AOK.cons (fun ρ a w hs hz hΓ hp => gp (d_add (hΓ 7 rfl) (vI rfl))) (AOK.cons (fun ρ a w hs hz hΓ hp => gp (d_move (hp 0 _ rfl rfl).1)) AOK.nil rfl) rfl) (fun vs11 => ?_)
        refine T.nil ?_
        obtain rfl := Option.some.inj hu3
        exact T.again hn3 () (fun φ h => T.toh h ⟨fun _ _ h => h, fun _ _ h => h, fun _ _ h => h, trivial⟩ trivial)
    · replace hu3 := iteF hu3 hc
      refine T.exit ?_
      obtain rfl := Option.some.inj hu3
      repeat (first | refine T.passX ?_ | refine T.inX (by decide) ?_)
      refine T.hereX ?_
      exact T.toh (hk (s7, ()) (Eq.symm hn3)) trivial trivial

theorem c125 (w : World) (v0 : Value) {σ : Heap} (hσ : σ.le (snap w)) {x0 : ((List Int) × (List Int) × Int)} {r : Bool} (hF : impl_strokesCode_c1 x0 = some r) (h0 : Y36.val σ v0 x0) :
    Calls Try.prog 125 #[v0] w (Ret [] w σ (TB.sv r) []) := by
  unfold impl_strokesCode_c1 at hF
  refine start (args := [v0]) Try.func125 rfl 6 rfl [] [(0, (Y36.sv x0))] [] (sat_start _ hσ) rfl (args1 rfl h0 (args0)) ?_
  refine T.seq ?_
  refine T.region mix 2 [1, 2] [0, 0] [(sp ((TP Y36).sv x0)), (sp (TB.sv false))] (by kernel_rfl) (AOK.cons (fun ρ a w hs hz hΓ hp => gp (d_box hs.le (hΓ 0 rfl))) (AOK.cons (fun ρ a w hs hz hΓ hp => gp (d_assign (vB _))) AOK.nil rfl) rfl) (fun vs1 => ?_)
  refine T.nil ?_
  refine T.norm ?_
  refine T.seq ?_
  obtain ⟨x4, e3, hF⟩ := bindS hF
  refine T.region mix 4 [3, 4, 5, 2] [0, 1, 3, 7] [(sp (Y36.sv x0)), (sp (TB.sv x4)), (sp (TB.sv (!x4))), (sp (TB.sv (!x4)))] (by kernel_rfl) (AOK.cons (fun ρ a w hs hz hΓ hp => gp (d_load y40 hs.le (hΓ 1 rfl))) (AOK.cons (fun ρ a w hs hz hΓ hp => gp (d_call fn25 hs.le mapA1 (c25 w _ hs.le e3 ((hp 0 _ rfl rfl).1)))) (AOK.cons (fun ρ a w hs hz hΓ hp => gp (d_not (hp 1 _ rfl rfl).1)) (AOK.cons (fun ρ a w hs hz hΓ hp => gp (d_assign (hp 2 _ rfl rfl).1)) AOK.nil rfl) rfl) rfl) rfl) (fun vs2 => ?_)
  refine T.nil ?_
  refine T.norm ?_
  refine T.ret ?_
  obtain rfl := Option.some.inj hF
  refine T.fin0 fun ρ a w st => ?_
  exact ⟨_, results_one rfl rfl, (st.env 2)⟩

theorem c96 (w : World) (v0 : Value) {σ : Heap} (hσ : σ.le (snap w)) {x0 : (List ((List Int) × (List Int) × Int))} {r : Int} (hF : impl_strokesCode x0 = some r) (h0 : Y77.val σ v0 x0) :
    Calls Try.prog 96 #[v0] w (Ret [] w σ ((TI .i64).sv r) []) := by
  unfold impl_strokesCode at hF
  refine start (args := [v0]) Try.func96 rfl 14 rfl [] [(0, (Y77.sv x0))] [] (sat_start _ hσ) rfl (args1 rfl h0 (args0)) ?_
  refine T.seq ?_
  refine T.region mix 1 [2] [0] [(sp ((TI .i64).sv 0))] (by kernel_rfl) (AOK.cons (fun ρ a w hs hz hΓ hp => gp (d_assign (vI rfl))) AOK.nil rfl) (fun vs1 => ?_)
  refine T.nil ?_
  refine T.norm ?_
  refine T.seq ?_
  obtain ⟨x5, e3, hF⟩ := bindS hF
  refine T.region mix 3 [4, 5, 3] [0, 1, 3] [(sp (Y77.sv x0)), (sp (TB.sv x5)), (sp (TB.sv x5))] (by kernel_rfl) (AOK.cons (fun ρ a w hs hz hΓ hp => gp (d_move (hΓ 0 rfl))) (AOK.cons (fun ρ a w hs hz hΓ hp => gp (d_call fn124 hs.le mapA2 (c124 w _ _ hs.le e3 ((hp 0 _ rfl rfl).1) (fv1 fn125 flat_TB (fun w σ u0 x0 y hσ h0 hf => c125 w _  hσ hf h0))))) (AOK.cons (fun ρ a w hs hz hΓ hp => gp (d_assign (hp 1 _ rfl rfl).1)) AOK.nil rfl) rfl) rfl) (fun vs2 => ?_)
  refine T.nil ?_
  refine T.norm ?_
  refine T.seq ?_
  obtain ⟨x7, e5, hF⟩ := bindS hF
  obtain ⟨x11, e6, hF⟩ := bindS hF
  obtain ⟨x13, e7, hF⟩ := bindS hF
  refine T.region mix 9 [6, 7, 8, 9, 10, 11, 12, 13, 2] [0, 1, 0, 4, 12, 31, 63, 127, 255] [(sp (TB.sv x5)), (sp ((TI .i64).sv x7)), (sp (Y77.sv x0)), (sp ((TI .i64).sv (x0.length : Int))), (sp (TB.sv (decide (60 < (x0.length : Int))))), (sp ((TI .i64).sv x11)), (sp (Y78.sv ([x7, x11] : List Int))), (sp ((TI .i64).sv x13)), (sp ((TI .i64).sv x13))] (by kernel_rfl) (AOK.cons (fun ρ a w hs hz hΓ hp => gp (d_move (hΓ 3 rfl))) (AOK.cons (fun ρ a w hs hz hΓ hp => gp (d_call fn87 hs.le mapA2 (c87 w _ _ hs.le e5 ((hp 0 _ rfl rfl).1) (vI rfl)))) (AOK.cons (fun ρ a w hs hz hΓ hp => gp (d_move (hΓ 0 rfl))) (AOK.cons (fun ρ a w hs hz hΓ hp => gp (d_lenR u83 (hp 2 _ rfl rfl).1)) (AOK.cons (fun ρ a w hs hz hΓ hp => gp (d_gtr (hp 3 _ rfl rfl).1 (vI rfl))) (AOK.cons (fun ρ a w hs hz hΓ hp => gp (d_call fn87 hs.le mapA2 (c87 w _ _ hs.le e6 ((hp 4 _ rfl rfl).1) (vI rfl)))) (AOK.cons (fun ρ a w hs hz hΓ hp => gp (d_buildSl hs.le u78 y2 z2 (by decide) (by decide) zc2 (Fills.part rfl (hp 1 _ rfl rfl).1 (At.nth (At.refl _ _) 0 rfl) (Fills.part rfl (hp 5 _ rfl rfl).1 (At.nth (At.refl _ _) 1 rfl) (Fills.done _))))) (AOK.cons (fun ρ a w hs hz hΓ hp => gp (d_call fn86 hs.le mapA1 (c86 w _ hs.le e7 ((hp 6 _ rfl rfl).1)))) (AOK.cons (fun ρ a w hs hz hΓ hp => gp (d_assign (hp 7 _ rfl rfl).1)) AOK.nil rfl) rfl) rfl) rfl) rfl) rfl) rfl) rfl) rfl) (fun vs4 => ?_)
  refine T.nil ?_
  refine T.norm ?_
  refine T.ret ?_
  obtain rfl := Option.some.inj hF
  refine T.fin0 fun ρ a w st => ?_
  exact ⟨_, results_one rfl rfl, (st.env 2)⟩

theorem c117 (w : World) (v0 v1 : Value) {σ : Heap} (hσ : σ.le (snap w)) {x0 : Int} {x1 : Int} {r : Int} (hF : impl_roundQuotient x0 x1 = some r) (h0 : (TI .i64).val σ v0 x0) (h1 : (TI .i64).val σ v1 x1) :
    Calls Try.prog 117 #[v0, v1] w (Ret [] w σ ((TI .i64).sv r) []) := by
  unfold impl_roundQuotient at hF
  refine start (args := [v0, v1]) Try.func117 rfl 28 rfl [] [(0, ((TI .i64).sv x0)), (1, ((TI .i64).sv x1))] [] (sat_start _ hσ) rfl (args1 rfl h0 (args1 rfl h1 (args0))) ?_
  refine T.seq ?_
  refine T.region mix 1 [4] [0] [(sp ((TI .i64).sv 0))] (by kernel_rfl) (AOK.cons (fun ρ a w hs hz hΓ hp => gp (d_assign (vI rfl))) AOK.nil rfl) (fun vs1 => ?_)
  refine T.nil ?_
  refine T.norm ?_
  refine T.seq ?_
  refine T.seq ?_
  refine T.region mix 2 [6, 7] [0, 1] [(sp ((TI .i64).sv x1)), (sp (TB.sv (decide (x1 < 0))))] (by kernel_rfl) (AOK.cons (fun ρ a w hs hz hΓ hp => gp (d_move (hΓ 1 rfl))) (AOK.cons (fun ρ a w hs hz hΓ hp => gp (d_lss (hp 0 _ rfl rfl).1 (vI rfl))) AOK.nil rfl) rfl) (fun vs2 => ?_)
  refine T.nil ?_
  refine T.norm ?_
  obtain ⟨yy, e3, hF⟩ := bindS hF
  obtain ⟨y0, y1⟩ := yy
  refine T.joinS (Γ' := fun (z : Unit) => E [(0, ((TI .i64).sv y0)), (1, ((TI .i64).sv y1))]) (H' := fun (z : Unit) => HL []) (fun zz => ?_) (fun hk => ?_)
  · skip
    refine T.norm ?_
    refine T.seq ?_
    refine T.region mix 8 [12, 13, 14, 15, 16, 17, 0, 1] [0, 1, 0, 7, 0, 16, 15, 127] [(sp ((TI .i64).sv y0)), (sp ((TI .i64).sv (IntKind.i64.wrap (2 * y0)))), (sp ((TI .i64).sv y1)), (sp ((TI .i64).sv (IntKind.i64.wrap ((IntKind.i64.wrap (2 * y0)) + y1)))), (sp ((TI .i64).sv y1)), (sp ((TI .i64).sv (IntKind.i64.wrap (2 * y1)))), (sp ((TI .i64).sv (IntKind.i64.wrap ((IntKind.i64.wrap (2 * y0)) + y1)))), (sp ((TI .i64).sv (IntKind.i64.wrap (2 * y1))))] (by kernel_rfl) (AOK.cons (fun ρ a w hs hz hΓ hp => gp (d_move (hΓ 0 rfl))) (AOK.cons (fun ρ a w hs hz hΓ hp => gp (d_mul (vI rfl) (hp 0 _ rfl rfl).1)) (AOK.cons (fun ρ a w hs hz hΓ hp => gp (d_move (hΓ 1 rfl))) (AOK.cons (fun ρ a w hs hz hΓ hp => gp (d_add (hp 1 _ rfl rfl).1 (hp 2 _ rfl rfl).1)) (AOK.cons (fun ρ a w hs hz hΓ hp => gp (d_move (hΓ 1 rfl))) (AOK.cons (fun ρ a w hs hz hΓ hp => gp (d_mul (vI rfl) (hp 4 _ rfl rfl).1)) (AOK.cons (fun ρ a w hs hz hΓ hp => gp (d_assign (hp 3 _ rfl rfl).1)) (AOK.cons (fun ρ a w hs hz hΓ hp => gp (d_assign (hp 5 _ rfl rfl).1)) AOK.nil rfl) rfl) rfl) rfl) rfl) rfl) rfl) rfl) (fun vs4 => ?_)
    refine T.nil ?_
    refine T.norm ?_
    refine T.seq ?_
    obtain ⟨_u20, e6, hF⟩ := bindS hF
    refine T.region mix 4 [18, 19, 20, 5] [0, 0, 3, 7] [(sp ((TI .i64).sv (IntKind.i64.wrap ((IntKind.i64.wrap (2 * y0)) + y1)))), (sp ((TI .i64).sv (IntKind.i64.wrap (2 * y1)))), (sp ((TI .i64).sv (IntKind.i64.wrap (Int.tdiv (IntKind.i64.wrap ((IntKind.i64.wrap (2 * y0)) + y1)) (IntKind.i64.wrap (2 * y1)))))), (sp ((TI .i64).sv (IntKind.i64.wrap (Int.tdiv (IntKind.i64.wrap ((IntKind.i64.wrap (2 * y0)) + y1)) (IntKind.i64.wrap (2 * y1))))))] (by kernel_rfl) (AOK.cons (fun ρ a w hs hz hΓ hp => gp (d_move (hΓ 0 rfl))) (AOK.cons (fun ρ a w hs hz hΓ hp => gp (d_move (hΓ 1 rfl))) (AOK.cons (fun ρ a w hs hz hΓ hp => gp (d_quo (hp 0 _ rfl rfl).1 (hp 1 _ rfl rfl).1 (of_decide_eq_true (need_get e6)))) (AOK.cons (fun ρ a w hs hz hΓ hp => gp (d_assign (hp 2 _ rfl rfl).1)) AOK.nil rfl) rfl) rfl) rfl) (fun vs5 => ?_)
    refine T.nil ?_
    refine T.norm ?_
    refine T.seq ?_
    refine T.seq ?_
    obtain ⟨_u23, e8, hF⟩ := bindS hF
    refine T.region mix 4 [21, 22, 23, 24] [0, 0, 3, 7] [(sp ((TI .i64).sv (IntKind.i64.wrap ((IntKind.i64.wrap (2 * y0)) + y1)))), (sp ((TI .i64).sv (IntKind.i64.wrap (2 * y1)))), (sp ((TI .i64).sv (Int.tmod (IntKind.i64.wrap ((IntKind.i64.wrap (2 * y0)) + y1)) (IntKind.i64.wrap (2 * y1))))), (sp (TB.sv (decide ((Int.tmod (IntKind.i64.wrap ((IntKind.i64.wrap (2 * y0)) + y1)) (IntKind.i64.wrap (2 * y1))) < 0))))] (by kernel_rfl) (AOK.cons (fun ρ a w hs hz hΓ hp => gp (d_move (hΓ 0 rfl))) (AOK.cons (fun ρ a w hs hz hΓ hp => gp (d_move (hΓ 1 rfl))) (AOK.cons (fun ρ a w hs hz hΓ hp => gp (d_rem (hp 0 _ rfl rfl).1 (hp 1 _ rfl rfl).1 (of_decide_eq_true (need_get e8)))) (AOK.cons (fun ρ a w hs hz hΓ hp => gp (d_lss (hp 2 _ rfl rfl).1 (vI rfl))) AOK.nil rfl) rfl) rfl) rfl) (fun vs7 => ?_)
    refine T.nil ?_
    refine T.norm ?_
    obtain ⟨y5, e9, hF⟩ := bindS hF
    refine T.joinS (Γ' := fun (z : Unit) => E [(5, ((TI .i64).sv y5))]) (H' := fun (z : Unit) => HL []) (fun zz => ?_) (fun hk => ?_)
    · skip
      refine T.norm ?_
      refine T.seq ?_
      refine T.region mix 2 [27, 4] [0, 1] [(sp ((TI .i64).sv y5)), (sp ((TI .i64).sv y5))] (by kernel_rfl) (AOK.cons (fun ρ a w hs hz hΓ hp => gp (d_move (hΓ 5 rfl))) (AOK.cons (fun ρ a w hs hz hΓ hp => gp (d_assign (hp 0 _ rfl rfl).1)) AOK.nil rfl) rfl) (fun vs10 => ?_)
      refine T.nil ?_
      refine T.norm ?_
      refine T.ret ?_
      obtain rfl := Option.some.inj hF
      refine T.fin0 fun ρ a w st => ?_
      exact ⟨_, results_one rfl rfl, (st.env 4)⟩
    · refine T.cond (b := (decide ((Int.tmod (IntKind.i64.wrap ((IntKind.i64.wrap (2 * y0)) + y1)) (IntKind.i64.wrap (2 * y1))) < 0))) (fun _ _ h => h) (fun hc => ?_) (fun hc => ?_)
      · replace e9 := iteT e9 hc
        refine T.region mix 3 [25, 26, 5] [0, 1, 3] [(sp ((TI .i64).sv (IntKind.i64.wrap (Int.tdiv (IntKind.i64.wrap ((IntKind.i64.wrap (2 * y0)) + y1)) (IntKind.i64.wrap (2 * y1)))))), (sp ((TI .i64).sv (IntKind.i64.wrap ((IntKind.i64.wrap (Int.tdiv (IntKind.i64.wrap ((IntKind.i64.wrap (2 * y0)) + y1)) (IntKind.i64.wrap (2 * y1)))) - 1)))), (sp ((TI .i64).sv (IntKind.i64.wrap ((IntKind.i64.wrap (Int.tdiv (IntKind.i64.wrap ((IntKind.i64.wrap (2 * y0)) + y1)) (IntKind.i64.wrap (2 * y1)))) - 1))))] (by kernel_rfl) (AOK.cons (fun ρ a w hs hz hΓ hp => gp (d_move (hΓ 5 rfl))) (AOK.cons (fun ρ a w hs hz hΓ hp => gp (d_sub (hp 0 _ rfl rfl).1 (vI rfl))) (AOK.cons (fun ρ a w hs hz hΓ hp => gp (d_assign (hp 1 _ rfl rfl).1)) AOK.nil rfl) rfl) rfl) (fun vs11 => ?_)
        refine T.nil ?_
        cases e9
        exact T.toh (hk ()) ⟨fun _ _ h => h, trivial⟩ trivial
      · replace e9 := iteF e9 hc
        refine T.skip ?_
        cases e9
        exact T.toh (hk ()) ⟨fun _ _ h => h, trivial⟩ trivial
  · refine T.cond (b := (decide (x1 < 0))) (fun _ _ h => h) (fun hc => ?_) (fun hc => ?_)
    · replace e3 := iteT e3 hc
      refine T.region mix 6 [8, 9, 10, 11, 0, 1] [0, 1, 0, 4, 3, 31] [(sp ((TI .i64).sv x0)), (sp ((TI .i64).sv (IntKind.i64.wrap (0 - x0)))), (sp ((TI .i64).sv x1)), (sp ((TI .i64).sv (IntKind.i64.wrap (0 - x1)))), (sp ((TI .i64).sv (IntKind.i64.wrap (0 - x0)))), (sp ((TI .i64).sv (IntKind.i64.wrap (0 - x1))))] (by kernel_rfl) (AOK.cons (fun ρ a w hs hz hΓ hp => gp (d_move (hΓ 0 rfl))) (AOK.cons (fun ρ a w hs hz hΓ hp => gp (d_neg (hp 0 _ rfl rfl).1)) (AOK.cons (fun ρ a w hs hz hΓ hp => gp (d_move (hΓ 1 rfl))) (AOK.cons (fun ρ a w hs hz hΓ hp => gp (d_neg (hp 2 _ rfl rfl).1)) (AOK.cons (fun ρ a w hs hz hΓ hp => gp (d_assign (hp 1 _ rfl rfl).1)) (AOK.cons (fun ρ a w hs hz hΓ hp => gp (d_assign (hp 3 _ rfl rfl).1)) AOK.nil rfl) rfl) rfl) rfl) rfl) rfl) (fun vs12 => ?_)
      refine T.nil ?_
      cases e3
      exact T.toh (hk ()) ⟨fun _ _ h => h, fun _ _ h => h, trivial⟩ trivial
    · replace e3 := iteF e3 hc
      refine T.skip ?_
      cases e3
      exact T.toh (hk ()) ⟨fun _ _ h => h, fun _ _ h => h, trivial⟩ trivial

theorem c83 (w : World) (v0 : Value) {σ : Heap} (hσ : σ.le (snap w)) {x0 : ((List Int) × (List Int) × Int)} {r : (List (List Int))} (hF : impl_Stroke_marks x0 = some r) (h0 : Y36.val σ v0 x0) :
    Calls Try.prog 83 #[v0] w (Ret [] w σ SRel.any [slR 29 Y25 r]) := by
  unfold impl_Stroke_marks at hF
  refine start (args := [v0]) Try.func83 rfl 54 rfl [] [(0, (Y36.sv x0))] [] (sat_start _ hσ) rfl (args1 rfl h0 (args0)) ?_
  refine T.seq ?_
  refine T.region mix 2 [1, 2] [0, 0] [(sp ((TP Y36).sv x0)), (sO SRel.any [(1, (slR 29 Y25 []))])] (by kernel_rfl) (AOK.cons (fun ρ a w hs hz hΓ hp => gp (d_box hs.le (hΓ 0 rfl))) (AOK.cons (fun ρ a w hs hz hΓ hp => g_nilSl) AOK.nil rfl) rfl) (fun vs1 => ?_)
  refine T.nil ?_
  refine T.norm ?_
  refine T.seq ?_
  obtain ⟨x12, e3, hF⟩ := bindS hF
  refine T.region mix 10 [8, 9, 10, 11, 12, 13, 14, 15, 3, 4] [0, 1, 0, 4, 15, 0, 32, 96, 31, 511] [(sp ((TP Y25).sv x0.1)), (sp (Y25.sv x0.1)), (sp ((TP Y25).sv x0.2.1)), (sp (Y25.sv x0.2.1)), (sp ((TI .i64).sv x12)), (sp ((TP Y25).sv x0.1)), (sp (Y25.sv x0.1)), (sO SRel.any [(2, (slR 29 Y25 ([x0.1] : List (List Int))))]), (sp ((TI .i64).sv x12)), (al 7 (id))] (by kernel_rfl) (AOK.cons (fun ρ a w hs hz hΓ hp => gp (d_fieldP fa40_0 (hΓ 1 rfl) (At.fst (At.refl _ _)))) (AOK.cons (fun ρ a w hs hz hΓ hp => gp (d_load y29 hs.le (hp 0 _ rfl rfl).1)) (AOK.cons (fun ρ a w hs hz hΓ hp => gp (d_fieldP fa40_1 (hΓ 1 rfl) (At.fst (At.snd (At.refl _ _))))) (AOK.cons (fun ρ a w hs hz hΓ hp => gp (d_load y29 hs.le (hp 2 _ rfl rfl).1)) (AOK.cons (fun ρ a w hs hz hΓ hp => gp (d_call fn20 hs.le mapA2 (c20 w _ _ hs.le e3 ((hp 1 _ rfl rfl).1) ((hp 3 _ rfl rfl).1)))) (AOK.cons (fun ρ a w hs hz hΓ hp => gp (d_fieldP fa40_0 (hΓ 1 rfl) (At.fst (At.refl _ _)))) (AOK.cons (fun ρ a w hs hz hΓ hp => gp (d_load y29 hs.le (hp 5 _ rfl rfl).1)) (AOK.cons (fun ρ a w hs hz hΓ hp => g_buildSl hs.le u64 y29 z29 (by decide) (by decide) zc29 (Fills.part rfl (hp 6 _ rfl rfl).1 (At.nth (At.refl _ _) 0 rfl) (Fills.done _))) (AOK.cons (fun ρ a w hs hz hΓ hp => gp (d_assign (hp 4 _ rfl rfl).1)) (AOK.cons (fun ρ a w hs hz hΓ hp => al_assign rfl) AOK.nil rfl) rfl) rfl) rfl) rfl) rfl) rfl) rfl) rfl) rfl) (fun vs2 => ?_)
  refine T.nil ?_
  refine T.norm ?_
  refine T.seq ?_
  refine T.seq ?_
  refine T.region mix 1 [5] [0] [(sp ((TI .i64).sv 1))] (by kernel_rfl) (AOK.cons (fun ρ a w hs hz hΓ hp => gp (d_assign (vI rfl))) AOK.nil rfl) (fun vs4 => ?_)
  refine T.nil ?_
  refine T.norm ?_
  obtain ⟨yl5, e6, hF⟩ := bindS hF
  refine T.joinD (ι := (Int × (List (List Int))) × (Value)) (fun p => yl5 = p.1) (Γ' := fun p => E [(4, (SRel.eq p.2))]) (H' := fun p => HL [(2, (slR 29 Y25 p.1.2 p.2))]) (fun p hy => ?_) (fun hk => ?_)
  · obtain ⟨⟨o5, or2⟩, z2_7⟩ := p
    cases hy
    refine T.norm ?_
    refine T.seq ?_
    refine T.region mix 2 [53, 2] [0, 1] [(sp (SRel.eq z2_7)), (sp (SRel.eq z2_7))] (by kernel_rfl) (AOK.cons (fun ρ a w hs hz hΓ hp => gp (d_move (hΓ 4 rfl))) (AOK.cons (fun ρ a w hs hz hΓ hp => gp (d_assign (hp 0 _ rfl rfl).1)) AOK.nil rfl) rfl) (fun vs8 => ?_)
    refine T.nil ?_
    refine T.norm ?_
    refine T.ret ?_
    obtain rfl := Option.some.inj hF
    refine T.fin fun ρ a w st => ?_
    exact ⟨_, results_one rfl rfl, trivial, own1 (own_at (id := 2) (st.env 2) rfl), List.pairwise_singleton _ _⟩
  · skip
    refine T.block ?_
    refine T.loop (f := impl_Stroke_marks_l1 x0 x12) (σ := (Int × (List (List Int)))) (Z := Value) (fun s z => E [(1, ((TP Y36).sv x0)), (3, ((TI .i64).sv x12)), (4, (SRel.eq z)), (5, ((TI .i64).sv s.1))]) (fun s z => HL [(2, (slR 29 Y25 s.2 z))]) e6 (vs2 7) (fun φ h => T.toh h ⟨fun _ _ h => h, fun _ _ h => h, fun _ _ h => h, fun _ _ h => h, trivial⟩ ⟨rfl, trivial⟩) (fun k s z uu5 hu5 hn5 => ?_)
    obtain ⟨s5, sr2⟩ := s
    obtain ⟨z2, rfl⟩ : ∃ q, q = z := ⟨_, rfl⟩
    dsimp only [impl_Stroke_marks_l1] at hu5
    refine T.seq ?_
    refine T.seq ?_
    refine T.region mix 3 [16, 17, 18] [0, 0, 3] [(sp ((TI .i64).sv s5)), (sp ((TI .i64).sv x12)), (sp (TB.sv (decide (s5 ≤ x12))))] (by kernel_rfl) (AOK.cons (fun ρ a w hs hz hΓ hp => gp (d_move (hΓ 5 rfl))) (AOK.cons (fun ρ a w hs hz hΓ hp => gp (d_move (hΓ 3 rfl))) (AOK.cons (fun ρ a w hs hz hΓ hp => gp (d_leq (hp 0 _ rfl rfl).1 (hp 1 _ rfl rfl).1)) AOK.nil rfl) rfl) rfl) (fun vs9 => ?_)
    refine T.nil ?_
    refine T.norm ?_
    refine T.cond (b := (decide (s5 ≤ x12))) (fun _ _ h => h) (fun hc => ?_) (fun hc => ?_)
    · replace hu5 := iteT hu5 hc
      refine T.skip ?_
      refine T.norm ?_
      refine T.seq ?_
      refine T.block ?_
      refine T.seq ?_
      refine T.region mix 2 [21, 6] [0, 0, 3] [(sp (Y25.sv ((List.replicate 2 0) : (List Int)))), (sO SRel.any [(3, (boxR 29 Y25 (List.replicate 2 0)))])] (by kernel_rfl) (AOK.cons (fun ρ a w hs hz hΓ hp => gp (d_buildA u29 y24 z29 zc29 (Fills.done _))) (AOK.cons (fun ρ a w hs hz hΓ hp => g_alloc hs.le z29 zc29) AOK.nil rfl) rfl) (fun vs10 => ?_)
      refine T.store 3 y29 rfl (fun ρ a w st => ⟨.inl ⟨(st.env 6).1, rfl⟩, (st.env 21)⟩) (At.refl Y25 (List.replicate 2 0)) ?_
      refine T.nil ?_
      refine T.norm ?_
      refine T.seq ?_
      refine T.seq ?_
      refine T.region mix 1 [22] [0] [(sp ((TI .i64).sv 0))] (by kernel_rfl) (AOK.cons (fun ρ a w hs hz hΓ hp => gp (d_move (vI rfl))) AOK.nil rfl) (fun vs11 => ?_)
      refine T.nil ?_
      refine T.norm ?_
      obtain ⟨yl12, e13, hu5⟩ := bindS hu5
      refine T.joinD (ι := (Int × (List Int)) × (Unit)) (fun p => yl12 = p.1) (Γ' := fun p => E [(1, ((TP Y36).sv x0)), (3, ((TI .i64).sv x12)), (4, (SRel.eq z2)), (5, ((TI .i64).sv s5)), (6, (SRel.eq (vs10 1)))]) (H' := fun p => HL [(2, (slR 29 Y25 sr2 z2)), (3, (boxR 29 Y25 p.1.2 (vs10 1)))]) (fun p hy => ?_) (fun hk => ?_)
      · obtain ⟨⟨o22, or3⟩, _⟩ := p
        cases hy
        refine T.norm ?_
        refine T.region mix 3 [49, 50, 51] [0, 0, 2, 7, 15] [(sp (SRel.eq z2)), (sp (Y25.sv or3)), (sp (Y64.sv ([or3] : List (List Int))))] (by kernel_rfl) (AOK.cons (fun ρ a w hs hz hΓ hp => gp (d_move (hΓ 4 rfl))) (AOK.cons (fun ρ a w hs hz hΓ hp => gp (d_loadO y29 hs 3 rfl (.inl ⟨(hΓ 6 rfl), rfl⟩) (At.refl Y25 or3))) (AOK.cons (fun ρ a w hs hz hΓ hp => gp (d_buildSl hs.le u64 y29 z29 (by decide) (by decide) zc29 (Fills.part rfl (hp 1 _ rfl rfl).1 (At.nth (At.refl _ _) 0 rfl) (Fills.done _)))) AOK.nil rfl) rfl) rfl) (fun vs14 => ?_)
        obtain ⟨x52, e15, hu5⟩ := bindS hu5
        obtain ⟨e15l, rfl⟩ := app_get e15
        refine T.append 2 rfl u64 i29 rfl rfl (fun ρ a w st => ⟨(st.env 49), (cells_ro (by decide) st.sat.le (st.env 51))⟩) e15l (fun v52 => ?_)
        refine T.does (R := (SRel.eq v52)) rfl (fun ρ a w st => have hs := st.sat; d_assign (st.env 52)) ?_
        refine T.nil ?_
        refine T.fallX ?_
        refine T.norm ?_
        refine T.region mix 3 [19, 20, 5] [0, 1, 3] [(sp ((TI .i64).sv s5)), (sp ((TI .i64).sv (IntKind.i64.wrap (s5 + 1)))), (sp ((TI .i64).sv (IntKind.i64.wrap (s5 + 1))))] (by kernel_rfl) (AOK.cons (fun ρ a w hs hz hΓ hp => gp (d_move (hΓ 5 rfl))) (AOK.cons (fun ρ a w hs hz hΓ hp => gp (d_add (hp 0 _ rfl rfl).1 (vI rfl))) (AOK.cons (fun ρ a w hs hz hΓ hp => gp (d_assign (hp 1 _ rfl rfl).1)) AOK.nil rfl) rfl) rfl) (fun vs16 => ?_)
        refine T.nil ?_
        obtain rfl := Option.some.inj hu5
        exact T.again hn5 v52 (fun φ h => T.toh h ⟨fun _ _ h => h, fun _ _ h => h, fun _ _ h => h, fun _ _ h => h, trivial⟩ ⟨rfl, trivial⟩)
      · skip
        refine T.block ?_
        refine T.loop (f := impl_Stroke_marks_l2 x0 x12 s5) (σ := (Int × (List Int))) (Z := Unit) (fun s z => E [(1, ((TP Y36).sv x0)), (3, ((TI .i64).sv x12)), (4, (SRel.eq z2)), (5, ((TI .i64).sv s5)), (6, (SRel.eq (vs10 1))), (22, ((TI .i64).sv s.1))]) (fun s z => HL [(2, (slR 29 Y25 sr2 z2)), (3, (boxR 29 Y25 s.2 (vs10 1)))]) e13 () (fun φ h => T.toh h ⟨fun _ _ h => h, fun _ _ h => h, fun _ _ h => h, fun _ _ h => h, fun _ _ h => h.1, fun _ _ h => h, trivial⟩ ⟨rfl, rfl, trivial⟩) (fun k s z uu12 hu12 hn12 => ?_)
        obtain ⟨s22, sr3⟩ := s
        dsimp only [impl_Stroke_marks_l2] at hu12
        refine T.seq ?_
        refine T.region mix 1 [23] [0] [(sp (TB.sv (decide (s22 < 2))))] (by kernel_rfl) (AOK.cons (fun ρ a w hs hz hΓ hp => gp (d_lss (hΓ 22 rfl) (vI rfl))) AOK.nil rfl) (fun vs17 => ?_)
        refine T.nil ?_
        refine T.norm ?_
        refine T.seq ?_
        refine T.cond (b := (decide (s22 < 2))) (fun _ _ h => h) (fun hc => ?_) (fun hc => ?_)
        · replace hu12 := iteT hu12 hc
          refine T.skip ?_
          refine T.norm ?_
          refine T.seq ?_
          refine T.block ?_
          refine T.seq ?_
          refine T.region mix 2 [24, 7] [0, 1] [(sp ((TI .i64).sv s22)), (sp ((TI .i64).sv s22))] (by kernel_rfl) (AOK.cons (fun ρ a w hs hz hΓ hp => gp (d_move (hΓ 22 rfl))) (AOK.cons (fun ρ a w hs hz hΓ hp => gp (d_assign (hp 0 _ rfl rfl).1)) AOK.nil rfl) rfl) (fun vs18 => ?_)
          refine T.nil ?_
          refine T.norm ?_
          obtain ⟨x28, e20, hu12⟩ := bindS hu12
          obtain ⟨x33, e21, hu12⟩ := bindS hu12
          obtain ⟨x38, e22, hu12⟩ := bindS hu12
          obtain ⟨x44, e23, hu12⟩ := bindS hu12
          obtain ⟨x47, e24, hu12⟩ := bindS hu12
          refine T.region mix 23 [25, 26, 27, 28, 29, 30, 31, 32, 33, 34, 35, 36, 37, 38, 39, 40, 41, 42, 43, 44, 45, 46, 47] [0, 0, 0, 6, 14, 0, 0, 0, 192, 448, 960, 0, 0, 6144, 14336, 30720, 65472, 131040, 0, 524256, 1048544, 2097150, 4194303, 8388607] [(sp ((TI .i64).sv s22)), (sp ((TI .i64).sv s22)), (sp ((TP Y25).sv x0.1)), (sp ((TP (TI .i16)).sv x28)), (sp ((TI .i16).sv x28)), (sp ((TI .i64).sv s5)), (sp ((TI .i64).sv s22)), (sp ((TP Y25).sv x0.2.1)), (sp ((TP (TI .i16)).sv x33)), (sp ((TI .i16).sv x33)), (sp ((TI .i64).sv x33)), (sp ((TI .i64).sv s22)), (sp ((TP Y25).sv x0.1)), (sp ((TP (TI .i16)).sv x38)), (sp ((TI .i16).sv x38)), (sp ((TI .i64).sv x38)), (sp ((TI .i64).sv (IntKind.i64.wrap (x33 - x38)))), (sp ((TI .i64).sv (IntKind.i64.wrap (s5 * (IntKind.i64.wrap (x33 - x38)))))), (sp ((TI .i64).sv x12)), (sp ((TI .i64).sv x44)), (sp ((TI .i16).sv (IntKind.i16.wrap x44))), (sp ((TI .i16).sv (IntKind.i16.wrap (x28 + (IntKind.i16.wrap x44))))), (sp (SRel.eq (at_ (vs10 1) (0 + s22.toNat * (TI .i16).n))))] (by kernel_rfl) (AOK.cons (fun ρ a w hs hz hΓ hp => gp (d_move (hΓ 7 rfl))) (AOK.cons (fun ρ a w hs hz hΓ hp => gp (d_move (hΓ 7 rfl))) (AOK.cons (fun ρ a w hs hz hΓ hp => gp (d_fieldP fa40_0 (hΓ 1 rfl) (At.fst (At.refl _ _)))) (AOK.cons (fun ρ a w hs hz hΓ hp => gp (d_idxP u29 y24 (hp 2 _ rfl rfl).1 (hp 1 _ rfl rfl).1 e20)) (AOK.cons (fun ρ a w hs hz hΓ hp => gp (d_load y24 hs.le (hp 3 _ rfl rfl).1)) (AOK.cons (fun ρ a w hs hz hΓ hp => gp (d_move (hΓ 5 rfl))) (AOK.cons (fun ρ a w hs hz hΓ hp => gp (d_move (hΓ 7 rfl))) (AOK.cons (fun ρ a w hs hz hΓ hp => gp (d_fieldP fa40_1 (hΓ 1 rfl) (At.fst (At.snd (At.refl _ _))))) (AOK.cons (fun ρ a w hs hz hΓ hp => gp (d_idxP u29 y24 (hp 7 _ rfl rfl).1 (hp 6 _ rfl rfl).1 e21)) (AOK.cons (fun ρ a w hs hz hΓ hp => gp (d_load y24 hs.le (hp 8 _ rfl rfl).1)) (AOK.cons (fun ρ a w hs hz hΓ hp => gp (d_widen u24 u2 rfl (hp 9 _ rfl rfl).1)) (AOK.cons (fun ρ a w hs hz hΓ hp => gp (d_move (hΓ 7 rfl))) (AOK.cons (fun ρ a w hs hz hΓ hp => gp (d_fieldP fa40_0 (hΓ 1 rfl) (At.fst (At.refl _ _)))) (AOK.cons (fun ρ a w hs hz hΓ hp => gp (d_idxP u29 y24 (hp 12 _ rfl rfl).1 (hp 11 _ rfl rfl).1 e22)) (AOK.cons (fun ρ a w hs hz hΓ hp => gp (d_load y24 hs.le (hp 13 _ rfl rfl).1)) (AOK.cons (fun ρ a w hs hz hΓ hp => gp (d_widen u24 u2 rfl (hp 14 _ rfl rfl).1)) (AOK.cons (fun ρ a w hs hz hΓ hp => gp (d_sub (hp 10 _ rfl rfl).1 (hp 15 _ rfl rfl).1)) (AOK.cons (fun ρ a w hs hz hΓ hp => gp (d_mul (hp 5 _ rfl rfl).1 (hp 16 _ rfl rfl).1)) (AOK.cons (fun ρ a w hs hz hΓ hp => gp (d_move (hΓ 3 rfl))) (AOK.cons (fun ρ a w hs hz hΓ hp => gp (d_call fn117 hs.le mapA2 (c117 w _ _ hs.le e23 ((hp 17 _ rfl rfl).1) ((hp 18 _ rfl rfl).1)))) (AOK.cons (fun ρ a w hs hz hΓ hp => gp (d_conv u2 u24 (hp 19 _ rfl rfl).1)) (AOK.cons (fun ρ a w hs hz hΓ hp => gp (d_add (hp 4 _ rfl rfl).1 (hp 20 _ rfl rfl).1)) (AOK.cons (fun ρ a w hs hz hΓ hp => gp (d_idxO u29 y24 hs 3 rfl (.inl ⟨(hΓ 6 rfl), rfl⟩) (At.refl Y25 sr3) (hp 0 _ rfl rfl).1 e24)) AOK.nil rfl) rfl) rfl) rfl) rfl) rfl) rfl) rfl) rfl) rfl) rfl) rfl) rfl) rfl) rfl) rfl) rfl) rfl) rfl) rfl) rfl) rfl) rfl) (fun vs19 => ?_)
          refine T.store 3 y24 rfl (fun ρ a w st => ⟨.inr (st.env 47), (st.env 46)⟩) (At.elem (At.refl Y25 sr3) (idx_get e24).2) ?_
          refine T.nil ?_
          refine T.fallX ?_
          refine T.norm ?_
          refine T.region mix 2 [48, 22] [0, 1] [(sp ((TI .i64).sv (IntKind.i64.wrap (s22 + 1)))), (sp ((TI .i64).sv (IntKind.i64.wrap (s22 + 1))))] (by kernel_rfl) (AOK.cons (fun ρ a w hs hz hΓ hp => gp (d_add (hΓ 22 rfl) (vI rfl))) (AOK.cons (fun ρ a w hs hz hΓ hp => gp (d_move (hp 0 _ rfl rfl).1)) AOK.nil rfl) rfl) (fun vs25 => ?_)
          refine T.nil ?_
          obtain rfl := Option.some.inj hu12
          exact T.again hn12 () (fun φ h => T.toh h ⟨fun _ _ h => h, fun _ _ h => h, fun _ _ h => h, fun _ _ h => h, fun _ _ h => h, fun _ _ h => h, trivial⟩ ⟨rfl, rfl, trivial⟩)
        · replace hu12 := iteF hu12 hc
          refine T.exit ?_
          obtain rfl := Option.some.inj hu12
          repeat (first | refine T.passX ?_ | refine T.inX (by decide) ?_)
          refine T.hereX ?_
          exact T.toh (hk ((s22, sr3), ()) (Eq.symm hn12)) ⟨fun _ _ h => h, fun _ _ h => h, fun _ _ h => h, fun _ _ h => h, fun _ _ h => h, trivial⟩ ⟨rfl, rfl, trivial⟩
    · replace hu5 := iteF hu5 hc
      refine T.exit ?_
      obtain rfl := Option.some.inj hu5
      repeat (first | refine T.passX ?_ | refine T.inX (by decide) ?_)
      refine T.hereX ?_
      exact T.toh (hk ((s5, sr2), z2) (Eq.symm hn5)) ⟨fun _ _ h => h, trivial⟩ ⟨rfl, trivial⟩

theorem c126 (w : World) (v0 v1 v2 : Value) {x0 : (List Int)} {x1 : (List Int)} {x2 : Bool} {r : (List Int)} (hF : impl_Sheet_set x0 x1 x2 = some r) (hm : (boxR 27 Y23 x0 v0).holds (snapX (blkOf v0).toList w) w) (h1 : Y25.val (snapX (blkOf v0).toList w) v1 x1) (h2 : TB.val (snapX (blkOf v0).toList w) v2 x2) :
    Calls Try.prog 126 #[v0, v1, v2] w (RetM (blkOf v0).toList w SRel.any (boxR 27 Y23 r v0)) := by
  unfold impl_Sheet_set at hF
  refine start (args := [v0, v1, v2]) Try.func126 rfl 34 rfl (blkOf v0).toList [(0, (SRel.eq v0)), (1, (Y25.sv x1)), (2, (TB.sv x2))] [(1, (boxR 27 Y23 x0 v0))] (sat_mut (r := (boxR 27 Y23 x0 v0)) 1 hm) rfl (args1 rfl rfl (args1 rfl h1 (args1 rfl h2 (args0)))) ?_
  refine T.seq ?_
  refine T.region mix 1 [4] [0] [(sp ((TP Y25).sv x1))] (by kernel_rfl) (AOK.cons (fun ρ a w hs hz hΓ hp => gp (d_box hs.le (hΓ 1 rfl))) AOK.nil rfl) (fun vs1 => ?_)
  refine T.nil ?_
  refine T.norm ?_
  refine T.seq ?_
  refine T.seq ?_
  obtain ⟨x7, e3, hF⟩ := bindS hF
  refine T.region mix 3 [6, 7, 8] [0, 1, 3] [(sp (Y25.sv x1)), (sp (TB.sv x7)), (sp (TB.sv (!x7)))] (by kernel_rfl) (AOK.cons (fun ρ a w hs hz hΓ hp => gp (d_load y29 hs.le (hΓ 4 rfl))) (AOK.cons (fun ρ a w hs hz hΓ hp => gp (d_call fn60 hs.le mapA1 (c60 w _ hs.le e3 ((hp 0 _ rfl rfl).1)))) (AOK.cons (fun ρ a w hs hz hΓ hp => gp (d_not (hp 1 _ rfl rfl).1)) AOK.nil rfl) rfl) rfl) (fun vs2 => ?_)
  refine T.nil ?_
  refine T.norm ?_
  refine T.cond (b := (!x7)) (fun _ _ h => h) (fun hc => ?_) (fun hc => ?_)
  · replace hF := iteT hF hc
    refine T.ret ?_
    obtain rfl := Option.some.inj hF
    refine T.finM fun ρ a w st => ?_
    exact ⟨_, results_no rfl, fun σ => trivial, mut_on st.sat 1 rfl (loose_boxR (flat_TArr (flat_TI _))) rfl⟩
  · replace hF := iteF hF hc
    refine T.skip ?_
    refine T.norm ?_
    refine T.seq ?_
    obtain ⟨x13, e5, hF⟩ := bindS hF
    obtain ⟨_u17, e6, hF⟩ := bindS hF
    obtain ⟨x20, e7, hF⟩ := bindS hF
    refine T.region mix 12 [9, 10, 11, 12, 13, 14, 15, 16, 17, 18, 19, 20] [0, 0, 2, 1, 15, 31, 0, 64, 192, 511, 1, 2047, 4095] [(sp (SRel.eq v0)), (sp ((TP (TI .i16)).sv (nth x1 1))), (sp ((TI .i16).sv (nth x1 1))), (sp (SRel.eq v0)), (sp (SRel.eq (at_ v0 (0 + (nth x1 1).toNat * (TI .u64).n)))), (sp ((TI .u64).sv x13)), (sp ((TP (TI .i16)).sv (nth x1 0))), (sp ((TI .i16).sv (nth x1 0))), (sp ((TI .u64).sv (IntKind.u64.wrap (1 * 2 ^ (min (nth x1 0).toNat IntKind.u64.bits))))), (sp ((TI .u64).sv (bitop .andNot .u64 x13 (IntKind.u64.wrap (1 * 2 ^ (min (nth x1 0).toNat IntKind.u64.bits)))))), (sp (SRel.eq v0)), (sp (SRel.eq (at_ v0 (0 + (nth x1 1).toNat * (TI .u64).n))))] (by kernel_rfl) (AOK.cons (fun ρ a w hs hz hΓ hp => gp (d_move (hΓ 0 rfl))) (AOK.cons (fun ρ a w hs hz hΓ hp => gp (d_idxPc .i64 1 u29 y24 (hΓ 4 rfl) rfl)) (AOK.cons (fun ρ a w hs hz hΓ hp => gp (d_load y24 hs.le (hp 1 _ rfl rfl).1)) (AOK.cons (fun ρ a w hs hz hΓ hp => gp (d_nilCheckB hs 1 rfl (hp 0 _ rfl rfl).1)) (AOK.cons (fun ρ a w hs hz hΓ hp => gp (d_idxO u27 y22 hs 1 rfl (.inl ⟨(hp 3 _ rfl rfl).1, rfl⟩) (At.refl Y23 x0) (hp 2 _ rfl rfl).1 e5)) (AOK.cons (fun ρ a w hs hz hΓ hp => gp (d_loadO y22 hs 1 rfl (.inr (hp 4 _ rfl rfl).1) (At.elem (At.refl Y23 x0) (idx_get e5).2))) (AOK.cons (fun ρ a w hs hz hΓ hp => gp (d_idxPc .i64 0 u29 y24 (hΓ 4 rfl) rfl)) (AOK.cons (fun ρ a w hs hz hΓ hp => gp (d_load y24 hs.le (hp 6 _ rfl rfl).1)) (AOK.cons (fun ρ a w hs hz hΓ hp => gp (d_shl (vI rfl) (hp 7 _ rfl rfl).1 (of_decide_eq_true (need_get e6)))) (AOK.cons (fun ρ a w hs hz hΓ hp => gp (d_andNot (hp 5 _ rfl rfl).1 (hp 8 _ rfl rfl).1)) (AOK.cons (fun ρ a w hs hz hΓ hp => gp (d_nilCheckB hs 1 rfl (hp 0 _ rfl rfl).1)) (AOK.cons (fun ρ a w hs hz hΓ hp => gp (d_idxO u27 y22 hs 1 rfl (.inl ⟨(hp 10 _ rfl rfl).1, rfl⟩) (At.refl Y23 x0) (hp 2 _ rfl rfl).1 e7)) AOK.nil rfl) rfl) rfl) rfl) rfl) rfl) rfl) rfl) rfl) rfl) rfl) rfl) (fun vs4 => ?_)
    refine T.store 1 y22 rfl (fun ρ a w st => ⟨.inr (st.env 20), (st.env 18)⟩) (At.elem (At.refl Y23 x0) (idx_get e7).2) ?_
    refine T.nil ?_
    refine T.norm ?_
    refine T.seq ?_
    refine T.region mix 1 [21] [0] [(sp (TB.sv x2))] (by kernel_rfl) (AOK.cons (fun ρ a w hs hz hΓ hp => gp (d_move (hΓ 2 rfl))) AOK.nil rfl) (fun vs8 => ?_)
    refine T.nil ?_
    refine T.norm ?_
    obtain ⟨r1, e9, hF⟩ := bindS hF
    refine T.joinS (Γ' := fun (z : Unit) => E []) (H' := fun (z : Unit) => HL [(1, (boxR 27 Y23 r1 v0))]) (fun zz => ?_) (fun hk => ?_)
    · skip
      refine T.atEnd ?_
      obtain rfl := Option.some.inj hF
      refine T.finM fun ρ a w st => ?_
      exact ⟨_, results_no rfl, fun σ => trivial, mut_on st.sat 1 rfl (loose_boxR (flat_TArr (flat_TI _))) rfl⟩
    · refine T.cond (b := x2) (fun _ _ h => h) (fun hc => ?_) (fun hc => ?_)
      · replace e9 := iteT e9 hc
        obtain ⟨x26, e11, e9⟩ := bindS e9
        obtain ⟨_u30, e12, e9⟩ := bindS e9
        obtain ⟨x33, e13, e9⟩ := bindS e9
        refine T.region mix 12 [22, 23, 24, 25, 26, 27, 28, 29, 30, 31, 32, 33] [0, 0, 2, 1, 15, 31, 0, 64, 192, 511, 1, 2047, 4095] [(sp (SRel.eq v0)), (sp ((TP (TI .i16)).sv (nth x1 1))), (sp ((TI .i16).sv (nth x1 1))), (sp (SRel.eq v0)), (sp (SRel.eq (at_ v0 (0 + (nth x1 1).toNat * (TI .u64).n)))), (sp ((TI .u64).sv x26)), (sp ((TP (TI .i16)).sv (nth x1 0))), (sp ((TI .i16).sv (nth x1 0))), (sp ((TI .u64).sv (IntKind.u64.wrap (1 * 2 ^ (min (nth x1 0).toNat IntKind.u64.bits))))), (sp ((TI .u64).sv (bitop .or .u64 x26 (IntKind.u64.wrap (1 * 2 ^ (min (nth x1 0).toNat IntKind.u64.bits)))))), (sp (SRel.eq v0)), (sp (SRel.eq (at_ v0 (0 + (nth x1 1).toNat * (TI .u64).n))))] (by kernel_rfl) (AOK.cons (fun ρ a w hs hz hΓ hp => gp (d_move (hΓ 0 rfl))) (AOK.cons (fun ρ a w hs hz hΓ hp => gp (d_idxPc .i64 1 u29 y24 (hΓ 4 rfl) rfl)) (AOK.cons (fun ρ a w hs hz hΓ hp => gp (d_load y24 hs.le (hp 1 _ rfl rfl).1)) (AOK.cons (fun ρ a w hs hz hΓ hp => gp (d_nilCheckB hs 1 rfl (hp 0 _ rfl rfl).1)) (AOK.cons (fun ρ a w hs hz hΓ hp => gp (d_idxO u27 y22 hs 1 rfl (.inl ⟨(hp 3 _ rfl rfl).1, rfl⟩) (At.refl Y23 (x0.set (nth x1 1).toNat (bitop .andNot .u64 x13 (IntKind.u64.wrap (1 * 2 ^ (min (nth x1 0).toNat IntKind.u64.bits)))))) (hp 2 _ rfl rfl).1 e11)) (AOK.cons (fun ρ a w hs hz hΓ hp => gp (d_loadO y22 hs 1 rfl (.inr (hp 4 _ rfl rfl).1) (At.elem (At.refl Y23 (x0.set (nth x1 1).toNat (bitop .andNot .u64 x13 (IntKind.u64.wrap (1 * 2 ^ (min (nth x1 0).toNat IntKind.u64.bits)))))) (idx_get e11).2))) (AOK.cons (fun ρ a w hs hz hΓ hp => gp (d_idxPc .i64 0 u29 y24 (hΓ 4 rfl) rfl)) (AOK.cons (fun ρ a w hs hz hΓ hp => gp (d_load y24 hs.le (hp 6 _ rfl rfl).1)) (AOK.cons (fun ρ a w hs hz hΓ hp => gp (d_shl (vI rfl) (hp 7 _ rfl rfl).1 (of_decide_eq_true (need_get e12)))) (AOK.cons (fun ρ a w hs hz hΓ hp => gp (d_or (hp 5 _ rfl rfl).1 (hp 8 _ rfl rfl).1)) (AOK.cons (fun ρ a w hs hz hΓ hp => gp (d_nilCheckB hs 1 rfl (hp 0 _ rfl rfl).1)) (AOK.cons (fun ρ a w hs hz hΓ hp => gp (d_idxO u27 y22 hs 1 rfl (.inl ⟨(hp 10 _ rfl rfl).1, rfl⟩) (At.refl Y23 (x0.set (nth x1 1).toNat (bitop .andNot .u64 x13 (IntKind.u64.wrap (1 * 2 ^ (min (nth x1 0).toNat IntKind.u64.bits)))))) (hp 2 _ rfl rfl).1 e13)) AOK.nil rfl) rfl) rfl) rfl) rfl) rfl) rfl) rfl) rfl) rfl) rfl) rfl) (fun vs10 => ?_)
        refine T.store 1 y22 rfl (fun ρ a w st => ⟨.inr (st.env 33), (st.env 31)⟩) (At.elem (At.refl Y23 (x0.set (nth x1 1).toNat (bitop .andNot .u64 x13 (IntKind.u64.wrap (1 * 2 ^ (min (nth x1 0).toNat IntKind.u64.bits)))))) (idx_get e13).2) ?_
        refine T.nil ?_
        cases e9
        exact T.toh (hk ()) trivial ⟨rfl, trivial⟩
      · replace e9 := iteF e9 hc
        refine T.skip ?_
        cases e9
        exact T.toh (hk ()) trivial ⟨rfl, trivial⟩

theorem c97 (w : World) (v0 v1 v2 : Value) {x0 : (List Int)} {x1 : ((List Int) × (List Int) × Int)} {x2 : Bool} {r : (List Int)} (hF : impl_Sheet_draw x0 x1 x2 = some r) (hm : (boxR 27 Y23 x0 v0).holds (snapX (blkOf v0).toList w) w) (h1 : Y36.val (snapX (blkOf v0).toList w) v1 x1) (h2 : TB.val (snapX (blkOf v0).toList w) v2 x2) :
    Calls Try.prog 97 #[v0, v1, v2] w (RetM (blkOf v0).toList w SRel.any (boxR 27 Y23 r v0)) := by
  unfold impl_Sheet_draw at hF
  refine start (args := [v0, v1, v2]) Try.func97 rfl 25 rfl (blkOf v0).toList [(0, (SRel.eq v0)), (1, (Y36.sv x1)), (2, (TB.sv x2))] [(1, (boxR 27 Y23 x0 v0))] (sat_mut (r := (boxR 27 Y23 x0 v0)) 1 hm) rfl (args1 rfl rfl (args1 rfl h1 (args1 rfl h2 (args0)))) ?_
  refine T.seq ?_
  refine T.region mix 1 [4] [0] [(sp ((TP Y36).sv x1))] (by kernel_rfl) (AOK.cons (fun ρ a w hs hz hΓ hp => gp (d_box hs.le (hΓ 1 rfl))) AOK.nil rfl) (fun vs1 => ?_)
  refine T.nil ?_
  refine T.norm ?_
  refine T.seq ?_
  obtain ⟨x9, e3, hF⟩ := bindS hF
  refine T.region mix 4 [8, 9, 10, 11] [0, 1, 3, 0] [(sp (Y36.sv x1)), (sp (Y64.sv x9)), (sp ((TI .i64).sv (x9.length : Int))), (sp ((TI .i64).sv 0))] (by kernel_rfl) (AOK.cons (fun ρ a w hs hz hΓ hp => gp (d_load y40 hs.le (hΓ 4 rfl))) (AOK.cons (fun ρ a w hs hz hΓ hp => gp (d_callR fn83 hs.le mapA1 (c83 w _ hs.le e3 ((hp 0 _ rfl rfl).1)))) (AOK.cons (fun ρ a w hs hz hΓ hp => gp (d_lenR u64 (hp 1 _ rfl rfl).1)) (AOK.cons (fun ρ a w hs hz hΓ hp => gp (d_move (vI rfl))) AOK.nil rfl) rfl) rfl) rfl) (fun vs2 => ?_)
  refine T.nil ?_
  refine T.norm ?_
  obtain ⟨yl4, e5, hF⟩ := bindS hF
  refine T.joinD (ι := (Int × (List Int)) × (Unit)) (fun p => yl4 = p.1) (Γ' := fun p => E []) (H' := fun p => HL [(1, (boxR 27 Y23 p.1.2 v0))]) (fun p hy => ?_) (fun hk => ?_)
  · obtain ⟨⟨o11, or1⟩, _⟩ := p
    cases hy
    refine T.atEnd ?_
    obtain rfl := Option.some.inj hF
    refine T.finM fun ρ a w st => ?_
    exact ⟨_, results_no rfl, fun σ => trivial, mut_on st.sat 1 rfl (loose_boxR (flat_TArr (flat_TI _))) rfl⟩
  · skip
    refine T.block ?_
    refine T.loop (f := impl_Sheet_draw_l1 x1 x2 x9) (σ := (Int × (List Int))) (Z := Unit) (fun s z => E [(0, (SRel.eq v0)), (2, (TB.sv x2)), (4, ((TP Y36).sv x1)), (9, (Y64.sv x9)), (10, ((TI .i64).sv (x9.length : Int))), (11, ((TI .i64).sv s.1))]) (fun s z => HL [(1, (boxR 27 Y23 s.2 v0))]) e5 () (fun φ h => T.toh h ⟨fun _ _ h => h, fun _ _ h => h, fun _ _ h => h, fun _ _ h => h, fun _ _ h => h, fun _ _ h => h, trivial⟩ ⟨rfl, trivial⟩) (fun k s z uu4 hu4 hn4 => ?_)
    obtain ⟨s11, sr1⟩ := s
    dsimp only [impl_Sheet_draw_l1] at hu4
    refine T.seq ?_
    refine T.region mix 1 [12] [0] [(sp (TB.sv (decide (s11 < (x9.length : Int)))))] (by kernel_rfl) (AOK.cons (fun ρ a w hs hz hΓ hp => gp (d_lss (hΓ 11 rfl) (hΓ 10 rfl))) AOK.nil rfl) (fun vs6 => ?_)
    refine T.nil ?_
    refine T.norm ?_
    refine T.seq ?_
    refine T.cond (b := (decide (s11 < (x9.length : Int)))) (fun _ _ h => h) (fun hc => ?_) (fun hc => ?_)
    · replace hu4 := iteT hu4 hc
      refine T.skip ?_
      refine T.norm ?_
      refine T.seq ?_
      refine T.block ?_
      refine T.seq ?_
      obtain ⟨x14, e8, hu4⟩ := bindS hu4
      refine T.region mix 5 [13, 14, 15, 7, 6] [0, 0, 2, 0, 15, 31] [(sp ((TI .i64).sv s11)), (sp ((TP Y25).sv x14)), (sp (Y25.sv x14)), (sO SRel.any [(2, (boxR 29 Y25 (List.replicate 2 0)))]), (sp ((TI .i64).sv s11))] (by kernel_rfl) (AOK.cons (fun ρ a w hs hz hΓ hp => gp (d_move (hΓ 11 rfl))) (AOK.cons (fun ρ a w hs hz hΓ hp => gp (d_idxR u64 y29 (hΓ 9 rfl) (hΓ 11 rfl) e8)) (AOK.cons (fun ρ a w hs hz hΓ hp => gp (d_load y29 hs.le (hp 1 _ rfl rfl).1)) (AOK.cons (fun ρ a w hs hz hΓ hp => g_alloc hs.le z29 zc29) (AOK.cons (fun ρ a w hs hz hΓ hp => gp (d_assign (hp 0 _ rfl rfl).1)) AOK.nil rfl) rfl) rfl) rfl) rfl) (fun vs7 => ?_)
      refine T.store 2 y29 rfl (fun ρ a w st => ⟨.inl ⟨(st.env 7).1, rfl⟩, (st.env 15)⟩) (At.refl Y25 (List.replicate 2 0)) ?_
      refine T.nil ?_
      refine T.norm ?_
      refine T.seq ?_
      obtain ⟨x19, e10, hu4⟩ := bindS hu4
      refine T.region mix 4 [16, 17, 18, 19] [0, 1, 0, 7] [(sp ((TP (TI .i8)).sv x1.2.2)), (sp ((TI .i8).sv x1.2.2)), (sp ((TI .i64).sv s11)), (sp (TB.sv x19))] (by kernel_rfl) (AOK.cons (fun ρ a w hs hz hΓ hp => gp (d_fieldP fa40_2 (hΓ 4 rfl) (At.snd (At.snd (At.refl _ _))))) (AOK.cons (fun ρ a w hs hz hΓ hp => gp (d_load y34 hs.le (hp 0 _ rfl rfl).1)) (AOK.cons (fun ρ a w hs hz hΓ hp => gp (d_move (hΓ 6 rfl))) (AOK.cons (fun ρ a w hs hz hΓ hp => gp (d_call fn22 hs.le mapA2 (c22 w _ _ hs.le e10 ((hp 1 _ rfl rfl).1) ((hp 2 _ rfl rfl).1)))) AOK.nil rfl) rfl) rfl) rfl) (fun vs9 => ?_)
      refine T.nil ?_
      refine T.norm ?_
      obtain ⟨r1, e11, hu4⟩ := bindS hu4
      refine T.joinS (Γ' := fun (z : Unit) => E [(0, (SRel.eq v0)), (2, (TB.sv x2)), (4, ((TP Y36).sv x1)), (9, (Y64.sv x9)), (10, ((TI .i64).sv (x9.length : Int))), (11, ((TI .i64).sv s11))]) (H' := fun (z : Unit) => HL [(1, (boxR 27 Y23 r1 v0))]) (fun zz => ?_) (fun hk => ?_)
      · skip
        refine T.fallX ?_
        refine T.norm ?_
        refine T.region mix 2 [24, 11] [0, 1] [(sp ((TI .i64).sv (IntKind.i64.wrap (s11 + 1)))), (sp ((TI .i64).sv (IntKind.i64.wrap (s11 + 1))))] (by kernel_rfl) (AOK.cons (fun ρ a w hs hz hΓ hp => gp (d_add (hΓ 11 rfl) (vI rfl))) (AOK.cons (fun ρ a w hs hz hΓ hp => gp (d_move (hp 0 _ rfl rfl).1)) AOK.nil rfl) rfl) (fun vs12 => ?_)
        refine T.nil ?_
        obtain rfl := Option.some.inj hu4
        exact T.again hn4 () (fun φ h => T.toh h ⟨fun _ _ h => h, fun _ _ h => h, fun _ _ h => h, fun _ _ h => h, fun _ _ h => h, fun _ _ h => h, trivial⟩ ⟨rfl, trivial⟩)
      · refine T.cond (b := x19) (fun _ _ h => h) (fun hc => ?_) (fun hc => ?_)
        · replace e11 := iteT e11 hc
          refine T.region mix 3 [20, 21, 22] [0, 0, 0, 7] [(sp (SRel.eq v0)), (sp (Y25.sv x14)), (sp (TB.sv x2))] (by kernel_rfl) (AOK.cons (fun ρ a w hs hz hΓ hp => gp (d_move (hΓ 0 rfl))) (AOK.cons (fun ρ a w hs hz hΓ hp => gp (d_loadO y29 hs 2 rfl (.inl ⟨(hΓ 7 rfl).1, rfl⟩) (At.refl Y25 x14))) (AOK.cons (fun ρ a w hs hz hΓ hp => gp (d_move (hΓ 2 rfl))) AOK.nil rfl) rfl) rfl) (fun vs13 => ?_)
          obtain ⟨x23, e14, e11⟩ := bindS e11
          refine T.callB (R := SRel.any) (r := (boxR 27 Y23 sr1 v0)) (r' := (boxR 27 Y23 x23 v0)) 1 fn126 rfl rfl (loose_boxR (flat_TArr (flat_TI _))) (loose_boxR (flat_TArr (flat_TI _))) rfl (fun ρ a w st hle hm => ?_) ?_
          · rw [mapA3]; exact call_at (r := boxR 27 Y23 x23) (st.env 20) (c126 w _ _ _  e14 (hm_at (r := boxR 27 Y23 sr1) (st.env 20) hm) (Ty.val_mono _ (le_at (st.env 20) hle) (st.env 21)) (Ty.val_mono _ (le_at (st.env 20) hle) (st.env 22)))
          refine T.nil ?_
          cases e11
          exact T.toh (hk ()) ⟨fun _ _ h => h, fun _ _ h => h, fun _ _ h => h, fun _ _ h => h, fun _ _ h => h, fun _ _ h => h, trivial⟩ ⟨rfl, trivial⟩
        · replace e11 := iteF e11 hc
          refine T.skip ?_
          cases e11
          exact T.toh (hk ()) ⟨fun _ _ h => h, fun _ _ h => h, fun _ _ h => h, fun _ _ h => h, fun _ _ h => h, fun _ _ h => h, trivial⟩ ⟨rfl, trivial⟩
    · replace hu4 := iteF hu4 hc
      refine T.exit ?_
      obtain rfl := Option.some.inj hu4
      repeat (first | refine T.passX ?_ | refine T.inX (by decide) ?_)
      refine T.hereX ?_
      exact T.toh (hk ((s11, sr1), ()) (Eq.symm hn4)) trivial ⟨rfl, trivial⟩

theorem c58 (w : World) (v0 v1 : Value) {σ : Heap} (hσ : σ.le (snap w)) {x0 : (List Int)} {x1 : (List ((List Int) × (List Int) × Int))} {r : ((List Int) × Int)} (hF : impl_DrawStrokes x0 x1 = some r) (h0 : Y23.val σ v0 x0) (h1 : Y77.val σ v1 x1) :
    Calls Try.prog 58 #[v0, v1] w (Ret [] w σ (SRel.tup2 (Y23.sv r.1) ((TI .i64).sv r.2)) []) := by
  unfold impl_DrawStrokes at hF
  refine start (args := [v0, v1]) Try.func58 rfl 25 rfl [] [(0, (Y23.sv x0)), (1, (Y77.sv x1))] [] (sat_start _ hσ) rfl (args1 rfl h0 (args1 rfl h1 (args0))) ?_
  refine T.seq ?_
  refine T.region mix 3 [2, 4, 5] [0, 0, 0] [(sO SRel.any [(1, (boxR 27 Y23 x0))]), (sO SRel.any [(2, (boxR 27 Y23 (List.replicate 64 0)))]), (sp ((TI .i64).sv 0))] (by kernel_rfl) (AOK.cons (fun ρ a w hs hz hΓ hp => g_box hs.le (hΓ 0 rfl)) (AOK.cons (fun ρ a w hs hz hΓ hp => g_alloc hs.le z27 zc27) (AOK.cons (fun ρ a w hs hz hΓ hp => gp (d_assign (vI rfl))) AOK.nil rfl) rfl) rfl) (fun vs1 => ?_)
  refine T.nil ?_
  refine T.norm ?_
  refine T.seq ?_
  refine T.seq ?_
  obtain ⟨x10, e3, hF⟩ := bindS hF
  refine T.region mix 3 [9, 10, 6] [0, 1, 3] [(sp (Y77.sv x1)), (sp ((TI .i64).sv x10)), (sp ((TI .i64).sv x10))] (by kernel_rfl) (AOK.cons (fun ρ a w hs hz hΓ hp => gp (d_move (hΓ 1 rfl))) (AOK.cons (fun ρ a w hs hz hΓ hp => gp (d_call fn96 hs.le mapA1 (c96 w _ hs.le e3 ((hp 0 _ rfl rfl).1)))) (AOK.cons (fun ρ a w hs hz hΓ hp => gp (d_assign (hp 1 _ rfl rfl).1)) AOK.nil rfl) rfl) rfl) (fun vs2 => ?_)
  refine T.nil ?_
  refine T.norm ?_
  refine T.seq ?_
  refine T.region mix 2 [11, 12] [0, 1] [(sp ((TI .i64).sv x10)), (sp (TB.sv (decide (x10 ≠ 0))))] (by kernel_rfl) (AOK.cons (fun ρ a w hs hz hΓ hp => gp (d_move (hΓ 6 rfl))) (AOK.cons (fun ρ a w hs hz hΓ hp => gp (d_neq (hp 0 _ rfl rfl).1 (vI rfl))) AOK.nil rfl) rfl) (fun vs4 => ?_)
  refine T.nil ?_
  refine T.norm ?_
  refine T.cond (b := (decide (x10 ≠ 0))) (fun _ _ h => h) (fun hc => ?_) (fun hc => ?_)
  · replace hF := iteT hF hc
    refine T.seq ?_
    refine T.region mix 2 [13, 14] [0, 0, 1, 7] [(sp (Y23.sv ((List.replicate 64 0) : (List Int)))), (sp ((TI .i64).sv x10))] (by kernel_rfl) (AOK.cons (fun ρ a w hs hz hΓ hp => gp (d_buildA u27 y22 z27 zc27 (Fills.done _))) (AOK.cons (fun ρ a w hs hz hΓ hp => gp (d_move (hΓ 6 rfl))) AOK.nil rfl) rfl) (fun vs5 => ?_)
    refine T.store 2 y27 rfl (fun ρ a w st => ⟨.inl ⟨(st.env 4).1, rfl⟩, (st.env 13)⟩) (At.refl Y23 (List.replicate 64 0)) ?_
    refine T.does (R := ((TI .i64).sv x10)) rfl (fun ρ a w st => have hs := st.sat; d_assign (st.env 14)) ?_
    refine T.nil ?_
    refine T.norm ?_
    refine T.ret ?_
    obtain rfl := Option.some.inj hF
    refine T.fin0 fun ρ a w st => ?_
    obtain ⟨q0, hr0, hv0⟩ := rv_cell y27 st.sat 2 rfl (st.env 4).1
    exact ⟨_, results_two rfl hr0 rfl, ⟨_, _, rfl, hv0, (st.env 5)⟩⟩
  · replace hF := iteF hF hc
    refine T.skip ?_
    refine T.norm ?_
    refine T.seq ?_
    refine T.seq ?_
    refine T.region mix 3 [15, 16, 17] [0, 1, 0] [(sp (Y77.sv x1)), (sp ((TI .i64).sv (x1.length : Int))), (sp ((TI .i64).sv 0))] (by kernel_rfl) (AOK.cons (fun ρ a w hs hz hΓ hp => gp (d_move (hΓ 1 rfl))) (AOK.cons (fun ρ a w hs hz hΓ hp => gp (d_lenR u83 (hp 0 _ rfl rfl).1)) (AOK.cons (fun ρ a w hs hz hΓ hp => gp (d_move (vI rfl))) AOK.nil rfl) rfl) rfl) (fun vs6 => ?_)
    refine T.nil ?_
    refine T.norm ?_
    obtain ⟨yl7, e8, hF⟩ := bindS hF
    refine T.joinD (ι := (Int × (List Int)) × (Unit)) (fun p => yl7 = p.1) (Γ' := fun p => E [(2, (SRel.eq (vs1 0))), (4, (SRel.eq (vs1 1)))]) (H' := fun p => HL [(1, (boxR 27 Y23 p.1.2 (vs1 0))), (2, (boxR 27 Y23 (List.replicate 64 0) (vs1 1)))]) (fun p hy => ?_) (fun hk => ?_)
    · obtain ⟨⟨o17, or1⟩, _⟩ := p
      cases hy
      refine T.norm ?_
      refine T.seq ?_
      refine T.region mix 1 [24] [0, 1, 3] [(sp (Y23.sv or1))] (by kernel_rfl) (AOK.cons (fun ρ a w hs hz hΓ hp => gp (d_loadO y27 hs 1 rfl (.inl ⟨(hΓ 2 rfl), rfl⟩) (At.refl Y23 or1))) AOK.nil rfl) (fun vs9 => ?_)
      refine T.store 2 y27 rfl (fun ρ a w st => ⟨.inl ⟨(st.env 4), rfl⟩, (st.env 24)⟩) (At.refl Y23 (List.replicate 64 0)) ?_
      refine T.does (R := ((TI .i64).sv 0)) rfl (fun ρ a w st => have hs := st.sat; d_assign (vI rfl)) ?_
      refine T.nil ?_
      refine T.norm ?_
      refine T.ret ?_
      obtain rfl := Option.some.inj hF
      refine T.fin0 fun ρ a w st => ?_
      obtain ⟨q0, hr0, hv0⟩ := rv_cell y27 st.sat 2 rfl (st.env 4)
      exact ⟨_, results_two rfl hr0 rfl, ⟨_, _, rfl, hv0, (st.env 5)⟩⟩
    · skip
      refine T.block ?_
      refine T.loop (f := impl_DrawStrokes_l1 x1) (σ := (Int × (List Int))) (Z := Unit) (fun s z => E [(2, (SRel.eq (vs1 0))), (4, (SRel.eq (vs1 1))), (15, (Y77.sv x1)), (16, ((TI .i64).sv (x1.length : Int))), (17, ((TI .i64).sv s.1))]) (fun s z => HL [(1, (boxR 27 Y23 s.2 (vs1 0))), (2, (boxR 27 Y23 (List.replicate 64 0) (vs1 1)))]) e8 () (fun φ h => T.toh h ⟨fun _ _ h => h.1, fun _ _ h => h.1, fun _ _ h => h, fun _ _ h => h, fun _ _ h => h, trivial⟩ ⟨rfl, rfl, trivial⟩) (fun k s z uu7 hu7 hn7 => ?_)
      obtain ⟨s17, sr1⟩ := s
      dsimp only [impl_DrawStrokes_l1] at hu7
      refine T.seq ?_
      refine T.region mix 1 [18] [0] [(sp (TB.sv (decide (s17 < (x1.length : Int)))))] (by kernel_rfl) (AOK.cons (fun ρ a w hs hz hΓ hp => gp (d_lss (hΓ 17 rfl) (hΓ 16 rfl))) AOK.nil rfl) (fun vs10 => ?_)
      refine T.nil ?_
      refine T.norm ?_
      refine T.seq ?_
      refine T.cond (b := (decide (s17 < (x1.length : Int)))) (fun _ _ h => h) (fun hc => ?_) (fun hc => ?_)
      · replace hu7 := iteT hu7 hc
        refine T.skip ?_
        refine T.norm ?_
        refine T.seq ?_
        refine T.block ?_
        refine T.seq ?_
        obtain ⟨x19, e12, hu7⟩ := bindS hu7
        refine T.region mix 3 [19, 20, 8] [0, 1, 0, 7] [(sp ((TP Y36).sv x19)), (sp (Y36.sv x19)), (sO SRel.any [(3, (boxR 40 Y36 ((List.replicate 2 0), (List.replicate 2 0), 0)))])] (by kernel_rfl) (AOK.cons (fun ρ a w hs hz hΓ hp => gp (d_idxR u83 y40 (hΓ 15 rfl) (hΓ 17 rfl) e12)) (AOK.cons (fun ρ a w hs hz hΓ hp => gp (d_load y40 hs.le (hp 0 _ rfl rfl).1)) (AOK.cons (fun ρ a w hs hz hΓ hp => g_alloc hs.le z40 zc40) AOK.nil rfl) rfl) rfl) (fun vs11 => ?_)
        refine T.store 3 y40 rfl (fun ρ a w st => ⟨.inl ⟨(st.env 8).1, rfl⟩, (st.env 20)⟩) (At.refl Y36 ((List.replicate 2 0), (List.replicate 2 0), 0)) ?_
        refine T.nil ?_
        refine T.norm ?_
        refine T.region mix 1 [21] [0, 1] [(sp (Y36.sv x19))] (by kernel_rfl) (AOK.cons (fun ρ a w hs hz hΓ hp => gp (d_loadO y40 hs 3 rfl (.inl ⟨(hΓ 8 rfl).1, rfl⟩) (At.refl Y36 x19))) AOK.nil rfl) (fun vs13 => ?_)
        obtain ⟨x22, e14, hu7⟩ := bindS hu7
        refine T.callB (R := SRel.any) (r := (boxR 27 Y23 sr1 (vs1 0))) (r' := (boxR 27 Y23 x22 (vs1 0))) 1 fn97 rfl rfl (loose_boxR (flat_TArr (flat_TI _))) (loose_boxR (flat_TArr (flat_TI _))) rfl (fun ρ a w st hle hm => ?_) ?_
        · rw [mapA3]; exact call_at (r := boxR 27 Y23 x22) (st.env 2) (c97 w _ _ _  e14 (hm_at (r := boxR 27 Y23 sr1) (st.env 2) hm) (Ty.val_mono _ (le_at (st.env 2) hle) (st.env 21)) (Ty.val_mono _ (le_at (st.env 2) hle) (vB _)))
        refine T.nil ?_
        refine T.fallX ?_
        refine T.norm ?_
        refine T.region mix 2 [23, 17] [0, 1] [(sp ((TI .i64).sv (IntKind.i64.wrap (s17 + 1)))), (sp ((TI .i64).sv (IntKind.i64.wrap (s17 + 1))))] (by kernel_rfl) (AOK.cons (fun ρ a w hs hz hΓ hp => gp (d_add (hΓ 17 rfl) (vI rfl))) (AOK.cons (fun ρ a w hs hz hΓ hp => gp (d_move (hp 0 _ rfl rfl).1)) AOK.nil rfl) rfl) (fun vs15 => ?_)
        refine T.nil ?_
        obtain rfl := Option.some.inj hu7
        exact T.again hn7 () (fun φ h => T.toh h ⟨fun _ _ h => h, fun _ _ h => h, fun _ _ h => h, fun _ _ h => h, fun _ _ h => h, trivial⟩ ⟨rfl, rfl, trivial⟩)
      · replace hu7 := iteF hu7 hc
        refine T.exit ?_
        obtain rfl := Option.some.inj hu7
        repeat (first | refine T.passX ?_ | refine T.inX (by decide) ?_)
        refine T.hereX ?_
        exact T.toh (hk ((s17, sr1), ()) (Eq.symm hn7)) ⟨fun _ _ h => h, fun _ _ h => h, trivial⟩ ⟨rfl, rfl, trivial⟩

theorem c47 (w : World) (v0 v1 : Value) {σ : Heap} (hσ : σ.le (snap w)) {x0 : (List Int)} {x1 : (List Int)} {r : Bool} (hF : laws_eqSheet x0 x1 = some r) (h0 : Y23.val σ v0 x0) (h1 : Y23.val σ v1 x1) :
    Calls Try.prog 47 #[v0, v1] w (Ret [] w σ (TB.sv r) []) := by
  unfold laws_eqSheet at hF
  refine start (args := [v0, v1]) Try.func47 rfl 17 rfl [] [(0, (Y23.sv x0)), (1, (Y23.sv x1))] [] (sat_start _ hσ) rfl (args1 rfl h0 (args1 rfl h1 (args0))) ?_
  refine T.seq ?_
  refine T.region mix 3 [2, 3, 4] [0, 0, 0] [(sp ((TP Y23).sv x0)), (sp ((TP Y23).sv x1)), (sp (TB.sv false))] (by kernel_rfl) (AOK.cons (fun ρ a w hs hz hΓ hp => gp (d_box hs.le (hΓ 0 rfl))) (AOK.cons (fun ρ a w hs hz hΓ hp => gp (d_box hs.le (hΓ 1 rfl))) (AOK.cons (fun ρ a w hs hz hΓ hp => gp (d_assign (vB _))) AOK.nil rfl) rfl) rfl) (fun vs1 => ?_)
  refine T.nil ?_
  refine T.norm ?_
  refine T.seq ?_
  refine T.seq ?_
  refine T.region mix 1 [5] [0] [(sp ((TI .i64).sv 0))] (by kernel_rfl) (AOK.cons (fun ρ a w hs hz hΓ hp => gp (d_assign (vI rfl))) AOK.nil rfl) (fun vs2 => ?_)
  refine T.nil ?_
  refine T.norm ?_
  obtain ⟨yl3, e4, hF⟩ := bindS hF
  refine T.joinD (ι := Int × (Unit)) (fun p => yl3 = .inl p.1) (Γ' := fun p => E []) (H' := fun p => HL []) (fun p hy => ?_) (fun hk => ?_)
  · obtain ⟨o5, _⟩ := p
    cases hy
    refine T.norm ?_
    refine T.seq ?_
    refine T.region mix 1 [4] [0] [(sp (TB.sv true))] (by kernel_rfl) (AOK.cons (fun ρ a w hs hz hΓ hp => gp (d_assign (vB _))) AOK.nil rfl) (fun vs5 => ?_)
    refine T.nil ?_
    refine T.norm ?_
    refine T.ret ?_
    obtain rfl := Option.some.inj hF
    refine T.fin0 fun ρ a w st => ?_
    exact ⟨_, results_one rfl rfl, (st.env 4)⟩
  · skip
    refine T.block ?_
    refine T.loop (f := laws_eqSheet_l1 x0 x1) (σ := Int) (Z := Unit) (fun s z => E [(2, ((TP Y23).sv x0)), (3, ((TP Y23).sv x1)), (5, ((TI .i64).sv s))]) (fun s z => HL []) e4 () (fun φ h => T.toh h ⟨fun _ _ h => h, fun _ _ h => h, fun _ _ h => h, trivial⟩ trivial) (fun k s z uu3 hu3 hn3 => ?_)
    obtain ⟨s5, rfl⟩ : ∃ q, q = s := ⟨_, rfl⟩
    dsimp only [laws_eqSheet_l1] at hu3
    refine T.seq ?_
    refine T.seq ?_
    refine T.region mix 2 [6, 7] [0, 1] [(sp ((TI .i64).sv s5)), (sp (TB.sv (decide (s5 < 64))))] (by kernel_rfl) (AOK.cons (fun ρ a w hs hz hΓ hp => gp (d_move (hΓ 5 rfl))) (AOK.cons (fun ρ a w hs hz hΓ hp => gp (d_lss (hp 0 _ rfl rfl).1 (vI rfl))) AOK.nil rfl) rfl) (fun vs6 => ?_)
    refine T.nil ?_
    refine T.norm ?_
    refine T.cond (b := (decide (s5 < 64))) (fun _ _ h => h) (fun hc => ?_) (fun hc => ?_)
    · replace hu3 := iteT hu3 hc
      refine T.skip ?_
      refine T.norm ?_
      refine T.seq ?_
      refine T.block ?_
      refine T.seq ?_
      obtain ⟨x11, e8, hu3⟩ := bindS hu3
      obtain ⟨x14, e9, hu3⟩ := bindS hu3
      refine T.region mix 7 [10, 11, 12, 13, 14, 15, 16] [0, 1, 3, 0, 8, 24, 63] [(sp ((TI .i64).sv s5)), (sp ((TP (TI .u64)).sv x11)), (sp ((TI .u64).sv x11)), (sp ((TI .i64).sv s5)), (sp ((TP (TI .u64)).sv x14)), (sp ((TI .u64).sv x14)), (sp (TB.sv (decide (x11 ≠ x14))))] (by kernel_rfl) (AOK.cons (fun ρ a w hs hz hΓ hp => gp (d_move (hΓ 5 rfl))) (AOK.cons (fun ρ a w hs hz hΓ hp => gp (d_idxP u27 y22 (hΓ 2 rfl) (hp 0 _ rfl rfl).1 e8)) (AOK.cons (fun ρ a w hs hz hΓ hp => gp (d_load y22 hs.le (hp 1 _ rfl rfl).1)) (AOK.cons (fun ρ a w hs hz hΓ hp => gp (d_move (hΓ 5 rfl))) (AOK.cons (fun ρ a w hs hz hΓ hp => gp (d_idxP u27 y22 (hΓ 3 rfl) (hp 3 _ rfl rfl).1 e9)) (AOK.cons (fun ρ a w hs hz hΓ hp => gp (d_load y22 hs.le (hp 4 _ rfl rfl).1)) (AOK.cons (fun ρ a w hs hz hΓ hp => gp (d_neq (hp 2 _ rfl rfl).1 (hp 5 _ rfl rfl).1)) AOK.nil rfl) rfl) rfl) rfl) rfl) rfl) rfl) (fun vs7 => ?_)
      refine T.nil ?_
      refine T.norm ?_
      refine T.cond (b := (decide (x11 ≠ x14))) (fun _ _ h => h) (fun hc => ?_) (fun hc => ?_)
      · replace hu3 := iteT hu3 hc
        refine T.seq ?_
        refine T.region mix 1 [4] [0] [(sp (TB.sv false))] (by kernel_rfl) (AOK.cons (fun ρ a w hs hz hΓ hp => gp (d_assign (vB _))) AOK.nil rfl) (fun vs10 => ?_)
        refine T.nil ?_
        refine T.norm ?_
        refine T.ret ?_
        obtain rfl := Option.some.inj hu3
        cases hn3
        obtain rfl := Option.some.inj hF
        refine T.fin0 fun ρ a w st => ?_
        exact ⟨_, results_one rfl rfl, (st.env 4)⟩
      · replace hu3 := iteF hu3 hc
        refine T.skip ?_
        refine T.fallX ?_
        refine T.norm ?_
        refine T.region mix 3 [8, 9, 5] [0, 1, 3] [(sp ((TI .i64).sv s5)), (sp ((TI .i64).sv (IntKind.i64.wrap (s5 + 1)))), (sp ((TI .i64).sv (IntKind.i64.wrap (s5 + 1))))] (by kernel_rfl) (AOK.cons (fun ρ a w hs hz hΓ hp => gp (d_move (hΓ 5 rfl))) (AOK.cons (fun ρ a w hs hz hΓ hp => gp (d_add (hp 0 _ rfl rfl).1 (vI rfl))) (AOK.cons (fun ρ a w hs hz hΓ hp => gp (d_assign (hp 1 _ rfl rfl).1)) AOK.nil rfl) rfl) rfl) (fun vs11 => ?_)
        refine T.nil ?_
        obtain rfl := Option.some.inj hu3
        exact T.again hn3 () (fun φ h => T.toh h ⟨fun _ _ h => h, fun _ _ h => h, fun _ _ h => h, trivial⟩ trivial)
    · replace hu3 := iteF hu3 hc
      refine T.exit ?_
      obtain rfl := Option.some.inj hu3
      repeat (first | refine T.passX ?_ | refine T.inX (by decide) ?_)
      refine T.hereX ?_
      exact T.toh (hk (s5, ()) (Eq.symm hn3)) trivial trivial

theorem c36 (w : World) (v0 v1 : Value) {σ : Heap} (hσ : σ.le (snap w)) {x0 : (List Int)} {x1 : (List Int)} {r : Bool} (hF : laws_eqMark x0 x1 = some r) (h0 : Y25.val σ v0 x0) (h1 : Y25.val σ v1 x1) :
    Calls Try.prog 36 #[v0, v1] w (Ret [] w σ (TB.sv r) []) := by
  unfold laws_eqMark at hF
  refine start (args := [v0, v1]) Try.func36 rfl 17 rfl [] [(0, (Y25.sv x0)), (1, (Y25.sv x1))] [] (sat_start _ hσ) rfl (args1 rfl h0 (args1 rfl h1 (args0))) ?_
  refine T.seq ?_
  refine T.region mix 3 [2, 3, 4] [0, 0, 0] [(sp ((TP Y25).sv x0)), (sp ((TP Y25).sv x1)), (sp (TB.sv false))] (by kernel_rfl) (AOK.cons (fun ρ a w hs hz hΓ hp => gp (d_box hs.le (hΓ 0 rfl))) (AOK.cons (fun ρ a w hs hz hΓ hp => gp (d_box hs.le (hΓ 1 rfl))) (AOK.cons (fun ρ a w hs hz hΓ hp => gp (d_assign (vB _))) AOK.nil rfl) rfl) rfl) (fun vs1 => ?_)
  refine T.nil ?_
  refine T.norm ?_
  refine T.seq ?_
  refine T.seq ?_
  refine T.region mix 1 [5] [0] [(sp ((TI .i64).sv 0))] (by kernel_rfl) (AOK.cons (fun ρ a w hs hz hΓ hp => gp (d_assign (vI rfl))) AOK.nil rfl) (fun vs2 => ?_)
  refine T.nil ?_
  refine T.norm ?_
  obtain ⟨yl3, e4, hF⟩ := bindS hF
  refine T.joinD (ι := Int × (Unit)) (fun p => yl3 = .inl p.1) (Γ' := fun p => E []) (H' := fun p => HL []) (fun p hy => ?_) (fun hk => ?_)
  · obtain ⟨o5, _⟩ := p
    cases hy
    refine T.norm ?_
    refine T.seq ?_
    refine T.region mix 1 [4] [0] [(sp (TB.sv true))] (by kernel_rfl) (AOK.cons (fun ρ a w hs hz hΓ hp => gp (d_assign (vB _))) AOK.nil rfl) (fun vs5 => ?_)
    refine T.nil ?_
    refine T.norm ?_
    refine T.ret ?_
    obtain rfl := Option.some.inj hF
    refine T.fin0 fun ρ a w st => ?_
    exact ⟨_, results_one rfl rfl, (st.env 4)⟩
  · skip
    refine T.block ?_
    refine T.loop (f := laws_eqMark_l1 x0 x1) (σ := Int) (Z := Unit) (fun s z => E [(2, ((TP Y25).sv x0)), (3, ((TP Y25).sv x1)), (5, ((TI .i64).sv s))]) (fun s z => HL []) e4 () (fun φ h => T.toh h ⟨fun _ _ h => h, fun _ _ h => h, fun _ _ h => h, trivial⟩ trivial) (fun k s z uu3 hu3 hn3 => ?_)
    obtain ⟨s5, rfl⟩ : ∃ q, q = s := ⟨_, rfl⟩
    dsimp only [laws_eqMark_l1] at hu3
    refine T.seq ?_
    refine T.seq ?_
    refine T.region mix 2 [6, 7] [0, 1] [(sp ((TI .i64).sv s5)), (sp (TB.sv (decide (s5 < 2))))] (by kernel_rfl) (AOK.cons (fun ρ a w hs hz hΓ hp => gp (d_move (hΓ 5 rfl))) (AOK.cons (fun ρ a w hs hz hΓ hp => gp (d_lss (hp 0 _ rfl rfl).1 (vI rfl))) AOK.nil rfl) rfl) (fun vs6 => ?_)
    refine T.nil ?_
    refine T.norm ?_
    refine T.cond (b := (decide (s5 < 2))) (fun _ _ h => h) (fun hc => ?_) (fun hc => ?_)
    · replace hu3 := iteT hu3 hc
      refine T.skip ?_
      refine T.norm ?_
      refine T.seq ?_
      refine T.block ?_
      refine T.seq ?_
      obtain ⟨x11, e8, hu3⟩ := bindS hu3
      obtain ⟨x14, e9, hu3⟩ := bindS hu3
      refine T.region mix 7 [10, 11, 12, 13, 14, 15, 16] [0, 1, 3, 0, 8, 24, 63] [(sp ((TI .i64).sv s5)), (sp ((TP (TI .i16)).sv x11)), (sp ((TI .i16).sv x11)), (sp ((TI .i64).sv s5)), (sp ((TP (TI .i16)).sv x14)), (sp ((TI .i16).sv x14)), (sp (TB.sv (decide (x11 ≠ x14))))] (by kernel_rfl) (AOK.cons (fun ρ a w hs hz hΓ hp => gp (d_move (hΓ 5 rfl))) (AOK.cons (fun ρ a w hs hz hΓ hp => gp (d_idxP u29 y24 (hΓ 2 rfl) (hp 0 _ rfl rfl).1 e8)) (AOK.cons (fun ρ a w hs hz hΓ hp => gp (d_load y24 hs.le (hp 1 _ rfl rfl).1)) (AOK.cons (fun ρ a w hs hz hΓ hp => gp (d_move (hΓ 5 rfl))) (AOK.cons (fun ρ a w hs hz hΓ hp => gp (d_idxP u29 y24 (hΓ 3 rfl) (hp 3 _ rfl rfl).1 e9)) (AOK.cons (fun ρ a w hs hz hΓ hp => gp (d_load y24 hs.le (hp 4 _ rfl rfl).1)) (AOK.cons (fun ρ a w hs hz hΓ hp => gp (d_neq (hp 2 _ rfl rfl).1 (hp 5 _ rfl rfl).1)) AOK.nil rfl) rfl) rfl) rfl) rfl) rfl) rfl) (fun vs7 => ?_)
      refine T.nil ?_
      refine T.norm ?_
      refine T.cond (b := (decide (x11 ≠ x14))) (fun _ _ h => h) (fun hc => ?_) (fun hc => ?_)
      · replace hu3 := iteT hu3 hc
        refine T.seq ?_
        refine T.region mix 1 [4] [0] [(sp (TB.sv false))] (by kernel_rfl) (AOK.cons (fun ρ a w hs hz hΓ hp => gp (d_assign (vB _))) AOK.nil rfl) (fun vs10 => ?_)
        refine T.nil ?_
        refine T.norm ?_
        refine T.ret ?_
        obtain rfl := Option.some.inj hu3
        cases hn3
        obtain rfl := Option.some.inj hF
        refine T.fin0 fun ρ a w st => ?_
        exact ⟨_, results_one rfl rfl, (st.env 4)⟩
      · replace hu3 := iteF hu3 hc
        refine T.skip ?_
        refine T.fallX ?_
        refine T.norm ?_
        refine T.region mix 3 [8, 9, 5] [0, 1, 3] [(sp ((TI .i64).sv s5)), (sp ((TI .i64).sv (IntKind.i64.wrap (s5 + 1)))), (sp ((TI .i64).sv (IntKind.i64.wrap (s5 + 1))))] (by kernel_rfl) (AOK.cons (fun ρ a w hs hz hΓ hp => gp (d_move (hΓ 5 rfl))) (AOK.cons (fun ρ a w hs hz hΓ hp => gp (d_add (hp 0 _ rfl rfl).1 (vI rfl))) (AOK.cons (fun ρ a w hs hz hΓ hp => gp (d_assign (hp 1 _ rfl rfl).1)) AOK.nil rfl) rfl) rfl) (fun vs11 => ?_)
        refine T.nil ?_
        obtain rfl := Option.some.inj hu3
        exact T.again hn3 () (fun φ h => T.toh h ⟨fun _ _ h => h, fun _ _ h => h, fun _ _ h => h, trivial⟩ trivial)
    · replace hu3 := iteF hu3 hc
      refine T.exit ?_
      obtain rfl := Option.some.inj hu3
      repeat (first | refine T.passX ?_ | refine T.inX (by decide) ?_)
      refine T.hereX ?_
      exact T.toh (hk (s5, ()) (Eq.symm hn3)) trivial trivial

theorem c44 (w : World) (v0 v1 : Value) {σ : Heap} (hσ : σ.le (snap w)) {x0 : ((List Int) × (List Int) × Int)} {x1 : ((List Int) × (List Int) × Int)} {r : Bool} (hF : laws_eqStroke x0 x1 = some r) (h0 : Y36.val σ v0 x0) (h1 : Y36.val σ v1 x1) :
    Calls Try.prog 44 #[v0, v1] w (Ret [] w σ (TB.sv r) []) := by
  unfold laws_eqStroke at hF
  refine start (args := [v0, v1]) Try.func44 rfl 22 rfl [] [(0, (Y36.sv x0)), (1, (Y36.sv x1))] [] (sat_start _ hσ) rfl (args1 rfl h0 (args1 rfl h1 (args0))) ?_
  refine T.seq ?_
  refine T.region mix 3 [2, 3, 4] [0, 0, 0] [(sp ((TP Y36).sv x0)), (sp ((TP Y36).sv x1)), (sp (TB.sv false))] (by kernel_rfl) (AOK.cons (fun ρ a w hs hz hΓ hp => gp (d_box hs.le (hΓ 0 rfl))) (AOK.cons (fun ρ a w hs hz hΓ hp => gp (d_box hs.le (hΓ 1 rfl))) (AOK.cons (fun ρ a w hs hz hΓ hp => gp (d_assign (vB _))) AOK.nil rfl) rfl) rfl) (fun vs1 => ?_)
  refine T.nil ?_
  refine T.norm ?_
  refine T.seq ?_
  refine T.seq ?_
  obtain ⟨x9, e3, hF⟩ := bindS hF
  refine T.region mix 6 [5, 6, 7, 8, 9, 10] [0, 1, 0, 4, 15, 31] [(sp ((TP Y25).sv x0.1)), (sp (Y25.sv x0.1)), (sp ((TP Y25).sv x1.1)), (sp (Y25.sv x1.1)), (sp (TB.sv x9)), (sp (TB.sv (!x9)))] (by kernel_rfl) (AOK.cons (fun ρ a w hs hz hΓ hp => gp (d_fieldP fa40_0 (hΓ 2 rfl) (At.fst (At.refl _ _)))) (AOK.cons (fun ρ a w hs hz hΓ hp => gp (d_load y29 hs.le (hp 0 _ rfl rfl).1)) (AOK.cons (fun ρ a w hs hz hΓ hp => gp (d_fieldP fa40_0 (hΓ 3 rfl) (At.fst (At.refl _ _)))) (AOK.cons (fun ρ a w hs hz hΓ hp => gp (d_load y29 hs.le (hp 2 _ rfl rfl).1)) (AOK.cons (fun ρ a w hs hz hΓ hp => gp (d_call fn36 hs.le mapA2 (c36 w _ _ hs.le e3 ((hp 1 _ rfl rfl).1) ((hp 3 _ rfl rfl).1)))) (AOK.cons (fun ρ a w hs hz hΓ hp => gp (d_not (hp 4 _ rfl rfl).1)) AOK.nil rfl) rfl) rfl) rfl) rfl) rfl) (fun vs2 => ?_)
  refine T.nil ?_
  refine T.norm ?_
  refine T.cond (b := (!x9)) (fun _ _ h => h) (fun hc => ?_) (fun hc => ?_)
  · replace hF := iteT hF hc
    refine T.seq ?_
    refine T.region mix 1 [4] [0] [(sp (TB.sv false))] (by kernel_rfl) (AOK.cons (fun ρ a w hs hz hΓ hp => gp (d_assign (vB _))) AOK.nil rfl) (fun vs4 => ?_)
    refine T.nil ?_
    refine T.norm ?_
    refine T.ret ?_
    obtain rfl := Option.some.inj hF
    refine T.fin0 fun ρ a w st => ?_
    exact ⟨_, results_one rfl rfl, (st.env 4)⟩
  · replace hF := iteF hF hc
    refine T.skip ?_
    refine T.norm ?_
    refine T.seq ?_
    refine T.seq ?_
    obtain ⟨x15, e6, hF⟩ := bindS hF
    refine T.region mix 6 [11, 12, 13, 14, 15, 16] [0, 1, 0, 4, 15, 31] [(sp ((TP Y25).sv x0.2.1)), (sp (Y25.sv x0.2.1)), (sp ((TP Y25).sv x1.2.1)), (sp (Y25.sv x1.2.1)), (sp (TB.sv x15)), (sp (TB.sv (!x15)))] (by kernel_rfl) (AOK.cons (fun ρ a w hs hz hΓ hp => gp (d_fieldP fa40_1 (hΓ 2 rfl) (At.fst (At.snd (At.refl _ _))))) (AOK.cons (fun ρ a w hs hz hΓ hp => gp (d_load y29 hs.le (hp 0 _ rfl rfl).1)) (AOK.cons (fun ρ a w hs hz hΓ hp => gp (d_fieldP fa40_1 (hΓ 3 rfl) (At.fst (At.snd (At.refl _ _))))) (AOK.cons (fun ρ a w hs hz hΓ hp => gp (d_load y29 hs.le (hp 2 _ rfl rfl).1)) (AOK.cons (fun ρ a w hs hz hΓ hp => gp (d_call fn36 hs.le mapA2 (c36 w _ _ hs.le e6 ((hp 1 _ rfl rfl).1) ((hp 3 _ rfl rfl).1)))) (AOK.cons (fun ρ a w hs hz hΓ hp => gp (d_not (hp 4 _ rfl rfl).1)) AOK.nil rfl) rfl) rfl) rfl) rfl) rfl) (fun vs5 => ?_)
    refine T.nil ?_
    refine T.norm ?_
    refine T.cond (b := (!x15)) (fun _ _ h => h) (fun hc => ?_) (fun hc => ?_)
    · replace hF := iteT hF hc
      refine T.seq ?_
      refine T.region mix 1 [4] [0] [(sp (TB.sv false))] (by kernel_rfl) (AOK.cons (fun ρ a w hs hz hΓ hp => gp (d_assign (vB _))) AOK.nil rfl) (fun vs7 => ?_)
      refine T.nil ?_
      refine T.norm ?_
      refine T.ret ?_
      obtain rfl := Option.some.inj hF
      refine T.fin0 fun ρ a w st => ?_
      exact ⟨_, results_one rfl rfl, (st.env 4)⟩
    · replace hF := iteF hF hc
      refine T.skip ?_
      refine T.norm ?_
      refine T.seq ?_
      refine T.seq ?_
      refine T.region mix 5 [17, 18, 19, 20, 21] [0, 1, 0, 4, 15] [(sp ((TP (TI .i8)).sv x0.2.2)), (sp ((TI .i8).sv x0.2.2)), (sp ((TP (TI .i8)).sv x1.2.2)), (sp ((TI .i8).sv x1.2.2)), (sp (TB.sv (decide (x0.2.2 ≠ x1.2.2))))] (by kernel_rfl) (AOK.cons (fun ρ a w hs hz hΓ hp => gp (d_fieldP fa40_2 (hΓ 2 rfl) (At.snd (At.snd (At.refl _ _))))) (AOK.cons (fun ρ a w hs hz hΓ hp => gp (d_load y34 hs.le (hp 0 _ rfl rfl).1)) (AOK.cons (fun ρ a w hs hz hΓ hp => gp (d_fieldP fa40_2 (hΓ 3 rfl) (At.snd (At.snd (At.refl _ _))))) (AOK.cons (fun ρ a w hs hz hΓ hp => gp (d_load y34 hs.le (hp 2 _ rfl rfl).1)) (AOK.cons (fun ρ a w hs hz hΓ hp => gp (d_neq (hp 1 _ rfl rfl).1 (hp 3 _ rfl rfl).1)) AOK.nil rfl) rfl) rfl) rfl) rfl) (fun vs8 => ?_)
      refine T.nil ?_
      refine T.norm ?_
      refine T.cond (b := (decide (x0.2.2 ≠ x1.2.2))) (fun _ _ h => h) (fun hc => ?_) (fun hc => ?_)
      · replace hF := iteT hF hc
        refine T.seq ?_
        refine T.region mix 1 [4] [0] [(sp (TB.sv false))] (by kernel_rfl) (AOK.cons (fun ρ a w hs hz hΓ hp => gp (d_assign (vB _))) AOK.nil rfl) (fun vs9 => ?_)
        refine T.nil ?_
        refine T.norm ?_
        refine T.ret ?_
        obtain rfl := Option.some.inj hF
        refine T.fin0 fun ρ a w st => ?_
        exact ⟨_, results_one rfl rfl, (st.env 4)⟩
      · replace hF := iteF hF hc
        refine T.skip ?_
        refine T.norm ?_
        refine T.seq ?_
        refine T.region mix 1 [4] [0] [(sp (TB.sv true))] (by kernel_rfl) (AOK.cons (fun ρ a w hs hz hΓ hp => gp (d_assign (vB _))) AOK.nil rfl) (fun vs10 => ?_)
        refine T.nil ?_
        refine T.norm ?_
        refine T.ret ?_
        obtain rfl := Option.some.inj hF
        refine T.fin0 fun ρ a w st => ?_
        exact ⟨_, results_one rfl rfl, (st.env 4)⟩

theorem c54 (w : World) (v0 v1 : Value) {σ : Heap} (hσ : σ.le (snap w)) {x0 : (List ((List Int) × (List Int) × Int))} {x1 : (List ((List Int) × (List Int) × Int))} {r : Bool} (hF : laws_eqStrokeS x0 x1 = some r) (h0 : Y77.val σ v0 x0) (h1 : Y77.val σ v1 x1) :
    Calls Try.prog 54 #[v0, v1] w (Ret [] w σ (TB.sv r) []) := by
  unfold laws_eqStrokeS at hF
  refine start (args := [v0, v1]) Try.func54 rfl 27 rfl [] [(0, (Y77.sv x0)), (1, (Y77.sv x1))] [] (sat_start _ hσ) rfl (args1 rfl h0 (args1 rfl h1 (args0))) ?_
  refine T.seq ?_
  refine T.region mix 1 [4] [0] [(sp (TB.sv false))] (by kernel_rfl) (AOK.cons (fun ρ a w hs hz hΓ hp => gp (d_assign (vB _))) AOK.nil rfl) (fun vs1 => ?_)
  refine T.nil ?_
  refine T.norm ?_
  refine T.seq ?_
  refine T.seq ?_
  refine T.region mix 5 [6, 7, 8, 9, 10] [0, 1, 0, 4, 15] [(sp (Y77.sv x0)), (sp ((TI .i64).sv (x0.length : Int))), (sp (Y77.sv x1)), (sp ((TI .i64).sv (x1.length : Int))), (sp (TB.sv (decide ((x0.length : Int) ≠ (x1.length : Int)))))] (by kernel_rfl) (AOK.cons (fun ρ a w hs hz hΓ hp => gp (d_move (hΓ 0 rfl))) (AOK.cons (fun ρ a w hs hz hΓ hp => gp (d_lenR u83 (hp 0 _ rfl rfl).1)) (AOK.cons (fun ρ a w hs hz hΓ hp => gp (d_move (hΓ 1 rfl))) (AOK.cons (fun ρ a w hs hz hΓ hp => gp (d_lenR u83 (hp 2 _ rfl rfl).1)) (AOK.cons (fun ρ a w hs hz hΓ hp => gp (d_neq (hp 1 _ rfl rfl).1 (hp 3 _ rfl rfl).1)) AOK.nil rfl) rfl) rfl) rfl) rfl) (fun vs2 => ?_)
  refine T.nil ?_
  refine T.norm ?_
  refine T.cond (b := (decide ((x0.length : Int) ≠ (x1.length : Int)))) (fun _ _ h => h) (fun hc => ?_) (fun hc => ?_)
  · replace hF := iteT hF hc
    refine T.seq ?_
    refine T.region mix 1 [4] [0] [(sp (TB.sv false))] (by kernel_rfl) (AOK.cons (fun ρ a w hs hz hΓ hp => gp (d_assign (vB _))) AOK.nil rfl) (fun vs3 => ?_)
    refine T.nil ?_
    refine T.norm ?_
    refine T.ret ?_
    obtain rfl := Option.some.inj hF
    refine T.fin0 fun ρ a w st => ?_
    exact ⟨_, results_one rfl rfl, (st.env 4)⟩
  · replace hF := iteF hF hc
    refine T.skip ?_
    refine T.norm ?_
    refine T.seq ?_
    refine T.seq ?_
    refine T.region mix 1 [5] [0] [(sp ((TI .i64).sv 0))] (by kernel_rfl) (AOK.cons (fun ρ a w hs hz hΓ hp => gp (d_assign (vI rfl))) AOK.nil rfl) (fun vs4 => ?_)
    refine T.nil ?_
    refine T.norm ?_
    obtain ⟨yl5, e6, hF⟩ := bindS hF
    refine T.joinD (ι := Int × (Unit)) (fun p => yl5 = .inl p.1) (Γ' := fun p => E []) (H' := fun p => HL []) (fun p hy => ?_) (fun hk => ?_)
    · obtain ⟨o5, _⟩ := p
      cases hy
      refine T.norm ?_
      refine T.seq ?_
      refine T.region mix 1 [4] [0] [(sp (TB.sv true))] (by kernel_rfl) (AOK.cons (fun ρ a w hs hz hΓ hp => gp (d_assign (vB _))) AOK.nil rfl) (fun vs7 => ?_)
      refine T.nil ?_
      refine T.norm ?_
      refine T.ret ?_
      obtain rfl := Option.some.inj hF
      refine T.fin0 fun ρ a w st => ?_
      exact ⟨_, results_one rfl rfl, (st.env 4)⟩
    · skip
      refine T.block ?_
      refine T.loop (f := laws_eqStrokeS_l1 x0 x1) (σ := Int) (Z := Unit) (fun s z => E [(0, (Y77.sv x0)), (1, (Y77.sv x1)), (5, ((TI .i64).sv s))]) (fun s z => HL []) e6 () (fun φ h => T.toh h ⟨fun _ _ h => h, fun _ _ h => h, fun _ _ h => h, trivial⟩ trivial) (fun k s z uu5 hu5 hn5 => ?_)
      obtain ⟨s5, rfl⟩ : ∃ q, q = s := ⟨_, rfl⟩
      dsimp only [laws_eqStrokeS_l1] at hu5
      refine T.seq ?_
      refine T.seq ?_
      refine T.region mix 4 [11, 12, 13, 14] [0, 0, 2, 7] [(sp ((TI .i64).sv s5)), (sp (Y77.sv x0)), (sp ((TI .i64).sv (x0.length : Int))), (sp (TB.sv (decide (s5 < (x0.length : Int)))))] (by kernel_rfl) (AOK.cons (fun ρ a w hs hz hΓ hp => gp (d_move (hΓ 5 rfl))) (AOK.cons (fun ρ a w hs hz hΓ hp => gp (d_move (hΓ 0 rfl))) (AOK.cons (fun ρ a w hs hz hΓ hp => gp (d_lenR u83 (hp 1 _ rfl rfl).1)) (AOK.cons (fun ρ a w hs hz hΓ hp => gp (d_lss (hp 0 _ rfl rfl).1 (hp 2 _ rfl rfl).1)) AOK.nil rfl) rfl) rfl) rfl) (fun vs8 => ?_)
      refine T.nil ?_
      refine T.norm ?_
      refine T.cond (b := (decide (s5 < (x0.length : Int)))) (fun _ _ h => h) (fun hc => ?_) (fun hc => ?_)
      · replace hu5 := iteT hu5 hc
        refine T.skip ?_
        refine T.norm ?_
        refine T.seq ?_
        refine T.block ?_
        refine T.seq ?_
        obtain ⟨x19, e10, hu5⟩ := bindS hu5
        obtain ⟨x23, e11, hu5⟩ := bindS hu5
        obtain ⟨x25, e12, hu5⟩ := bindS hu5
        refine T.region mix 10 [17, 18, 19, 20, 21, 22, 23, 24, 25, 26] [0, 0, 3, 7, 0, 0, 48, 112, 255, 511] [(sp (Y77.sv x0)), (sp ((TI .i64).sv s5)), (sp ((TP Y36).sv x19)), (sp (Y36.sv x19)), (sp (Y77.sv x1)), (sp ((TI .i64).sv s5)), (sp ((TP Y36).sv x23)), (sp (Y36.sv x23)), (sp (TB.sv x25)), (sp (TB.sv (!x25)))] (by kernel_rfl) (AOK.cons (fun ρ a w hs hz hΓ hp => gp (d_move (hΓ 0 rfl))) (AOK.cons (fun ρ a w hs hz hΓ hp => gp (d_move (hΓ 5 rfl))) (AOK.cons (fun ρ a w hs hz hΓ hp => gp (d_idxR u83 y40 (hp 0 _ rfl rfl).1 (hp 1 _ rfl rfl).1 e10)) (AOK.cons (fun ρ a w hs hz hΓ hp => gp (d_load y40 hs.le (hp 2 _ rfl rfl).1)) (AOK.cons (fun ρ a w hs hz hΓ hp => gp (d_move (hΓ 1 rfl))) (AOK.cons (fun ρ a w hs hz hΓ hp => gp (d_move (hΓ 5 rfl))) (AOK.cons (fun ρ a w hs hz hΓ hp => gp (d_idxR u83 y40 (hp 4 _ rfl rfl).1 (hp 5 _ rfl rfl).1 e11)) (AOK.cons (fun ρ a w hs hz hΓ hp => gp (d_load y40 hs.le (hp 6 _ rfl rfl).1)) (AOK.cons (fun ρ a w hs hz hΓ hp => gp (d_call fn44 hs.le mapA2 (c44 w _ _ hs.le e12 ((hp 3 _ rfl rfl).1) ((hp 7 _ rfl rfl).1)))) (AOK.cons (fun ρ a w hs hz hΓ hp => gp (d_not (hp 8 _ rfl rfl).1)) AOK.nil rfl) rfl) rfl) rfl) rfl) rfl) rfl) rfl) rfl) rfl) (fun vs9 => ?_)
        refine T.nil ?_
        refine T.norm ?_
        refine T.cond (b := (!x25)) (fun _ _ h => h) (fun hc => ?_) (fun hc => ?_)
        · replace hu5 := iteT hu5 hc
          refine T.seq ?_
          refine T.region mix 1 [4] [0] [(sp (TB.sv false))] (by kernel_rfl) (AOK.cons (fun ρ a w hs hz hΓ hp => gp (d_assign (vB _))) AOK.nil rfl) (fun vs13 => ?_)
          refine T.nil ?_
          refine T.norm ?_
          refine T.ret ?_
          obtain rfl := Option.some.inj hu5
          cases hn5
          obtain rfl := Option.some.inj hF
          refine T.fin0 fun ρ a w st => ?_
          exact ⟨_, results_one rfl rfl, (st.env 4)⟩
        · replace hu5 := iteF hu5 hc
          refine T.skip ?_
          refine T.fallX ?_
          refine T.norm ?_
          refine T.region mix 3 [15, 16, 5] [0, 1, 3] [(sp ((TI .i64).sv s5)), (sp ((TI .i64).sv (IntKind.i64.wrap (s5 + 1)))), (sp ((TI .i64).sv (IntKind.i64.wrap (s5 + 1))))] (by kernel_rfl) (AOK.cons (fun ρ a w hs hz hΓ hp => gp (d_move (hΓ 5 rfl))) (AOK.cons (fun ρ a w hs hz hΓ hp => gp (d_add (hp 0 _ rfl rfl).1 (vI rfl))) (AOK.cons (fun ρ a w hs hz hΓ hp => gp (d_assign (hp 1 _ rfl rfl).1)) AOK.nil rfl) rfl) rfl) (fun vs14 => ?_)
          refine T.nil ?_
          obtain rfl := Option.some.inj hu5
          exact T.again hn5 () (fun φ h => T.toh h ⟨fun _ _ h => h, fun _ _ h => h, fun _ _ h => h, trivial⟩ trivial)
      · replace hu5 := iteF hu5 hc
        refine T.exit ?_
        obtain rfl := Option.some.inj hu5
        repeat (first | refine T.passX ?_ | refine T.inX (by decide) ?_)
        refine T.hereX ?_
        exact T.toh (hk (s5, ()) (Eq.symm hn5)) trivial trivial

theorem c14 (w : World) (v0 v1 : Value) {σ : Heap} (hσ : σ.le (snap w)) {x0 : (List Int)} {x1 : (List ((List Int) × (List Int) × Int))} {r : Bool} (hF : laws_FnExactDrawStrokes x0 x1 = some r) (h0 : Y23.val σ v0 x0) (h1 : Y77.val σ v1 x1) :
    Calls Try.prog 14 #[v0, v1] w (Ret [] w σ (TB.sv r) []) := by
  unfold laws_FnExactDrawStrokes at hF
  refine start (args := [v0, v1]) Try.func14 rfl 47 rfl [] [(0, (Y23.sv x0)), (1, (Y77.sv x1))] [] (sat_start _ hσ) rfl (args1 rfl h0 (args1 rfl h1 (args0))) ?_
  refine T.seq ?_
  refine T.region mix 2 [2, 4] [0, 0] [(sp ((TP Y23).sv x0)), (sp (TB.sv false))] (by kernel_rfl) (AOK.cons (fun ρ a w hs hz hΓ hp => gp (d_box hs.le (hΓ 0 rfl))) (AOK.cons (fun ρ a w hs hz hΓ hp => gp (d_assign (vB _))) AOK.nil rfl) rfl) (fun vs1 => ?_)
  refine T.nil ?_
  refine T.norm ?_
  refine T.seq ?_
  refine T.region mix 1 [5] [0] [(sp ((TI .i64).sv 1048576))] (by kernel_rfl) (AOK.cons (fun ρ a w hs hz hΓ hp => gp (d_assign (vI rfl))) AOK.nil rfl) (fun vs2 => ?_)
  refine T.nil ?_
  refine T.norm ?_
  refine T.seq ?_
  obtain ⟨x13, e4, hF⟩ := bindS hF
  refine T.region mix 4 [11, 12, 13, 5] [0, 0, 3, 7] [(sp (Y77.sv x1)), (sp ((TI .i64).sv 1048576)), (sp ((TI .i64).sv x13)), (sp ((TI .i64).sv x13))] (by kernel_rfl) (AOK.cons (fun ρ a w hs hz hΓ hp => gp (d_move (hΓ 1 rfl))) (AOK.cons (fun ρ a w hs hz hΓ hp => gp (d_move (hΓ 5 rfl))) (AOK.cons (fun ρ a w hs hz hΓ hp => gp (d_call fn48 hs.le mapA2 (c48 w _ _ hs.le e4 ((hp 0 _ rfl rfl).1) ((hp 1 _ rfl rfl).1)))) (AOK.cons (fun ρ a w hs hz hΓ hp => gp (d_assign (hp 2 _ rfl rfl).1)) AOK.nil rfl) rfl) rfl) rfl) (fun vs3 => ?_)
  refine T.nil ?_
  refine T.norm ?_
  refine T.seq ?_
  refine T.seq ?_
  refine T.region mix 2 [14, 15] [0, 1] [(sp ((TI .i64).sv x13)), (sp (TB.sv (decide (x13 < 0))))] (by kernel_rfl) (AOK.cons (fun ρ a w hs hz hΓ hp => gp (d_move (hΓ 5 rfl))) (AOK.cons (fun ρ a w hs hz hΓ hp => gp (d_lss (hp 0 _ rfl rfl).1 (vI rfl))) AOK.nil rfl) rfl) (fun vs5 => ?_)
  refine T.nil ?_
  refine T.norm ?_
  refine T.cond (b := (decide (x13 < 0))) (fun _ _ h => h) (fun hc => ?_) (fun hc => ?_)
  · replace hF := iteT hF hc
    refine T.seq ?_
    refine T.region mix 1 [4] [0] [(sp (TB.sv true))] (by kernel_rfl) (AOK.cons (fun ρ a w hs hz hΓ hp => gp (d_assign (vB _))) AOK.nil rfl) (fun vs6 => ?_)
    refine T.nil ?_
    refine T.norm ?_
    refine T.ret ?_
    obtain rfl := Option.some.inj hF
    refine T.fin0 fun ρ a w st => ?_
    exact ⟨_, results_one rfl rfl, (st.env 4)⟩
  · replace hF := iteF hF hc
    refine T.skip ?_
    refine T.norm ?_
    refine T.seq ?_
    obtain ⟨x18, e8, hF⟩ := bindS hF
    obtain ⟨x20, e9, hF⟩ := bindS hF
    obtain ⟨x21, e10, hF⟩ := bindS hF
    refine T.region mix 9 [17, 18, 19, 20, 21, 16, 22, 23, 6] [0, 1, 0, 7, 15, 31, 63, 63, 0, 383, 1023] [(sp (Y23.sv x0)), (sp (Y23.sv x18)), (sp (Y77.sv x1)), (sp (Y77.sv x20)), (sp (SRel.tup2 (Y23.sv x21.1) ((TI .i64).sv x21.2))), (sp (SRel.tup2 (Y23.sv x21.1) ((TI .i64).sv x21.2))), (sp (Y23.sv x21.1)), (sp ((TI .i64).sv x21.2)), (sO SRel.any [(1, (boxR 27 Y23 (List.replicate 64 0)))])] (by kernel_rfl) (AOK.cons (fun ρ a w hs hz hΓ hp => gp (d_load y23 hs.le (hΓ 2 rfl))) (AOK.cons (fun ρ a w hs hz hΓ hp => gp (d_call fn16 hs.le mapA1 (c16 w _ hs.le e8 ((hp 0 _ rfl rfl).1)))) (AOK.cons (fun ρ a w hs hz hΓ hp => gp (d_move (hΓ 1 rfl))) (AOK.cons (fun ρ a w hs hz hΓ hp => gp (d_callR fn50 hs.le mapA1 (c50 w _ hs.le e9 ((hp 2 _ rfl rfl).1)))) (AOK.cons (fun ρ a w hs hz hΓ hp => gp (d_call fn57 hs.le mapA2 (c57 w _ _ hs.le e10 ((hp 1 _ rfl rfl).1) ((hp 3 _ rfl rfl).1)))) (AOK.cons (fun ρ a w hs hz hΓ hp => gp (d_move (hp 4 _ rfl rfl).1)) (AOK.cons (fun ρ a w hs hz hΓ hp => gp (d_extract2_0 (hp 5 _ rfl rfl).1)) (AOK.cons (fun ρ a w hs hz hΓ hp => gp (d_extract2_1 (hp 5 _ rfl rfl).1)) (AOK.cons (fun ρ a w hs hz hΓ hp => g_alloc hs.le z27 zc27) AOK.nil rfl) rfl) rfl) rfl) rfl) rfl) rfl) rfl) rfl) (fun vs7 => ?_)
    refine T.store 1 y27 rfl (fun ρ a w st => ⟨.inl ⟨(st.env 6).1, rfl⟩, (st.env 22)⟩) (At.refl Y23 (List.replicate 64 0)) ?_
    refine T.does (R := ((TI .i64).sv x21.2)) rfl (fun ρ a w st => have hs := st.sat; d_assign (st.env 23)) ?_
    refine T.nil ?_
    refine T.norm ?_
    refine T.seq ?_
    obtain ⟨x25, e12, hF⟩ := bindS hF
    refine T.region mix 3 [24, 25, 8] [0, 1, 3] [(sp (Y77.sv x1)), (sp (Y77.sv x25)), (sp (Y77.sv x25))] (by kernel_rfl) (AOK.cons (fun ρ a w hs hz hΓ hp => gp (d_move (hΓ 1 rfl))) (AOK.cons (fun ρ a w hs hz hΓ hp => gp (d_callR fn50 hs.le mapA1 (c50 w _ hs.le e12 ((hp 0 _ rfl rfl).1)))) (AOK.cons (fun ρ a w hs hz hΓ hp => gp (d_assign (hp 1 _ rfl rfl).1)) AOK.nil rfl) rfl) rfl) (fun vs11 => ?_)
    refine T.nil ?_
    refine T.norm ?_
    refine T.seq ?_
    obtain ⟨x28, e14, hF⟩ := bindS hF
    obtain ⟨x30, e15, hF⟩ := bindS hF
    refine T.region mix 8 [27, 28, 29, 30, 26, 31, 32, 9] [0, 1, 0, 7, 15, 31, 31, 0, 191, 511] [(sp (Y23.sv x0)), (sp (Y23.sv x28)), (sp (Y77.sv x25)), (sp (SRel.tup2 (Y23.sv x30.1) ((TI .i64).sv x30.2))), (sp (SRel.tup2 (Y23.sv x30.1) ((TI .i64).sv x30.2))), (sp (Y23.sv x30.1)), (sp ((TI .i64).sv x30.2)), (sO SRel.any [(2, (boxR 27 Y23 (List.replicate 64 0)))])] (by kernel_rfl) (AOK.cons (fun ρ a w hs hz hΓ hp => gp (d_load y23 hs.le (hΓ 2 rfl))) (AOK.cons (fun ρ a w hs hz hΓ hp => gp (d_call fn16 hs.le mapA1 (c16 w _ hs.le e14 ((hp 0 _ rfl rfl).1)))) (AOK.cons (fun ρ a w hs hz hΓ hp => gp (d_move (hΓ 8 rfl))) (AOK.cons (fun ρ a w hs hz hΓ hp => gp (d_call fn58 hs.le mapA2 (c58 w _ _ hs.le e15 ((hp 1 _ rfl rfl).1) ((hp 2 _ rfl rfl).1)))) (AOK.cons (fun ρ a w hs hz hΓ hp => gp (d_move (hp 3 _ rfl rfl).1)) (AOK.cons (fun ρ a w hs hz hΓ hp => gp (d_extract2_0 (hp 4 _ rfl rfl).1)) (AOK.cons (fun ρ a w hs hz hΓ hp => gp (d_extract2_1 (hp 4 _ rfl rfl).1)) (AOK.cons (fun ρ a w hs hz hΓ hp => g_alloc hs.le z27 zc27) AOK.nil rfl) rfl) rfl) rfl) rfl) rfl) rfl) rfl) (fun vs13 => ?_)
    refine T.store 2 y27 rfl (fun ρ a w st => ⟨.inl ⟨(st.env 9).1, rfl⟩, (st.env 31)⟩) (At.refl Y23 (List.replicate 64 0)) ?_
    refine T.does (R := ((TI .i64).sv x30.2)) rfl (fun ρ a w st => have hs := st.sat; d_assign (st.env 32)) ?_
    refine T.nil ?_
    refine T.norm ?_
    refine T.seq ?_
    refine T.seq ?_
    obtain ⟨x35, e17, hF⟩ := bindS hF
    refine T.region mix 9 [33, 34, 35, 36, 37, 38, 39, 40, 41] [0, 0, 3, 7, 15, 31, 31, 127, 255] [(sp (Y23.sv x30.1)), (sp (Y23.sv x21.1)), (sp (TB.sv x35)), (sp (TB.sv (!x35))), (sp (TB.sv (!x35))), (sp (SRel.when ((!x35) = false) ((TI .i64).sv x30.2))), (sp (SRel.when ((!x35) = false) ((TI .i64).sv x21.2))), (sp (SRel.when ((!x35) = false) (TB.sv (decide (x30.2 ≠ x21.2))))), (sp (TB.sv ((!x35) || (decide (x30.2 ≠ x21.2)))))] (by kernel_rfl) (AOK.cons (fun ρ a w hs hz hΓ hp => gp (d_loadO y27 hs 2 rfl (.inl ⟨(hΓ 9 rfl).1, rfl⟩) (At.refl Y23 x30.1))) (AOK.cons (fun ρ a w hs hz hΓ hp => gp (d_loadO y27 hs 1 rfl (.inl ⟨(hΓ 6 rfl).1, rfl⟩) (At.refl Y23 x21.1))) (AOK.cons (fun ρ a w hs hz hΓ hp => gp (d_call fn47 hs.le mapA2 (c47 w _ _ hs.le e17 ((hp 0 _ rfl rfl).1) ((hp 1 _ rfl rfl).1)))) (AOK.cons (fun ρ a w hs hz hΓ hp => gp (d_not (hp 2 _ rfl rfl).1)) (AOK.cons (fun ρ a w hs hz hΓ hp => gp (d_move (hp 3 _ rfl rfl).1)) (AOK.cons (fun ρ a w hs hz hΓ hp => gg (g := 4) (d := 37) hz rfl (hp 4 _ rfl rfl).1 rfl (fun hc => d_move (hΓ 10 rfl))) (AOK.cons (fun ρ a w hs hz hΓ hp => gg (g := 4) (d := 37) hz rfl (hp 4 _ rfl rfl).1 rfl (fun hc => d_move (hΓ 7 rfl))) (AOK.cons (fun ρ a w hs hz hΓ hp => gg (g := 4) (d := 37) hz rfl (hp 4 _ rfl rfl).1 rfl (fun hc => d_neq ((hp 5 _ rfl rfl).1 hc) ((hp 6 _ rfl rfl).1 hc))) (AOK.cons (fun ρ a w hs hz hΓ hp => gp (d_pick (hp 4 _ rfl rfl).1 (fun hc => pON hc) (fun hc => pO hc ((hp 7 _ rfl rfl).1 hc)))) AOK.nil rfl) rfl) rfl) rfl) rfl) rfl) rfl) rfl) rfl) (fun vs16 => ?_)
    refine T.nil ?_
    refine T.norm ?_
    refine T.cond (b := ((!x35) || (decide (x30.2 ≠ x21.2)))) (fun _ _ h => h) (fun hc => ?_) (fun hc => ?_)
    · replace hF := iteT hF hc
      refine T.seq ?_
      refine T.region mix 1 [4] [0] [(sp (TB.sv false))] (by kernel_rfl) (AOK.cons (fun ρ a w hs hz hΓ hp => gp (d_assign (vB _))) AOK.nil rfl) (fun vs18 => ?_)
      refine T.nil ?_
      refine T.norm ?_
      refine T.ret ?_
      obtain rfl := Option.some.inj hF
      refine T.fin0 fun ρ a w st => ?_
      exact ⟨_, results_one rfl rfl, (st.env 4)⟩
    · replace hF := iteF hF hc
      refine T.skip ?_
      refine T.norm ?_
      refine T.seq ?_
      refine T.seq ?_
      obtain ⟨x44, e20, hF⟩ := bindS hF
      obtain ⟨x45, e21, hF⟩ := bindS hF
      refine T.region mix 5 [42, 43, 44, 45, 46] [0, 0, 2, 7, 15] [(sp (Y77.sv x25)), (sp (Y77.sv x1)), (sp (Y77.sv x44)), (sp (TB.sv x45)), (sp (TB.sv (!x45)))] (by kernel_rfl) (AOK.cons (fun ρ a w hs hz hΓ hp => gp (d_move (hΓ 8 rfl))) (AOK.cons (fun ρ a w hs hz hΓ hp => gp (d_move (hΓ 1 rfl))) (AOK.cons (fun ρ a w hs hz hΓ hp => gp (d_callR fn50 hs.le mapA1 (c50 w _ hs.le e20 ((hp 1 _ rfl rfl).1)))) (AOK.cons (fun ρ a w hs hz hΓ hp => gp (d_call fn54 hs.le mapA2 (c54 w _ _ hs.le e21 ((hp 0 _ rfl rfl).1) ((hp 2 _ rfl rfl).1)))) (AOK.cons (fun ρ a w hs hz hΓ hp => gp (d_not (hp 3 _ rfl rfl).1)) AOK.nil rfl) rfl) rfl) rfl) rfl) (fun vs19 => ?_)
      refine T.nil ?_
      refine T.norm ?_
      refine T.cond (b := (!x45)) (fun _ _ h => h) (fun hc => ?_) (fun hc => ?_)
      · replace hF := iteT hF hc
        refine T.seq ?_
        refine T.region mix 1 [4] [0] [(sp (TB.sv false))] (by kernel_rfl) (AOK.cons (fun ρ a w hs hz hΓ hp => gp (d_assign (vB _))) AOK.nil rfl) (fun vs22 => ?_)
        refine T.nil ?_
        refine T.norm ?_
        refine T.ret ?_
        obtain rfl := Option.some.inj hF
        refine T.fin0 fun ρ a w st => ?_
        exact ⟨_, results_one rfl rfl, (st.env 4)⟩
      · replace hF := iteF hF hc
        refine T.skip ?_
        refine T.norm ?_
        refine T.seq ?_
        refine T.region mix 1 [4] [0] [(sp (TB.sv true))] (by kernel_rfl) (AOK.cons (fun ρ a w hs hz hΓ hp => gp (d_assign (vB _))) AOK.nil rfl) (fun vs23 => ?_)
        refine T.nil ?_
        refine T.norm ?_
        refine T.ret ?_
        obtain rfl := Option.some.inj hF
        refine T.fin0 fun ρ a w st => ?_
        exact ⟨_, results_one rfl rfl, (st.env 4)⟩
end Go.Proofs.Ytnpkhhfpgedkoaa
