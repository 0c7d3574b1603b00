/-
  The walks: each function comes to what its plain function says.
-/
import Derived.Test.YtnpkhhfpgedkoaaFactsG
import Derived.Test.YtnpkhhfpgedkoaaFG
import Derived.Test.YtnpkhhfpgedkoaaCE
set_option linter.unusedVariables false
set_option maxHeartbeats 1600000
set_option maxRecDepth 100000
namespace Go.Proofs.Ytnpkhhfpgedkoaa
open Go
theorem c51 (w : World) (v0 : Value) {σ : Heap} (hσ : σ.le (snap w)) {x0 : (List Int)} {r : (List Int)} (hF : laws_toInt64S x0 = some r) (h0 : Y78.val σ v0 x0) :
    Calls Try.prog 51 #[v0] w (Ret [] w σ SRel.any [slR 2 (TI .i64) r]) := by
  unfold laws_toInt64S at hF
  refine start (args := [v0]) Try.func51 rfl 22 rfl [] [(0, (Y78.sv x0))] [] (sat_start _ hσ) rfl (args1 rfl h0 (args0)) ?_
  refine T.seq ?_
  refine T.region mix 1 [2] [0] [(sO SRel.any [(1, (slR 2 (TI .i64) []))])] (by kernel_rfl) (AOK.cons (fun ρ a w hs hz hΓ hp => g_nilSl) AOK.nil rfl) (fun vs1 => ?_)
  refine T.nil ?_
  refine T.norm ?_
  refine T.seq ?_
  obtain ⟨_u7, e3, hF⟩ := bindS hF
  refine T.region mix 4 [5, 6, 7, 3] [0, 1, 3, 7] [(sp (Y78.sv x0)), (sp ((TI .i64).sv (x0.length : Int))), (sO SRel.any [(2, (slR 2 (TI .i64) (List.replicate (x0.length : Int).toNat 0)))]), (al 2 (id))] (by kernel_rfl) (AOK.cons (fun ρ a w hs hz hΓ hp => gp (d_move (hΓ 0 rfl))) (AOK.cons (fun ρ a w hs hz hΓ hp => gp (d_lenR u78 (hp 0 _ rfl rfl).1)) (AOK.cons (fun ρ a w hs hz hΓ hp => g_makeSl hs.le u78 i2 rfl zc2 (hp 1 _ rfl rfl).1 (hp 1 _ rfl rfl).1 (need_get e3)) (AOK.cons (fun ρ a w hs hz hΓ hp => al_assign rfl) AOK.nil rfl) rfl) rfl) rfl) (fun vs2 => ?_)
  refine T.nil ?_
  refine T.norm ?_
  refine T.seq ?_
  refine T.seq ?_
  refine T.region mix 1 [4] [0] [(sp ((TI .i64).sv 0))] (by kernel_rfl) (AOK.cons (fun ρ a w hs hz hΓ hp => gp (d_assign (vI rfl))) AOK.nil rfl) (fun vs4 => ?_)
  refine T.nil ?_
  refine T.norm ?_
  obtain ⟨yl5, e6, hF⟩ := bindS hF
  refine T.joinD (ι := (Int × (List Int)) × (Unit)) (fun p => yl5 = p.1) (Γ' := fun p => E [(3, (SRel.eq (vs2 2)))]) (H' := fun p => HL [(2, (slR 2 (TI .i64) p.1.2 (vs2 2)))]) (fun p hy => ?_) (fun hk => ?_)
  · obtain ⟨⟨o4, or2⟩, _⟩ := p
    cases hy
    refine T.norm ?_
    refine T.seq ?_
    refine T.region mix 2 [21, 2] [0, 1] [(sp (SRel.eq (vs2 2))), (sp (SRel.eq (vs2 2)))] (by kernel_rfl) (AOK.cons (fun ρ a w hs hz hΓ hp => gp (d_move (hΓ 3 rfl))) (AOK.cons (fun ρ a w hs hz hΓ hp => gp (d_assign (hp 0 _ rfl rfl).1)) AOK.nil rfl) rfl) (fun vs7 => ?_)
    refine T.nil ?_
    refine T.norm ?_
    refine T.ret ?_
    obtain rfl := Option.some.inj hF
    refine T.fin fun ρ a w st => ?_
    exact ⟨_, results_one rfl rfl, trivial, own1 (own_at (id := 2) (st.env 2) rfl), List.pairwise_singleton _ _⟩
  · skip
    refine T.block ?_
    refine T.loop (f := laws_toInt64S_l1 x0) (σ := (Int × (List Int))) (Z := Unit) (fun s z => E [(0, (Y78.sv x0)), (3, (SRel.eq (vs2 2))), (4, ((TI .i64).sv s.1))]) (fun s z => HL [(2, (slR 2 (TI .i64) s.2 (vs2 2)))]) e6 () (fun φ h => T.toh h ⟨fun _ _ h => h, fun _ _ h => h, fun _ _ h => h, trivial⟩ ⟨rfl, trivial⟩) (fun k s z uu5 hu5 hn5 => ?_)
    obtain ⟨s4, sr2⟩ := s
    dsimp only [laws_toInt64S_l1] at hu5
    refine T.seq ?_
    refine T.seq ?_
    refine T.region mix 4 [8, 9, 10, 11] [0, 0, 2, 7] [(sp ((TI .i64).sv s4)), (sp (Y78.sv x0)), (sp ((TI .i64).sv (x0.length : Int))), (sp (TB.sv (decide (s4 < (x0.length : Int)))))] (by kernel_rfl) (AOK.cons (fun ρ a w hs hz hΓ hp => gp (d_move (hΓ 4 rfl))) (AOK.cons (fun ρ a w hs hz hΓ hp => gp (d_move (hΓ 0 rfl))) (AOK.cons (fun ρ a w hs hz hΓ hp => gp (d_lenR u78 (hp 1 _ rfl rfl).1)) (AOK.cons (fun ρ a w hs hz hΓ hp => gp (d_lss (hp 0 _ rfl rfl).1 (hp 2 _ rfl rfl).1)) AOK.nil rfl) rfl) rfl) rfl) (fun vs8 => ?_)
    refine T.nil ?_
    refine T.norm ?_
    refine T.cond (b := (decide (s4 < (x0.length : Int)))) (fun _ _ h => h) (fun hc => ?_) (fun hc => ?_)
    · replace hu5 := iteT hu5 hc
      refine T.skip ?_
      refine T.norm ?_
      refine T.seq ?_
      refine T.block ?_
      obtain ⟨x18, e10, hu5⟩ := bindS hu5
      obtain ⟨x20, e11, hu5⟩ := bindS hu5
      refine T.region mix 7 [14, 15, 16, 17, 18, 19, 20] [0, 0, 0, 0, 12, 28, 63, 127] [(sp (SRel.eq (vs2 2))), (sp ((TI .i64).sv s4)), (sp (Y78.sv x0)), (sp ((TI .i64).sv s4)), (sp ((TP (TI .i64)).sv x18)), (sp ((TI .i64).sv x18)), (sp (SRel.eq (at_ (vs2 2) (s4.toNat * (TI .i64).n + 0))))] (by kernel_rfl) (AOK.cons (fun ρ a w hs hz hΓ hp => gp (d_move (hΓ 3 rfl))) (AOK.cons (fun ρ a w hs hz hΓ hp => gp (d_move (hΓ 4 rfl))) (AOK.cons (fun ρ a w hs hz hΓ hp => gp (d_move (hΓ 0 rfl))) (AOK.cons (fun ρ a w hs hz hΓ hp => gp (d_move (hΓ 4 rfl))) (AOK.cons (fun ρ a w hs hz hΓ hp => gp (d_idxR u78 y2 (hp 2 _ rfl rfl).1 (hp 3 _ rfl rfl).1 e10)) (AOK.cons (fun ρ a w hs hz hΓ hp => gp (d_load y2 hs.le (hp 4 _ rfl rfl).1)) (AOK.cons (fun ρ a w hs hz hΓ hp => gp (d_idxS u78 y2 hs 2 rfl (hp 0 _ rfl rfl).1 (hp 1 _ rfl rfl).1 e11)) AOK.nil rfl) rfl) rfl) rfl) rfl) rfl) rfl) (fun vs9 => ?_)
      refine T.storeS 2 y2 rfl (idx_get e11).2 (fun ρ a w st => ⟨(st.env 20), (st.env 19)⟩) (At.refl (TI .i64) x20) ?_
      refine T.nil ?_
      refine T.fallX ?_
      refine T.norm ?_
      refine T.region mix 3 [12, 13, 4] [0, 1, 3] [(sp ((TI .i64).sv s4)), (sp ((TI .i64).sv (IntKind.i64.wrap (s4 + 1)))), (sp ((TI .i64).sv (IntKind.i64.wrap (s4 + 1))))] (by kernel_rfl) (AOK.cons (fun ρ a w hs hz hΓ hp => gp (d_move (hΓ 4 rfl))) (AOK.cons (fun ρ a w hs hz hΓ hp => gp (d_add (hp 0 _ rfl rfl).1 (vI rfl))) (AOK.cons (fun ρ a w hs hz hΓ hp => gp (d_assign (hp 1 _ rfl rfl).1)) AOK.nil rfl) rfl) rfl) (fun vs12 => ?_)
      refine T.nil ?_
      obtain rfl := Option.some.inj hu5
      exact T.again hn5 () (fun φ h => T.toh h ⟨fun _ _ h => h, fun _ _ h => h, fun _ _ h => h, trivial⟩ ⟨rfl, trivial⟩)
    · replace hu5 := iteF hu5 hc
      refine T.exit ?_
      obtain rfl := Option.some.inj hu5
      repeat (first | refine T.passX ?_ | refine T.inX (by decide) ?_)
      refine T.hereX ?_
      exact T.toh (hk ((s4, sr2), ()) (Eq.symm hn5)) ⟨fun _ _ h => h, trivial⟩ ⟨rfl, trivial⟩

theorem c52 (w : World) (v0 : Value) {σ : Heap} (hσ : σ.le (snap w)) {x0 : (List Bool)} {r : (List Bool)} (hF : laws_toBoolS x0 = some r) (h0 : Y79.val σ v0 x0) :
    Calls Try.prog 52 #[v0] w (Ret [] w σ SRel.any [slR 4 TB r]) := by
  unfold laws_toBoolS at hF
  refine start (args := [v0]) Try.func52 rfl 22 rfl [] [(0, (Y79.sv x0))] [] (sat_start _ hσ) rfl (args1 rfl h0 (args0)) ?_
  refine T.seq ?_
  refine T.region mix 1 [2] [0] [(sO SRel.any [(1, (slR 4 TB []))])] (by kernel_rfl) (AOK.cons (fun ρ a w hs hz hΓ hp => g_nilSl) AOK.nil rfl) (fun vs1 => ?_)
  refine T.nil ?_
  refine T.norm ?_
  refine T.seq ?_
  obtain ⟨_u7, e3, hF⟩ := bindS hF
  refine T.region mix 4 [5, 6, 7, 3] [0, 1, 3, 7] [(sp (Y79.sv x0)), (sp ((TI .i64).sv (x0.length : Int))), (sO SRel.any [(2, (slR 4 TB (List.replicate (x0.length : Int).toNat false)))]), (al 2 (id))] (by kernel_rfl) (AOK.cons (fun ρ a w hs hz hΓ hp => gp (d_move (hΓ 0 rfl))) (AOK.cons (fun ρ a w hs hz hΓ hp => gp (d_lenR u79 (hp 0 _ rfl rfl).1)) (AOK.cons (fun ρ a w hs hz hΓ hp => g_makeSl hs.le u79 i4 rfl zc4 (hp 1 _ rfl rfl).1 (hp 1 _ rfl rfl).1 (need_get e3)) (AOK.cons (fun ρ a w hs hz hΓ hp => al_assign rfl) AOK.nil rfl) rfl) rfl) rfl) (fun vs2 => ?_)
  refine T.nil ?_
  refine T.norm ?_
  refine T.seq ?_
  refine T.seq ?_
  refine T.region mix 1 [4] [0] [(sp ((TI .i64).sv 0))] (by kernel_rfl) (AOK.cons (fun ρ a w hs hz hΓ hp => gp (d_assign (vI rfl))) AOK.nil rfl) (fun vs4 => ?_)
  refine T.nil ?_
  refine T.norm ?_
  obtain ⟨yl5, e6, hF⟩ := bindS hF
  refine T.joinD (ι := (Int × (List Bool)) × (Unit)) (fun p => yl5 = p.1) (Γ' := fun p => E [(3, (SRel.eq (vs2 2)))]) (H' := fun p => HL [(2, (slR 4 TB p.1.2 (vs2 2)))]) (fun p hy => ?_) (fun hk => ?_)
  · obtain ⟨⟨o4, or2⟩, _⟩ := p
    cases hy
    refine T.norm ?_
    refine T.seq ?_
    refine T.region mix 2 [21, 2] [0, 1] [(sp (SRel.eq (vs2 2))), (sp (SRel.eq (vs2 2)))] (by kernel_rfl) (AOK.cons (fun ρ a w hs hz hΓ hp => gp (d_move (hΓ 3 rfl))) (AOK.cons (fun ρ a w hs hz hΓ hp => gp (d_assign (hp 0 _ rfl rfl).1)) AOK.nil rfl) rfl) (fun vs7 => ?_)
    refine T.nil ?_
    refine T.norm ?_
    refine T.ret ?_
    obtain rfl := Option.some.inj hF
    refine T.fin fun ρ a w st => ?_
    exact ⟨_, results_one rfl rfl, trivial, own1 (own_at (id := 2) (st.env 2) rfl), List.pairwise_singleton _ _⟩
  · skip
    refine T.block ?_
    refine T.loop (f := laws_toBoolS_l1 x0) (σ := (Int × (List Bool))) (Z := Unit) (fun s z => E [(0, (Y79.sv x0)), (3, (SRel.eq (vs2 2))), (4, ((TI .i64).sv s.1))]) (fun s z => HL [(2, (slR 4 TB s.2 (vs2 2)))]) e6 () (fun φ h => T.toh h ⟨fun _ _ h => h, fun _ _ h => h, fun _ _ h => h, trivial⟩ ⟨rfl, trivial⟩) (fun k s z uu5 hu5 hn5 => ?_)
    obtain ⟨s4, sr2⟩ := s
    dsimp only [laws_toBoolS_l1] at hu5
    refine T.seq ?_
    refine T.seq ?_
    refine T.region mix 4 [8, 9, 10, 11] [0, 0, 2, 7] [(sp ((TI .i64).sv s4)), (sp (Y79.sv x0)), (sp ((TI .i64).sv (x0.length : Int))), (sp (TB.sv (decide (s4 < (x0.length : Int)))))] (by kernel_rfl) (AOK.cons (fun ρ a w hs hz hΓ hp => gp (d_move (hΓ 4 rfl))) (AOK.cons (fun ρ a w hs hz hΓ hp => gp (d_move (hΓ 0 rfl))) (AOK.cons (fun ρ a w hs hz hΓ hp => gp (d_lenR u79 (hp 1 _ rfl rfl).1)) (AOK.cons (fun ρ a w hs hz hΓ hp => gp (d_lss (hp 0 _ rfl rfl).1 (hp 2 _ rfl rfl).1)) AOK.nil rfl) rfl) rfl) rfl) (fun vs8 => ?_)
    refine T.nil ?_
    refine T.norm ?_
    refine T.cond (b := (decide (s4 < (x0.length : Int)))) (fun _ _ h => h) (fun hc => ?_) (fun hc => ?_)
    · replace hu5 := iteT hu5 hc
      refine T.skip ?_
      refine T.norm ?_
      refine T.seq ?_
      refine T.block ?_
      obtain ⟨x18, e10, hu5⟩ := bindS hu5
      obtain ⟨x20, e11, hu5⟩ := bindS hu5
      refine T.region mix 7 [14, 15, 16, 17, 18, 19, 20] [0, 0, 0, 0, 12, 28, 63, 127] [(sp (SRel.eq (vs2 2))), (sp ((TI .i64).sv s4)), (sp (Y79.sv x0)), (sp ((TI .i64).sv s4)), (sp ((TP TB).sv x18)), (sp (TB.sv x18)), (sp (SRel.eq (at_ (vs2 2) (s4.toNat * TB.n + 0))))] (by kernel_rfl) (AOK.cons (fun ρ a w hs hz hΓ hp => gp (d_move (hΓ 3 rfl))) (AOK.cons (fun ρ a w hs hz hΓ hp => gp (d_move (hΓ 4 rfl))) (AOK.cons (fun ρ a w hs hz hΓ hp => gp (d_move (hΓ 0 rfl))) (AOK.cons (fun ρ a w hs hz hΓ hp => gp (d_move (hΓ 4 rfl))) (AOK.cons (fun ρ a w hs hz hΓ hp => gp (d_idxR u79 y4 (hp 2 _ rfl rfl).1 (hp 3 _ rfl rfl).1 e10)) (AOK.cons (fun ρ a w hs hz hΓ hp => gp (d_load y4 hs.le (hp 4 _ rfl rfl).1)) (AOK.cons (fun ρ a w hs hz hΓ hp => gp (d_idxS u79 y4 hs 2 rfl (hp 0 _ rfl rfl).1 (hp 1 _ rfl rfl).1 e11)) AOK.nil rfl) rfl) rfl) rfl) rfl) rfl) rfl) (fun vs9 => ?_)
      refine T.storeS 2 y4 rfl (idx_get e11).2 (fun ρ a w st => ⟨(st.env 20), (st.env 19)⟩) (At.refl TB x20) ?_
      refine T.nil ?_
      refine T.fallX ?_
      refine T.norm ?_
      refine T.region mix 3 [12, 13, 4] [0, 1, 3] [(sp ((TI .i64).sv s4)), (sp ((TI .i64).sv (IntKind.i64.wrap (s4 + 1)))), (sp ((TI .i64).sv (IntKind.i64.wrap (s4 + 1))))] (by kernel_rfl) (AOK.cons (fun ρ a w hs hz hΓ hp => gp (d_move (hΓ 4 rfl))) (AOK.cons (fun ρ a w hs hz hΓ hp => gp (d_add (hp 0 _ rfl rfl).1 (vI rfl))) (AOK.cons (fun ρ a w hs hz hΓ hp => gp (d_assign (hp 1 _ rfl rfl).1)) AOK.nil rfl) rfl) rfl) (fun vs12 => ?_)
      refine T.nil ?_
      obtain rfl := Option.some.inj hu5
      exact T.again hn5 () (fun φ h => T.toh h ⟨fun _ _ h => h, fun _ _ h => h, fun _ _ h => h, trivial⟩ ⟨rfl, trivial⟩)
    · replace hu5 := iteF hu5 hc
      refine T.exit ?_
      obtain rfl := Option.some.inj hu5
      repeat (first | refine T.passX ?_ | refine T.inX (by decide) ?_)
      refine T.hereX ?_
      exact T.toh (hk ((s4, sr2), ()) (Eq.symm hn5)) ⟨fun _ _ h => h, trivial⟩ ⟨rfl, trivial⟩

theorem c91 (w : World) (v0 v1 v2 v3 : Value) {σ : Heap} (hσ : σ.le (snap w)) {x0 : (List ((List Int) × (List Int) × Int))} {x1 : (List Int)} {x2 : (List Bool)} {x3 : (List Int)} {r : Int} (hF : spec_l06Order x0 x1 x2 x3 = some r) (h0 : Y77.val σ v0 x0) (h1 : Y78.val σ v1 x1) (h2 : Y79.val σ v2 x2) (h3 : Y25.val σ v3 x3) :
    Calls Try.prog 91 #[v0, v1, v2, v3] w (Ret [] w σ ((TI .i64).sv r) []) := by
  unfold spec_l06Order at hF
  refine start (args := [v0, v1, v2, v3]) Try.func91 rfl 70 rfl [] [(0, (Y77.sv x0)), (1, (Y78.sv x1)), (2, (Y79.sv x2)), (3, (Y25.sv x3))] [] (sat_start _ hσ) rfl (args1 rfl h0 (args1 rfl h1 (args1 rfl h2 (args1 rfl h3 (args0))))) ?_
  refine T.seq ?_
  refine T.region mix 2 [7, 8] [0, 0] [(sp ((TP Y25).sv x3)), (sp ((TI .i64).sv 0))] (by kernel_rfl) (AOK.cons (fun ρ a w hs hz hΓ hp => gp (d_box hs.le (hΓ 3 rfl))) (AOK.cons (fun ρ a w hs hz hΓ hp => gp (d_assign (vI rfl))) AOK.nil rfl) rfl) (fun vs1 => ?_)
  refine T.nil ?_
  refine T.norm ?_
  refine T.seq ?_
  refine T.seq ?_
  refine T.region mix 1 [9] [0] [(sp ((TI .i64).sv 0))] (by kernel_rfl) (AOK.cons (fun ρ a w hs hz hΓ hp => gp (d_assign (vI rfl))) AOK.nil rfl) (fun vs2 => ?_)
  refine T.nil ?_
  refine T.norm ?_
  obtain ⟨yl3, e4, hF⟩ := bindS hF
  refine T.joinD (ι := Int × (Unit)) (fun p => yl3 = .inl p.1) (Γ' := fun p => E [(0, (Y77.sv x0)), (1, (Y78.sv x1)), (2, (Y79.sv x2)), (7, ((TP Y25).sv x3))]) (H' := fun p => HL []) (fun p hy => ?_) (fun hk => ?_)
  · obtain ⟨o9, _⟩ := p
    cases hy
    refine T.norm ?_
    refine T.seq ?_
    refine T.seq ?_
    obtain ⟨x24, e6, hF⟩ := bindS hF
    refine T.region mix 3 [23, 24, 25] [0, 1, 3] [(sp (Y25.sv x3)), (sp (TB.sv x24)), (sp (TB.sv (!x24)))] (by kernel_rfl) (AOK.cons (fun ρ a w hs hz hΓ hp => gp (d_load y29 hs.le (hΓ 7 rfl))) (AOK.cons (fun ρ a w hs hz hΓ hp => gp (d_call fn84 hs.le mapA1 (c84 w _ hs.le e6 ((hp 0 _ rfl rfl).1)))) (AOK.cons (fun ρ a w hs hz hΓ hp => gp (d_not (hp 1 _ rfl rfl).1)) AOK.nil rfl) rfl) rfl) (fun vs5 => ?_)
    refine T.nil ?_
    refine T.norm ?_
    refine T.cond (b := (!x24)) (fun _ _ h => h) (fun hc => ?_) (fun hc => ?_)
    · replace hF := iteT hF hc
      refine T.seq ?_
      refine T.region mix 1 [8] [0] [(sp ((TI .i64).sv 1))] (by kernel_rfl) (AOK.cons (fun ρ a w hs hz hΓ hp => gp (d_assign (vI rfl))) AOK.nil rfl) (fun vs7 => ?_)
      refine T.nil ?_
      refine T.norm ?_
      refine T.ret ?_
      obtain rfl := Option.some.inj hF
      refine T.fin0 fun ρ a w st => ?_
      exact ⟨_, results_one rfl rfl, (st.env 8)⟩
    · replace hF := iteF hF hc
      refine T.skip ?_
      refine T.norm ?_
      refine T.seq ?_
      refine T.seq ?_
      refine T.region mix 3 [26, 27, 28] [0, 1, 3] [(sp (Y77.sv x0)), (sp ((TI .i64).sv (x0.length : Int))), (sp (TB.sv (decide (60 < (x0.length : Int)))))] (by kernel_rfl) (AOK.cons (fun ρ a w hs hz hΓ hp => gp (d_move (hΓ 0 rfl))) (AOK.cons (fun ρ a w hs hz hΓ hp => gp (d_lenR u83 (hp 0 _ rfl rfl).1)) (AOK.cons (fun ρ a w hs hz hΓ hp => gp (d_gtr (hp 1 _ rfl rfl).1 (vI rfl))) AOK.nil rfl) rfl) rfl) (fun vs8 => ?_)
      refine T.nil ?_
      refine T.norm ?_
      refine T.cond (b := (decide (60 < (x0.length : Int)))) (fun _ _ h => h) (fun hc => ?_) (fun hc => ?_)
      · replace hF := iteT hF hc
        refine T.seq ?_
        refine T.region mix 1 [8] [0] [(sp ((TI .i64).sv 3))] (by kernel_rfl) (AOK.cons (fun ρ a w hs hz hΓ hp => gp (d_assign (vI rfl))) AOK.nil rfl) (fun vs9 => ?_)
        refine T.nil ?_
        refine T.norm ?_
        refine T.ret ?_
        obtain rfl := Option.some.inj hF
        refine T.fin0 fun ρ a w st => ?_
        exact ⟨_, results_one rfl rfl, (st.env 8)⟩
      · replace hF := iteF hF hc
        refine T.skip ?_
        refine T.norm ?_
        refine T.seq ?_
        refine T.seq ?_
        refine T.region mix 12 [29, 30, 31, 32, 33, 34, 35, 36, 37, 38, 39, 40] [0, 1, 0, 4, 15, 31, 63, 127, 63, 319, 1023, 2047] [(sp (Y78.sv x1)), (sp ((TI .i64).sv (x1.length : Int))), (sp (Y77.sv x0)), (sp ((TI .i64).sv (x0.length : Int))), (sp (TB.sv (decide ((x1.length : Int) ≠ (x0.length : Int))))), (sp (TB.sv (decide ((x1.length : Int) ≠ (x0.length : Int))))), (sp (SRel.when ((decide ((x1.length : Int) ≠ (x0.length : Int))) = false) (Y79.sv x2))), (sp (SRel.when ((decide ((x1.length : Int) ≠ (x0.length : Int))) = false) ((TI .i64).sv (x2.length : Int)))), (sp (SRel.when ((decide ((x1.length : Int) ≠ (x0.length : Int))) = false) (Y77.sv x0))), (sp (SRel.when ((decide ((x1.length : Int) ≠ (x0.length : Int))) = false) ((TI .i64).sv (x0.length : Int)))), (sp (SRel.when ((decide ((x1.length : Int) ≠ (x0.length : Int))) = false) (TB.sv (decide ((x2.length : Int) ≠ (x0.length : Int)))))), (sp (TB.sv ((decide ((x1.length : Int) ≠ (x0.length : Int))) || (decide ((x2.length : Int) ≠ (x0.length : Int))))))] (by kernel_rfl) (AOK.cons (fun ρ a w hs hz hΓ hp => gp (d_move (hΓ 1 rfl))) (AOK.cons (fun ρ a w hs hz hΓ hp => gp (d_lenR u78 (hp 0 _ rfl rfl).1)) (AOK.cons (fun ρ a w hs hz hΓ hp => gp (d_move (hΓ 0 rfl))) (AOK.cons (fun ρ a w hs hz hΓ hp => gp (d_lenR u83 (hp 2 _ rfl rfl).1)) (AOK.cons (fun ρ a w hs hz hΓ hp => gp (d_neq (hp 1 _ rfl rfl).1 (hp 3 _ rfl rfl).1)) (AOK.cons (fun ρ a w hs hz hΓ hp => gp (d_move (hp 4 _ rfl rfl).1)) (AOK.cons (fun ρ a w hs hz hΓ hp => gg (g := 5) (d := 34) hz rfl (hp 5 _ rfl rfl).1 rfl (fun hc => d_move (hΓ 2 rfl))) (AOK.cons (fun ρ a w hs hz hΓ hp => gg (g := 5) (d := 34) hz rfl (hp 5 _ rfl rfl).1 rfl (fun hc => d_lenR u79 ((hp 6 _ rfl rfl).1 hc))) (AOK.cons (fun ρ a w hs hz hΓ hp => gg (g := 5) (d := 34) hz rfl (hp 5 _ rfl rfl).1 rfl (fun hc => d_move (hΓ 0 rfl))) (AOK.cons (fun ρ a w hs hz hΓ hp => gg (g := 5) (d := 34) hz rfl (hp 5 _ rfl rfl).1 rfl (fun hc => d_lenR u83 ((hp 8 _ rfl rfl).1 hc))) (AOK.cons (fun ρ a w hs hz hΓ hp => gg (g := 5) (d := 34) hz rfl (hp 5 _ rfl rfl).1 rfl (fun hc => d_neq ((hp 7 _ rfl rfl).1 hc) ((hp 9 _ rfl rfl).1 hc))) (AOK.cons (fun ρ a w hs hz hΓ hp => gp (d_pick (hp 5 _ rfl rfl).1 (fun hc => pON hc) (fun hc => pO hc ((hp 10 _ rfl rfl).1 hc)))) AOK.nil rfl) rfl) rfl) rfl) rfl) rfl) rfl) rfl) rfl) rfl) rfl) rfl) (fun vs10 => ?_)
        refine T.nil ?_
        refine T.norm ?_
        refine T.cond (b := ((decide ((x1.length : Int) ≠ (x0.length : Int))) || (decide ((x2.length : Int) ≠ (x0.length : Int))))) (fun _ _ h => h) (fun hc => ?_) (fun hc => ?_)
        · replace hF := iteT hF hc
          refine T.seq ?_
          refine T.region mix 1 [8] [0] [(sp ((TI .i64).sv 2))] (by kernel_rfl) (AOK.cons (fun ρ a w hs hz hΓ hp => gp (d_assign (vI rfl))) AOK.nil rfl) (fun vs11 => ?_)
          refine T.nil ?_
          refine T.norm ?_
          refine T.ret ?_
          obtain rfl := Option.some.inj hF
          refine T.fin0 fun ρ a w st => ?_
          exact ⟨_, results_one rfl rfl, (st.env 8)⟩
        · replace hF := iteF hF hc
          refine T.skip ?_
          refine T.norm ?_
          refine T.seq ?_
          refine T.seq ?_
          refine T.region mix 1 [10] [0] [(sp ((TI .i64).sv 0))] (by kernel_rfl) (AOK.cons (fun ρ a w hs hz hΓ hp => gp (d_assign (vI rfl))) AOK.nil rfl) (fun vs12 => ?_)
          refine T.nil ?_
          refine T.norm ?_
          obtain ⟨yl13, e14, hF⟩ := bindS hF
          refine T.joinD (ι := Int × (Unit)) (fun p => yl13 = .inl p.1) (Γ' := fun p => E []) (H' := fun p => HL []) (fun p hy => ?_) (fun hk => ?_)
          · obtain ⟨o10, _⟩ := p
            cases hy
            refine T.norm ?_
            refine T.seq ?_
            refine T.region mix 1 [8] [0] [(sp ((TI .i64).sv 0))] (by kernel_rfl) (AOK.cons (fun ρ a w hs hz hΓ hp => gp (d_assign (vI rfl))) AOK.nil rfl) (fun vs15 => ?_)
            refine T.nil ?_
            refine T.norm ?_
            refine T.ret ?_
            obtain rfl := Option.some.inj hF
            refine T.fin0 fun ρ a w st => ?_
            exact ⟨_, results_one rfl rfl, (st.env 8)⟩
          · skip
            refine T.block ?_
            refine T.loop (f := spec_l06Order_l2 x0 x1) (σ := Int) (Z := Unit) (fun s z => E [(0, (Y77.sv x0)), (1, (Y78.sv x1)), (10, ((TI .i64).sv s))]) (fun s z => HL []) e14 () (fun φ h => T.toh h ⟨fun _ _ h => h, fun _ _ h => h, fun _ _ h => h, trivial⟩ trivial) (fun k s z uu13 hu13 hn13 => ?_)
            obtain ⟨s10, rfl⟩ : ∃ q, q = s := ⟨_, rfl⟩
            dsimp only [spec_l06Order_l2] at hu13
            refine T.seq ?_
            refine T.seq ?_
            refine T.region mix 4 [41, 42, 43, 44] [0, 0, 2, 7] [(sp ((TI .i64).sv s10)), (sp (Y78.sv x1)), (sp ((TI .i64).sv (x1.length : Int))), (sp (TB.sv (decide (s10 < (x1.length : Int)))))] (by kernel_rfl) (AOK.cons (fun ρ a w hs hz hΓ hp => gp (d_move (hΓ 10 rfl))) (AOK.cons (fun ρ a w hs hz hΓ hp => gp (d_move (hΓ 1 rfl))) (AOK.cons (fun ρ a w hs hz hΓ hp => gp (d_lenR u78 (hp 1 _ rfl rfl).1)) (AOK.cons (fun ρ a w hs hz hΓ hp => gp (d_lss (hp 0 _ rfl rfl).1 (hp 2 _ rfl rfl).1)) AOK.nil rfl) rfl) rfl) rfl) (fun vs16 => ?_)
            refine T.nil ?_
            refine T.norm ?_
            refine T.cond (b := (decide (s10 < (x1.length : Int)))) (fun _ _ h => h) (fun hc => ?_) (fun hc => ?_)
            · replace hu13 := iteT hu13 hc
              refine T.skip ?_
              refine T.norm ?_
              refine T.seq ?_
              refine T.block ?_
              refine T.seq ?_
              refine T.seq ?_
              obtain ⟨x49, e18, hu13⟩ := bindS hu13
              obtain ⟨x54, e19, hu13⟩ := bindS hu13
              refine T.region mix 9 [47, 48, 49, 50, 51, 52, 53, 54, 55] [0, 0, 3, 7, 0, 16, 48, 127, 255] [(sp (Y78.sv x1)), (sp ((TI .i64).sv s10)), (sp ((TP (TI .i64)).sv x49)), (sp ((TI .i64).sv x49)), (sp (Y77.sv x0)), (sp ((TI .i64).sv (x0.length : Int))), (sp ((TI .i64).sv (IntKind.i64.wrap ((x0.length : Int) - 1)))), (sp (TB.sv x54)), (sp (TB.sv (!x54)))] (by kernel_rfl) (AOK.cons (fun ρ a w hs hz hΓ hp => gp (d_move (hΓ 1 rfl))) (AOK.cons (fun ρ a w hs hz hΓ hp => gp (d_move (hΓ 10 rfl))) (AOK.cons (fun ρ a w hs hz hΓ hp => gp (d_idxR u78 y2 (hp 0 _ rfl rfl).1 (hp 1 _ rfl rfl).1 e18)) (AOK.cons (fun ρ a w hs hz hΓ hp => gp (d_load y2 hs.le (hp 2 _ rfl rfl).1)) (AOK.cons (fun ρ a w hs hz hΓ hp => gp (d_move (hΓ 0 rfl))) (AOK.cons (fun ρ a w hs hz hΓ hp => gp (d_lenR u83 (hp 4 _ rfl rfl).1)) (AOK.cons (fun ρ a w hs hz hΓ hp => gp (d_sub (hp 5 _ rfl rfl).1 (vI rfl))) (AOK.cons (fun ρ a w hs hz hΓ hp => gp (d_call fn118 hs.le mapA3 (c118 w _ _ _ hs.le e19 ((hp 3 _ rfl rfl).1) (vI rfl) ((hp 6 _ rfl rfl).1)))) (AOK.cons (fun ρ a w hs hz hΓ hp => gp (d_not (hp 7 _ rfl rfl).1)) AOK.nil rfl) rfl) rfl) rfl) rfl) rfl) rfl) rfl) rfl) (fun vs17 => ?_)
              refine T.nil ?_
              refine T.norm ?_
              refine T.cond (b := (!x54)) (fun _ _ h => h) (fun hc => ?_) (fun hc => ?_)
              · replace hu13 := iteT hu13 hc
                refine T.seq ?_
                refine T.region mix 1 [8] [0] [(sp ((TI .i64).sv 2))] (by kernel_rfl) (AOK.cons (fun ρ a w hs hz hΓ hp => gp (d_assign (vI rfl))) AOK.nil rfl) (fun vs20 => ?_)
                refine T.nil ?_
                refine T.norm ?_
                refine T.ret ?_
                obtain rfl := Option.some.inj hu13
                cases hn13
                obtain rfl := Option.some.inj hF
                refine T.fin0 fun ρ a w st => ?_
                exact ⟨_, results_one rfl rfl, (st.env 8)⟩
              · replace hu13 := iteF hu13 hc
                refine T.skip ?_
                refine T.norm ?_
                refine T.seq ?_
                refine T.region mix 1 [11] [0] [(sp ((TI .i64).sv 0))] (by kernel_rfl) (AOK.cons (fun ρ a w hs hz hΓ hp => gp (d_assign (vI rfl))) AOK.nil rfl) (fun vs21 => ?_)
                refine T.nil ?_
                refine T.norm ?_
                obtain ⟨yl22, e23, hu13⟩ := bindS hu13
                refine T.joinD (ι := Int × (Unit)) (fun p => yl22 = .inl p.1) (Γ' := fun p => E [(0, (Y77.sv x0)), (1, (Y78.sv x1)), (10, ((TI .i64).sv s10))]) (H' := fun p => HL []) (fun p hy => ?_) (fun hk => ?_)
                · obtain ⟨o11, _⟩ := p
                  cases hy
                  refine T.fallX ?_
                  refine T.norm ?_
                  refine T.region mix 3 [45, 46, 10] [0, 1, 3] [(sp ((TI .i64).sv s10)), (sp ((TI .i64).sv (IntKind.i64.wrap (s10 + 1)))), (sp ((TI .i64).sv (IntKind.i64.wrap (s10 + 1))))] (by kernel_rfl) (AOK.cons (fun ρ a w hs hz hΓ hp => gp (d_move (hΓ 10 rfl))) (AOK.cons (fun ρ a w hs hz hΓ hp => gp (d_add (hp 0 _ rfl rfl).1 (vI rfl))) (AOK.cons (fun ρ a w hs hz hΓ hp => gp (d_assign (hp 1 _ rfl rfl).1)) AOK.nil rfl) rfl) rfl) (fun vs24 => ?_)
                  refine T.nil ?_
                  obtain rfl := Option.some.inj hu13
                  exact T.again hn13 () (fun φ h => T.toh h ⟨fun _ _ h => h, fun _ _ h => h, fun _ _ h => h, trivial⟩ trivial)
                · skip
                  refine T.block ?_
                  refine T.loop (f := spec_l06Order_l3 x1 s10) (σ := Int) (Z := Unit) (fun s z => E [(0, (Y77.sv x0)), (1, (Y78.sv x1)), (10, ((TI .i64).sv s10)), (11, ((TI .i64).sv s))]) (fun s z => HL []) e23 () (fun φ h => T.toh h ⟨fun _ _ h => h, fun _ _ h => h, fun _ _ h => h, fun _ _ h => h, trivial⟩ trivial) (fun k s z uu22 hu22 hn22 => ?_)
                  obtain ⟨s11, rfl⟩ : ∃ q, q = s := ⟨_, rfl⟩
                  dsimp only [spec_l06Order_l3] at hu22
                  refine T.seq ?_
                  refine T.seq ?_
                  refine T.region mix 3 [56, 57, 58] [0, 0, 3] [(sp ((TI .i64).sv s11)), (sp ((TI .i64).sv s10)), (sp (TB.sv (decide (s11 < s10))))] (by kernel_rfl) (AOK.cons (fun ρ a w hs hz hΓ hp => gp (d_move (hΓ 11 rfl))) (AOK.cons (fun ρ a w hs hz hΓ hp => gp (d_move (hΓ 10 rfl))) (AOK.cons (fun ρ a w hs hz hΓ hp => gp (d_lss (hp 0 _ rfl rfl).1 (hp 1 _ rfl rfl).1)) AOK.nil rfl) rfl) rfl) (fun vs25 => ?_)
                  refine T.nil ?_
                  refine T.norm ?_
                  refine T.cond (b := (decide (s11 < s10))) (fun _ _ h => h) (fun hc => ?_) (fun hc => ?_)
                  · replace hu22 := iteT hu22 hc
                    refine T.skip ?_
                    refine T.norm ?_
                    refine T.seq ?_
                    refine T.block ?_
                    refine T.seq ?_
                    obtain ⟨x63, e27, hu22⟩ := bindS hu22
                    obtain ⟨x67, e28, hu22⟩ := bindS hu22
                    refine T.region mix 9 [61, 62, 63, 64, 65, 66, 67, 68, 69] [0, 0, 3, 7, 0, 0, 48, 112, 255] [(sp (Y78.sv x1)), (sp ((TI .i64).sv s11)), (sp ((TP (TI .i64)).sv x63)), (sp ((TI .i64).sv x63)), (sp (Y78.sv x1)), (sp ((TI .i64).sv s10)), (sp ((TP (TI .i64)).sv x67)), (sp ((TI .i64).sv x67)), (sp (TB.sv (decide (x63 = x67))))] (by kernel_rfl) (AOK.cons (fun ρ a w hs hz hΓ hp => gp (d_move (hΓ 1 rfl))) (AOK.cons (fun ρ a w hs hz hΓ hp => gp (d_move (hΓ 11 rfl))) (AOK.cons (fun ρ a w hs hz hΓ hp => gp (d_idxR u78 y2 (hp 0 _ rfl rfl).1 (hp 1 _ rfl rfl).1 e27)) (AOK.cons (fun ρ a w hs hz hΓ hp => gp (d_load y2 hs.le (hp 2 _ rfl rfl).1)) (AOK.cons (fun ρ a w hs hz hΓ hp => gp (d_move (hΓ 1 rfl))) (AOK.cons (fun ρ a w hs hz hΓ hp => gp (d_move (hΓ 10 rfl))) (AOK.cons (fun ρ a w hs hz hΓ hp => gp (d_idxR u78 y2 (hp 4 _ rfl rfl).1 (hp 5 _ rfl rfl).1 e28)) (AOK.cons (fun ρ a w hs hz hΓ hp => gp (d_load y2 hs.le (hp 6 _ rfl rfl).1)) (AOK.cons (fun ρ a w hs hz hΓ hp => gp (d_eql (hp 3 _ rfl rfl).1 (hp 7 _ rfl rfl).1)) AOK.nil rfl) rfl) rfl) rfl) rfl) rfl) rfl) rfl) rfl) (fun vs26 => ?_)
                    refine T.nil ?_
                    refine T.norm ?_
                    refine T.cond (b := (decide (x63 = x67))) (fun _ _ h => h) (fun hc => ?_) (fun hc => ?_)
                    · replace hu22 := iteT hu22 hc
                      refine T.seq ?_
                      refine T.region mix 1 [8] [0] [(sp ((TI .i64).sv 2))] (by kernel_rfl) (AOK.cons (fun ρ a w hs hz hΓ hp => gp (d_assign (vI rfl))) AOK.nil rfl) (fun vs29 => ?_)
                      refine T.nil ?_
                      refine T.norm ?_
                      refine T.ret ?_
                      obtain rfl := Option.some.inj hu22
                      cases hn22
                      obtain rfl := Option.some.inj hu13
                      cases hn13
                      obtain rfl := Option.some.inj hF
                      refine T.fin0 fun ρ a w st => ?_
                      exact ⟨_, results_one rfl rfl, (st.env 8)⟩
                    · replace hu22 := iteF hu22 hc
                      refine T.skip ?_
                      refine T.fallX ?_
                      refine T.norm ?_
                      refine T.region mix 3 [59, 60, 11] [0, 1, 3] [(sp ((TI .i64).sv s11)), (sp ((TI .i64).sv (IntKind.i64.wrap (s11 + 1)))), (sp ((TI .i64).sv (IntKind.i64.wrap (s11 + 1))))] (by kernel_rfl) (AOK.cons (fun ρ a w hs hz hΓ hp => gp (d_move (hΓ 11 rfl))) (AOK.cons (fun ρ a w hs hz hΓ hp => gp (d_add (hp 0 _ rfl rfl).1 (vI rfl))) (AOK.cons (fun ρ a w hs hz hΓ hp => gp (d_assign (hp 1 _ rfl rfl).1)) AOK.nil rfl) rfl) rfl) (fun vs30 => ?_)
                      refine T.nil ?_
                      obtain rfl := Option.some.inj hu22
                      exact T.again hn22 () (fun φ h => T.toh h ⟨fun _ _ h => h, fun _ _ h => h, fun _ _ h => h, fun _ _ h => h, trivial⟩ trivial)
                  · replace hu22 := iteF hu22 hc
                    refine T.exit ?_
                    obtain rfl := Option.some.inj hu22
                    repeat (first | refine T.passX ?_ | refine T.inX (by decide) ?_)
                    refine T.hereX ?_
                    exact T.toh (hk (s11, ()) (Eq.symm hn22)) ⟨fun _ _ h => h, fun _ _ h => h, fun _ _ h => h, trivial⟩ trivial
            · replace hu13 := iteF hu13 hc
              refine T.exit ?_
              obtain rfl := Option.some.inj hu13
              repeat (first | refine T.passX ?_ | refine T.inX (by decide) ?_)
              refine T.hereX ?_
              exact T.toh (hk (s10, ()) (Eq.symm hn13)) trivial trivial
  · skip
    refine T.block ?_
    refine T.loop (f := spec_l06Order_l1 x0) (σ := Int) (Z := Unit) (fun s z => E [(0, (Y77.sv x0)), (1, (Y78.sv x1)), (2, (Y79.sv x2)), (7, ((TP Y25).sv x3)), (9, ((TI .i64).sv s))]) (fun s z => HL []) e4 () (fun φ h => T.toh h ⟨fun _ _ h => h, fun _ _ h => h, fun _ _ h => h, fun _ _ h => h, fun _ _ h => h, trivial⟩ trivial) (fun k s z uu3 hu3 hn3 => ?_)
    obtain ⟨s9, rfl⟩ : ∃ q, q = s := ⟨_, rfl⟩
    dsimp only [spec_l06Order_l1] at hu3
    refine T.seq ?_
    refine T.seq ?_
    refine T.region mix 4 [12, 13, 14, 15] [0, 0, 2, 7] [(sp ((TI .i64).sv s9)), (sp (Y77.sv x0)), (sp ((TI .i64).sv (x0.length : Int))), (sp (TB.sv (decide (s9 < (x0.length : Int)))))] (by kernel_rfl) (AOK.cons (fun ρ a w hs hz hΓ hp => gp (d_move (hΓ 9 rfl))) (AOK.cons (fun ρ a w hs hz hΓ hp => gp (d_move (hΓ 0 rfl))) (AOK.cons (fun ρ a w hs hz hΓ hp => gp (d_lenR u83 (hp 1 _ rfl rfl).1)) (AOK.cons (fun ρ a w hs hz hΓ hp => gp (d_lss (hp 0 _ rfl rfl).1 (hp 2 _ rfl rfl).1)) AOK.nil rfl) rfl) rfl) rfl) (fun vs31 => ?_)
    refine T.nil ?_
    refine T.norm ?_
    refine T.cond (b := (decide (s9 < (x0.length : Int)))) (fun _ _ h => h) (fun hc => ?_) (fun hc => ?_)
    · replace hu3 := iteT hu3 hc
      refine T.skip ?_
      refine T.norm ?_
      refine T.seq ?_
      refine T.block ?_
      refine T.seq ?_
      obtain ⟨x20, e33, hu3⟩ := bindS hu3
      obtain ⟨x21, e34, hu3⟩ := bindS hu3
      refine T.region mix 5 [18, 19, 20, 21, 22] [0, 0, 3, 7, 15] [(sp (Y77.sv x0)), (sp ((TI .i64).sv s9)), (sp ((TP Y36).sv x20)), (sp (TB.sv x21)), (sp (TB.sv (!x21)))] (by kernel_rfl) (AOK.cons (fun ρ a w hs hz hΓ hp => gp (d_move (hΓ 0 rfl))) (AOK.cons (fun ρ a w hs hz hΓ hp => gp (d_move (hΓ 9 rfl))) (AOK.cons (fun ρ a w hs hz hΓ hp => gp (d_idxR u83 y40 (hp 0 _ rfl rfl).1 (hp 1 _ rfl rfl).1 e33)) (AOK.cons (fun ρ a w hs hz hΓ hp => gp (d_call fn63 hs.le mapA1 (c63 w _ hs.le e34 ((hp 2 _ rfl rfl).1)))) (AOK.cons (fun ρ a w hs hz hΓ hp => gp (d_not (hp 3 _ rfl rfl).1)) AOK.nil rfl) rfl) rfl) rfl) rfl) (fun vs32 => ?_)
      refine T.nil ?_
      refine T.norm ?_
      refine T.cond (b := (!x21)) (fun _ _ h => h) (fun hc => ?_) (fun hc => ?_)
      · replace hu3 := iteT hu3 hc
        refine T.seq ?_
        refine T.region mix 1 [8] [0] [(sp ((TI .i64).sv 1))] (by kernel_rfl) (AOK.cons (fun ρ a w hs hz hΓ hp => gp (d_assign (vI rfl))) AOK.nil rfl) (fun vs35 => ?_)
        refine T.nil ?_
        refine T.norm ?_
        refine T.ret ?_
        obtain rfl := Option.some.inj hu3
        cases hn3
        obtain rfl := Option.some.inj hF
        refine T.fin0 fun ρ a w st => ?_
        exact ⟨_, results_one rfl rfl, (st.env 8)⟩
      · replace hu3 := iteF hu3 hc
        refine T.skip ?_
        refine T.fallX ?_
        refine T.norm ?_
        refine T.region mix 3 [16, 17, 9] [0, 1, 3] [(sp ((TI .i64).sv s9)), (sp ((TI .i64).sv (IntKind.i64.wrap (s9 + 1)))), (sp ((TI .i64).sv (IntKind.i64.wrap (s9 + 1))))] (by kernel_rfl) (AOK.cons (fun ρ a w hs hz hΓ hp => gp (d_move (hΓ 9 rfl))) (AOK.cons (fun ρ a w hs hz hΓ hp => gp (d_add (hp 0 _ rfl rfl).1 (vI rfl))) (AOK.cons (fun ρ a w hs hz hΓ hp => gp (d_assign (hp 1 _ rfl rfl).1)) AOK.nil rfl) rfl) rfl) (fun vs36 => ?_)
        refine T.nil ?_
        obtain rfl := Option.some.inj hu3
        exact T.again hn3 () (fun φ h => T.toh h ⟨fun _ _ h => h, fun _ _ h => h, fun _ _ h => h, fun _ _ h => h, fun _ _ h => h, trivial⟩ trivial)
    · replace hu3 := iteF hu3 hc
      refine T.exit ?_
      obtain rfl := Option.some.inj hu3
      repeat (first | refine T.passX ?_ | refine T.inX (by decide) ?_)
      refine T.hereX ?_
      exact T.toh (hk (s9, ()) (Eq.symm hn3)) ⟨fun _ _ h => h, fun _ _ h => h, fun _ _ h => h, fun _ _ h => h, trivial⟩ trivial

theorem c121 (w : World) (v0 v1 : Value) {σ : Heap} (hσ : σ.le (snap w)) {x0 : ((List Int) × (List Int) × Int)} {x1 : Bool} {r : ((List Int) × (List Int))} (hF : spec_l06Ends x0 x1 = some r) (h0 : (TP Y36).val σ v0 x0) (h1 : TB.val σ v1 x1) :
    Calls Try.prog 121 #[v0, v1] w (Ret [] w σ (SRel.tup2 (Y25.sv r.1) (Y25.sv r.2)) []) := by
  unfold spec_l06Ends at hF
  refine start (args := [v0, v1]) Try.func121 rfl 23 rfl [] [(0, ((TP Y36).sv x0)), (1, (TB.sv x1))] [] (sat_start _ hσ) rfl (args1 rfl h0 (args1 rfl h1 (args0))) ?_
  refine T.seq ?_
  refine T.region mix 2 [4, 5] [0, 0] [(sO SRel.any [(1, (boxR 29 Y25 (List.replicate 2 0)))]), (sO SRel.any [(2, (boxR 29 Y25 (List.replicate 2 0)))])] (by kernel_rfl) (AOK.cons (fun ρ a w hs hz hΓ hp => g_alloc hs.le z29 zc29) (AOK.cons (fun ρ a w hs hz hΓ hp => g_alloc hs.le z29 zc29) AOK.nil rfl) rfl) (fun vs1 => ?_)
  refine T.nil ?_
  refine T.norm ?_
  refine T.seq ?_
  refine T.seq ?_
  refine T.region mix 1 [6] [0] [(sp (TB.sv x1))] (by kernel_rfl) (AOK.cons (fun ρ a w hs hz hΓ hp => gp (d_move (hΓ 1 rfl))) AOK.nil rfl) (fun vs2 => ?_)
  refine T.nil ?_
  refine T.norm ?_
  refine T.cond (b := x1) (fun _ _ h => h) (fun hc => ?_) (fun hc => ?_)
  · replace hF := iteT hF hc
    refine T.seq ?_
    refine T.region mix 10 [7, 8, 9, 10, 11, 12, 13, 14, 31, 32] [0, 1, 3, 7, 0, 16, 48, 112, 15, 511] [(sp ((TP Y36).sv x0)), (sp ((TP Y36).sv x0)), (sp ((TP Y25).sv x0.2.1)), (sp (Y25.sv x0.2.1)), (sp ((TP Y36).sv x0)), (sp ((TP Y36).sv x0)), (sp ((TP Y25).sv x0.1)), (sp (Y25.sv x0.1)), (sT 1 (fun _ => (boxR 29 Y25 x0.2.1 (vs1 0)))), (sT 2 (fun _ => (boxR 29 Y25 x0.1 (vs1 1))))] (by kernel_rfl) (AOK.cons (fun ρ a w hs hz hΓ hp => gp (d_move (hΓ 0 rfl))) (AOK.cons (fun ρ a w hs hz hΓ hp => gp (d_nilCheckP (hp 0 _ rfl rfl).1)) (AOK.cons (fun ρ a w hs hz hΓ hp => gp (d_fieldP fa40_1 (hp 1 _ rfl rfl).1 (At.fst (At.snd (At.refl _ _))))) (AOK.cons (fun ρ a w hs hz hΓ hp => gp (d_load y29 hs.le (hp 2 _ rfl rfl).1)) (AOK.cons (fun ρ a w hs hz hΓ hp => gp (d_move (hΓ 0 rfl))) (AOK.cons (fun ρ a w hs hz hΓ hp => gp (d_nilCheckP (hp 4 _ rfl rfl).1)) (AOK.cons (fun ρ a w hs hz hΓ hp => gp (d_fieldP fa40_0 (hp 5 _ rfl rfl).1 (At.fst (At.refl _ _)))) (AOK.cons (fun ρ a w hs hz hΓ hp => gp (d_load y29 hs.le (hp 6 _ rfl rfl).1)) (AOK.consT (fun ρ a w hs hz hΓ hp => gt_store hs 1 y29 rfl (.inl ⟨(hΓ 4 rfl).1, rfl⟩) ((hp 3 _ rfl rfl).1) (At.refl Y25 (List.replicate 2 0)) rfl rfl) (AOK.consT (fun ρ a w hs hz hΓ hp => gt_store hs 2 y29 rfl (.inl ⟨(hΓ 5 rfl).1, rfl⟩) ((hp 7 _ rfl rfl).1) (At.refl Y25 (List.replicate 2 0)) rfl rfl) AOK.nil rfl) rfl) rfl) rfl) rfl) rfl) rfl) rfl) rfl) rfl) (fun vs3 => ?_)
    refine T.nil ?_
    refine T.norm ?_
    refine T.ret ?_
    obtain rfl := Option.some.inj hF
    refine T.fin0 fun ρ a w st => ?_
    obtain ⟨q0, hr0, hv0⟩ := rv_cell y29 st.sat 1 rfl (st.env 4).1
    obtain ⟨q1, hr1, hv1⟩ := rv_cell y29 st.sat 2 rfl (st.env 5).1
    exact ⟨_, results_two rfl hr0 hr1, ⟨_, _, rfl, hv0, hv1⟩⟩
  · replace hF := iteF hF hc
    refine T.skip ?_
    refine T.norm ?_
    refine T.seq ?_
    refine T.region mix 10 [15, 16, 17, 18, 19, 20, 21, 22, 31, 32] [0, 1, 3, 7, 0, 16, 48, 112, 15, 511] [(sp ((TP Y36).sv x0)), (sp ((TP Y36).sv x0)), (sp ((TP Y25).sv x0.1)), (sp (Y25.sv x0.1)), (sp ((TP Y36).sv x0)), (sp ((TP Y36).sv x0)), (sp ((TP Y25).sv x0.2.1)), (sp (Y25.sv x0.2.1)), (sT 1 (fun _ => (boxR 29 Y25 x0.1 (vs1 0)))), (sT 2 (fun _ => (boxR 29 Y25 x0.2.1 (vs1 1))))] (by kernel_rfl) (AOK.cons (fun ρ a w hs hz hΓ hp => gp (d_move (hΓ 0 rfl))) (AOK.cons (fun ρ a w hs hz hΓ hp => gp (d_nilCheckP (hp 0 _ rfl rfl).1)) (AOK.cons (fun ρ a w hs hz hΓ hp => gp (d_fieldP fa40_0 (hp 1 _ rfl rfl).1 (At.fst (At.refl _ _)))) (AOK.cons (fun ρ a w hs hz hΓ hp => gp (d_load y29 hs.le (hp 2 _ rfl rfl).1)) (AOK.cons (fun ρ a w hs hz hΓ hp => gp (d_move (hΓ 0 rfl))) (AOK.cons (fun ρ a w hs hz hΓ hp => gp (d_nilCheckP (hp 4 _ rfl rfl).1)) (AOK.cons (fun ρ a w hs hz hΓ hp => gp (d_fieldP fa40_1 (hp 5 _ rfl rfl).1 (At.fst (At.snd (At.refl _ _))))) (AOK.cons (fun ρ a w hs hz hΓ hp => gp (d_load y29 hs.le (hp 6 _ rfl rfl).1)) (AOK.consT (fun ρ a w hs hz hΓ hp => gt_store hs 1 y29 rfl (.inl ⟨(hΓ 4 rfl).1, rfl⟩) ((hp 3 _ rfl rfl).1) (At.refl Y25 (List.replicate 2 0)) rfl rfl) (AOK.consT (fun ρ a w hs hz hΓ hp => gt_store hs 2 y29 rfl (.inl ⟨(hΓ 5 rfl).1, rfl⟩) ((hp 7 _ rfl rfl).1) (At.refl Y25 (List.replicate 2 0)) rfl rfl) AOK.nil rfl) rfl) rfl) rfl) rfl) rfl) rfl) rfl) rfl) rfl) (fun vs4 => ?_)
    refine T.nil ?_
    refine T.norm ?_
    refine T.ret ?_
    obtain rfl := Option.some.inj hF
    refine T.fin0 fun ρ a w st => ?_
    obtain ⟨q0, hr0, hv0⟩ := rv_cell y29 st.sat 1 rfl (st.env 4).1
    obtain ⟨q1, hr1, hv1⟩ := rv_cell y29 st.sat 2 rfl (st.env 5).1
    exact ⟨_, results_two rfl hr0 hr1, ⟨_, _, rfl, hv0, hv1⟩⟩

theorem c92 (w : World) (v0 v1 v2 v3 : Value) {σ : Heap} (hσ : σ.le (snap w)) {x0 : (List ((List Int) × (List Int) × Int))} {x1 : (List Int)} {x2 : (List Bool)} {x3 : (List Int)} {r : Int} (hF : spec_l06Way x0 x1 x2 x3 = some r) (h0 : Y77.val σ v0 x0) (h1 : Y78.val σ v1 x1) (h2 : Y79.val σ v2 x2) (h3 : Y25.val σ v3 x3) :
    Calls Try.prog 92 #[v0, v1, v2, v3] w (Ret [] w σ ((TI .i64).sv r) []) := by
  unfold spec_l06Way at hF
  refine start (args := [v0, v1, v2, v3]) Try.func92 rfl 42 rfl [] [(0, (Y77.sv x0)), (1, (Y78.sv x1)), (2, (Y79.sv x2)), (3, (Y25.sv x3))] [] (sat_start _ hσ) rfl (args1 rfl h0 (args1 rfl h1 (args1 rfl h2 (args1 rfl h3 (args0))))) ?_
  refine T.seq ?_
  refine T.region mix 2 [7, 8] [0, 0] [(sp ((TP Y25).sv x3)), (sp ((TI .i64).sv 0))] (by kernel_rfl) (AOK.cons (fun ρ a w hs hz hΓ hp => gp (d_box hs.le (hΓ 3 rfl))) (AOK.cons (fun ρ a w hs hz hΓ hp => gp (d_assign (vI rfl))) AOK.nil rfl) rfl) (fun vs1 => ?_)
  refine T.nil ?_
  refine T.norm ?_
  refine T.seq ?_
  refine T.region mix 1 [9] [0] [(sp ((TI .i64).sv 0))] (by kernel_rfl) (AOK.cons (fun ρ a w hs hz hΓ hp => gp (d_assign (vI rfl))) AOK.nil rfl) (fun vs2 => ?_)
  refine T.nil ?_
  refine T.norm ?_
  refine T.seq ?_
  refine T.region mix 2 [14, 10] [0, 0, 3] [(sp (Y25.sv x3)), (sO SRel.any [(1, (boxR 29 Y25 (List.replicate 2 0)))])] (by kernel_rfl) (AOK.cons (fun ρ a w hs hz hΓ hp => gp (d_load y29 hs.le (hΓ 7 rfl))) (AOK.cons (fun ρ a w hs hz hΓ hp => g_alloc hs.le z29 zc29) AOK.nil rfl) rfl) (fun vs3 => ?_)
  refine T.store 1 y29 rfl (fun ρ a w st => ⟨.inl ⟨(st.env 10).1, rfl⟩, (st.env 14)⟩) (At.refl Y25 (List.replicate 2 0)) ?_
  refine T.nil ?_
  refine T.norm ?_
  refine T.seq ?_
  refine T.seq ?_
  refine T.region mix 1 [11] [0] [(sp ((TI .i64).sv 0))] (by kernel_rfl) (AOK.cons (fun ρ a w hs hz hΓ hp => gp (d_assign (vI rfl))) AOK.nil rfl) (fun vs4 => ?_)
  refine T.nil ?_
  refine T.norm ?_
  obtain ⟨yl5, e6, hF⟩ := bindS hF
  refine T.joinD (ι := (Int × Int × (List Int)) × (Unit)) (fun p => yl5 = p.1) (Γ' := fun p => E [(9, ((TI .i64).sv p.1.1))]) (H' := fun p => HL [(1, (boxR 29 Y25 p.1.2.2 (vs3 1)))]) (fun p hy => ?_) (fun hk => ?_)
  · obtain ⟨⟨o9, o11, or1⟩, _⟩ := p
    cases hy
    refine T.norm ?_
    refine T.seq ?_
    refine T.region mix 2 [41, 8] [0, 1] [(sp ((TI .i64).sv o9)), (sp ((TI .i64).sv o9))] (by kernel_rfl) (AOK.cons (fun ρ a w hs hz hΓ hp => gp (d_move (hΓ 9 rfl))) (AOK.cons (fun ρ a w hs hz hΓ hp => gp (d_assign (hp 0 _ rfl rfl).1)) AOK.nil rfl) rfl) (fun vs7 => ?_)
    refine T.nil ?_
    refine T.norm ?_
    refine T.ret ?_
    obtain rfl := Option.some.inj hF
    refine T.fin0 fun ρ a w st => ?_
    exact ⟨_, results_one rfl rfl, (st.env 8)⟩
  · skip
    refine T.block ?_
    refine T.loop (f := spec_l06Way_l1 x0 x1 x2) (σ := (Int × Int × (List Int))) (Z := Unit) (fun s z => E [(0, (Y77.sv x0)), (1, (Y78.sv x1)), (2, (Y79.sv x2)), (9, ((TI .i64).sv s.1)), (10, (SRel.eq (vs3 1))), (11, ((TI .i64).sv s.2.1))]) (fun s z => HL [(1, (boxR 29 Y25 s.2.2 (vs3 1)))]) e6 () (fun φ h => T.toh h ⟨fun _ _ h => h, fun _ _ h => h, fun _ _ h => h, fun _ _ h => h, fun _ _ h => h.1, fun _ _ h => h, trivial⟩ ⟨rfl, trivial⟩) (fun k s z uu5 hu5 hn5 => ?_)
    obtain ⟨s9, s11, sr1⟩ := s
    dsimp only [spec_l06Way_l1] at hu5
    refine T.seq ?_
    refine T.seq ?_
    refine T.region mix 4 [15, 16, 17, 18] [0, 0, 2, 7] [(sp ((TI .i64).sv s11)), (sp (Y78.sv x1)), (sp ((TI .i64).sv (x1.length : Int))), (sp (TB.sv (decide (s11 < (x1.length : Int)))))] (by kernel_rfl) (AOK.cons (fun ρ a w hs hz hΓ hp => gp (d_move (hΓ 11 rfl))) (AOK.cons (fun ρ a w hs hz hΓ hp => gp (d_move (hΓ 1 rfl))) (AOK.cons (fun ρ a w hs hz hΓ hp => gp (d_lenR u78 (hp 1 _ rfl rfl).1)) (AOK.cons (fun ρ a w hs hz hΓ hp => gp (d_lss (hp 0 _ rfl rfl).1 (hp 2 _ rfl rfl).1)) AOK.nil rfl) rfl) rfl) rfl) (fun vs8 => ?_)
    refine T.nil ?_
    refine T.norm ?_
    refine T.cond (b := (decide (s11 < (x1.length : Int)))) (fun _ _ h => h) (fun hc => ?_) (fun hc => ?_)
    · replace hu5 := iteT hu5 hc
      refine T.skip ?_
      refine T.norm ?_
      refine T.seq ?_
      refine T.block ?_
      refine T.seq ?_
      obtain ⟨x25, e10, hu5⟩ := bindS hu5
      obtain ⟨x27, e11, hu5⟩ := bindS hu5
      obtain ⟨x30, e12, hu5⟩ := bindS hu5
      obtain ⟨x32, e13, hu5⟩ := bindS hu5
      refine T.region mix 18 [22, 23, 24, 25, 26, 27, 28, 29, 30, 31, 32, 21, 33, 34, 12, 13, 58, 59] [0, 0, 0, 6, 14, 31, 0, 0, 192, 448, 1023, 2047, 4095, 4095, 0, 0, 57343, 131071] [(sp (Y77.sv x0)), (sp (Y78.sv x1)), (sp ((TI .i64).sv s11)), (sp ((TP (TI .i64)).sv x25)), (sp ((TI .i64).sv x25)), (sp ((TP Y36).sv x27)), (sp (Y79.sv x2)), (sp ((TI .i64).sv s11)), (sp ((TP TB).sv x30)), (sp (TB.sv x30)), (sp (SRel.tup2 (Y25.sv x32.1) (Y25.sv x32.2))), (sp (SRel.tup2 (Y25.sv x32.1) (Y25.sv x32.2))), (sp (Y25.sv x32.1)), (sp (Y25.sv x32.2)), (sO SRel.any [(2, (boxR 29 Y25 (List.replicate 2 0)))]), (sO SRel.any [(3, (boxR 29 Y25 (List.replicate 2 0)))]), (sM 2 14 (boxR 29 Y25 x32.1)), (sM 3 15 (boxR 29 Y25 x32.2))] (by kernel_rfl) (AOK.cons (fun ρ a w hs hz hΓ hp => gp (d_move (hΓ 0 rfl))) (AOK.cons (fun ρ a w hs hz hΓ hp => gp (d_move (hΓ 1 rfl))) (AOK.cons (fun ρ a w hs hz hΓ hp => gp (d_move (hΓ 11 rfl))) (AOK.cons (fun ρ a w hs hz hΓ hp => gp (d_idxR u78 y2 (hp 1 _ rfl rfl).1 (hp 2 _ rfl rfl).1 e10)) (AOK.cons (fun ρ a w hs hz hΓ hp => gp (d_load y2 hs.le (hp 3 _ rfl rfl).1)) (AOK.cons (fun ρ a w hs hz hΓ hp => gp (d_idxR u83 y40 (hp 0 _ rfl rfl).1 (hp 4 _ rfl rfl).1 e11)) (AOK.cons (fun ρ a w hs hz hΓ hp => gp (d_move (hΓ 2 rfl))) (AOK.cons (fun ρ a w hs hz hΓ hp => gp (d_move (hΓ 11 rfl))) (AOK.cons (fun ρ a w hs hz hΓ hp => gp (d_idxR u79 y4 (hp 6 _ rfl rfl).1 (hp 7 _ rfl rfl).1 e12)) (AOK.cons (fun ρ a w hs hz hΓ hp => gp (d_load y4 hs.le (hp 8 _ rfl rfl).1)) (AOK.cons (fun ρ a w hs hz hΓ hp => gp (d_call fn121 hs.le mapA2 (c121 w _ _ hs.le e13 ((hp 5 _ rfl rfl).1) ((hp 9 _ rfl rfl).1)))) (AOK.cons (fun ρ a w hs hz hΓ hp => gp (d_move (hp 10 _ rfl rfl).1)) (AOK.cons (fun ρ a w hs hz hΓ hp => gp (d_extract2_0 (hp 11 _ rfl rfl).1)) (AOK.cons (fun ρ a w hs hz hΓ hp => gp (d_extract2_1 (hp 11 _ rfl rfl).1)) (AOK.cons (fun ρ a w hs hz hΓ hp => g_alloc hs.le z29 zc29) (AOK.cons (fun ρ a w hs hz hΓ hp => g_alloc hs.le z29 zc29) (AOK.consT (fun ρ a w hs hz hΓ hp => gt_store hs 2 y29 rfl (.inl ⟨rfl, rfl⟩) ((hp 12 _ rfl rfl).1) (At.refl Y25 (List.replicate 2 0)) rfl rfl) (AOK.consT (fun ρ a w hs hz hΓ hp => gt_store hs 3 y29 rfl (.inl ⟨rfl, rfl⟩) ((hp 13 _ rfl rfl).1) (At.refl Y25 (List.replicate 2 0)) rfl rfl) AOK.nil rfl) rfl) rfl) rfl) rfl) rfl) rfl) rfl) rfl) rfl) rfl) rfl) rfl) rfl) rfl) rfl) rfl) rfl) (fun vs9 => ?_)
      refine T.nil ?_
      refine T.norm ?_
      refine T.seq ?_
      obtain ⟨x38, e15, hu5⟩ := bindS hu5
      refine T.region mix 6 [35, 36, 37, 38, 39, 9] [0, 0, 0, 6, 15, 31] [(sp ((TI .i64).sv s9)), (sp (Y25.sv sr1)), (sp (Y25.sv x32.1)), (sp ((TI .i64).sv x38)), (sp ((TI .i64).sv (IntKind.i64.wrap (s9 + x38)))), (sp ((TI .i64).sv (IntKind.i64.wrap (s9 + x38))))] (by kernel_rfl) (AOK.cons (fun ρ a w hs hz hΓ hp => gp (d_move (hΓ 9 rfl))) (AOK.cons (fun ρ a w hs hz hΓ hp => gp (d_loadO y29 hs 1 rfl (.inl ⟨(hΓ 10 rfl), rfl⟩) (At.refl Y25 sr1))) (AOK.cons (fun ρ a w hs hz hΓ hp => gp (d_loadO y29 hs 2 rfl (.inl ⟨(hΓ 12 rfl).1, rfl⟩) (At.refl Y25 x32.1))) (AOK.cons (fun ρ a w hs hz hΓ hp => gp (d_call fn61 hs.le mapA2 (c61 w _ _ hs.le e15 ((hp 1 _ rfl rfl).1) ((hp 2 _ rfl rfl).1)))) (AOK.cons (fun ρ a w hs hz hΓ hp => gp (d_add (hp 0 _ rfl rfl).1 (hp 3 _ rfl rfl).1)) (AOK.cons (fun ρ a w hs hz hΓ hp => gp (d_assign (hp 4 _ rfl rfl).1)) AOK.nil rfl) rfl) rfl) rfl) rfl) rfl) (fun vs14 => ?_)
      refine T.nil ?_
      refine T.norm ?_
      refine T.region mix 1 [40] [0, 1] [(sp (Y25.sv x32.2))] (by kernel_rfl) (AOK.cons (fun ρ a w hs hz hΓ hp => gp (d_loadO y29 hs 3 rfl (.inl ⟨(hΓ 13 rfl).1, rfl⟩) (At.refl Y25 x32.2))) AOK.nil rfl) (fun vs16 => ?_)
      refine T.store 1 y29 rfl (fun ρ a w st => ⟨.inl ⟨(st.env 10), rfl⟩, (st.env 40)⟩) (At.refl Y25 sr1) ?_
      refine T.nil ?_
      refine T.fallX ?_
      refine T.norm ?_
      refine T.region mix 3 [19, 20, 11] [0, 1, 3] [(sp ((TI .i64).sv s11)), (sp ((TI .i64).sv (IntKind.i64.wrap (s11 + 1)))), (sp ((TI .i64).sv (IntKind.i64.wrap (s11 + 1))))] (by kernel_rfl) (AOK.cons (fun ρ a w hs hz hΓ hp => gp (d_move (hΓ 11 rfl))) (AOK.cons (fun ρ a w hs hz hΓ hp => gp (d_add (hp 0 _ rfl rfl).1 (vI rfl))) (AOK.cons (fun ρ a w hs hz hΓ hp => gp (d_assign (hp 1 _ rfl rfl).1)) AOK.nil rfl) rfl) rfl) (fun vs17 => ?_)
      refine T.nil ?_
      obtain rfl := Option.some.inj hu5
      exact T.again hn5 () (fun φ h => T.toh h ⟨fun _ _ h => h, fun _ _ h => h, fun _ _ h => h, fun _ _ h => h, fun _ _ h => h, fun _ _ h => h, trivial⟩ ⟨rfl, trivial⟩)
    · replace hu5 := iteF hu5 hc
      refine T.exit ?_
      obtain rfl := Option.some.inj hu5
      repeat (first | refine T.passX ?_ | refine T.inX (by decide) ?_)
      refine T.hereX ?_
      exact T.toh (hk ((s9, s11, sr1), ()) (Eq.symm hn5)) ⟨fun _ _ h => h, trivial⟩ ⟨rfl, trivial⟩

theorem c49 (w : World) (v0 v1 v2 v3 : Value) {σ : Heap} (hσ : σ.le (snap w)) {x0 : (List ((List Int) × (List Int) × Int))} {x1 : (List Int)} {x2 : (List Bool)} {x3 : (List Int)} {r : (Int × Int)} (hF : spec_WayOf x0 x1 x2 x3 = some r) (h0 : Y77.val σ v0 x0) (h1 : Y78.val σ v1 x1) (h2 : Y79.val σ v2 x2) (h3 : Y25.val σ v3 x3) :
    Calls Try.prog 49 #[v0, v1, v2, v3] w (Ret [] w σ (SRel.tup2 ((TI .i64).sv r.1) ((TI .i64).sv r.2)) []) := by
  unfold spec_WayOf at hF
  refine start (args := [v0, v1, v2, v3]) Try.func49 rfl 24 rfl [] [(0, (Y77.sv x0)), (1, (Y78.sv x1)), (2, (Y79.sv x2)), (3, (Y25.sv x3))] [] (sat_start _ hσ) rfl (args1 rfl h0 (args1 rfl h1 (args1 rfl h2 (args1 rfl h3 (args0))))) ?_
  refine T.seq ?_
  refine T.region mix 3 [7, 8, 9] [0, 0, 2] [(sp ((TP Y25).sv x3)), (sp ((TI .i64).sv 0)), (sp ((TI .i64).sv 0))] (by kernel_rfl) (AOK.cons (fun ρ a w hs hz hΓ hp => gp (d_box hs.le (hΓ 3 rfl))) (AOK.cons (fun ρ a w hs hz hΓ hp => gp (d_assign (vI rfl))) (AOK.cons (fun ρ a w hs hz hΓ hp => gp (d_assign (vI rfl))) AOK.nil rfl) rfl) rfl) (fun vs1 => ?_)
  refine T.nil ?_
  refine T.norm ?_
  refine T.seq ?_
  refine T.seq ?_
  obtain ⟨x15, e3, hF⟩ := bindS hF
  refine T.region mix 6 [11, 12, 13, 14, 15, 10] [0, 0, 0, 0, 15, 31] [(sp (Y77.sv x0)), (sp (Y78.sv x1)), (sp (Y79.sv x2)), (sp (Y25.sv x3)), (sp ((TI .i64).sv x15)), (sp ((TI .i64).sv x15))] (by kernel_rfl) (AOK.cons (fun ρ a w hs hz hΓ hp => gp (d_move (hΓ 0 rfl))) (AOK.cons (fun ρ a w hs hz hΓ hp => gp (d_move (hΓ 1 rfl))) (AOK.cons (fun ρ a w hs hz hΓ hp => gp (d_move (hΓ 2 rfl))) (AOK.cons (fun ρ a w hs hz hΓ hp => gp (d_load y29 hs.le (hΓ 7 rfl))) (AOK.cons (fun ρ a w hs hz hΓ hp => gp (d_call fn91 hs.le mapA4 (c91 w _ _ _ _ hs.le e3 ((hp 0 _ rfl rfl).1) ((hp 1 _ rfl rfl).1) ((hp 2 _ rfl rfl).1) ((hp 3 _ rfl rfl).1)))) (AOK.cons (fun ρ a w hs hz hΓ hp => gp (d_assign (hp 4 _ rfl rfl).1)) AOK.nil rfl) rfl) rfl) rfl) rfl) rfl) (fun vs2 => ?_)
  refine T.nil ?_
  refine T.norm ?_
  refine T.seq ?_
  refine T.region mix 2 [16, 17] [0, 1] [(sp ((TI .i64).sv x15)), (sp (TB.sv (decide (x15 ≠ 0))))] (by kernel_rfl) (AOK.cons (fun ρ a w hs hz hΓ hp => gp (d_move (hΓ 10 rfl))) (AOK.cons (fun ρ a w hs hz hΓ hp => gp (d_neq (hp 0 _ rfl rfl).1 (vI rfl))) AOK.nil rfl) rfl) (fun vs4 => ?_)
  refine T.nil ?_
  refine T.norm ?_
  refine T.cond (b := (decide (x15 ≠ 0))) (fun _ _ h => h) (fun hc => ?_) (fun hc => ?_)
  · replace hF := iteT hF hc
    refine T.seq ?_
    refine T.region mix 3 [18, 8, 9] [0, 0, 3] [(sp ((TI .i64).sv x15)), (sp ((TI .i64).sv 0)), (sp ((TI .i64).sv x15))] (by kernel_rfl) (AOK.cons (fun ρ a w hs hz hΓ hp => gp (d_move (hΓ 10 rfl))) (AOK.cons (fun ρ a w hs hz hΓ hp => gp (d_assign (vI rfl))) (AOK.cons (fun ρ a w hs hz hΓ hp => gp (d_assign (hp 0 _ rfl rfl).1)) AOK.nil rfl) rfl) rfl) (fun vs5 => ?_)
    refine T.nil ?_
    refine T.norm ?_
    refine T.ret ?_
    obtain rfl := Option.some.inj hF
    refine T.fin0 fun ρ a w st => ?_
    exact ⟨_, results_two rfl rfl rfl, ⟨_, _, rfl, (st.env 8), (st.env 9)⟩⟩
  · replace hF := iteF hF hc
    refine T.skip ?_
    refine T.norm ?_
    refine T.seq ?_
    obtain ⟨x23, e7, hF⟩ := bindS hF
    refine T.region mix 7 [19, 20, 21, 22, 23, 8, 9] [0, 0, 0, 0, 15, 31, 63] [(sp (Y77.sv x0)), (sp (Y78.sv x1)), (sp (Y79.sv x2)), (sp (Y25.sv x3)), (sp ((TI .i64).sv x23)), (sp ((TI .i64).sv x23)), (sp ((TI .i64).sv 0))] (by kernel_rfl) (AOK.cons (fun ρ a w hs hz hΓ hp => gp (d_move (hΓ 0 rfl))) (AOK.cons (fun ρ a w hs hz hΓ hp => gp (d_move (hΓ 1 rfl))) (AOK.cons (fun ρ a w hs hz hΓ hp => gp (d_move (hΓ 2 rfl))) (AOK.cons (fun ρ a w hs hz hΓ hp => gp (d_load y29 hs.le (hΓ 7 rfl))) (AOK.cons (fun ρ a w hs hz hΓ hp => gp (d_call fn92 hs.le mapA4 (c92 w _ _ _ _ hs.le e7 ((hp 0 _ rfl rfl).1) ((hp 1 _ rfl rfl).1) ((hp 2 _ rfl rfl).1) ((hp 3 _ rfl rfl).1)))) (AOK.cons (fun ρ a w hs hz hΓ hp => gp (d_assign (hp 4 _ rfl rfl).1)) (AOK.cons (fun ρ a w hs hz hΓ hp => gp (d_assign (vI rfl))) AOK.nil rfl) rfl) rfl) rfl) rfl) rfl) rfl) (fun vs6 => ?_)
    refine T.nil ?_
    refine T.norm ?_
    refine T.ret ?_
    obtain rfl := Option.some.inj hF
    refine T.fin0 fun ρ a w st => ?_
    exact ⟨_, results_two rfl rfl rfl, ⟨_, _, rfl, (st.env 8), (st.env 9)⟩⟩

theorem c122 (w : World) (v0 v1 : Value) {σ : Heap} (hσ : σ.le (snap w)) {x0 : (List Int)} {x1 : Int} {r : Bool} (hF : impl_isOrder x0 x1 = some r) (h0 : Y78.val σ v0 x0) (h1 : (TI .i64).val σ v1 x1) :
    Calls Try.prog 122 #[v0, v1] w (Ret [] w σ (TB.sv r) []) := by
  unfold impl_isOrder at hF
  refine start (args := [v0, v1]) Try.func122 rfl 35 rfl [] [(0, (Y78.sv x0)), (1, ((TI .i64).sv x1))] [] (sat_start _ hσ) rfl (args1 rfl h0 (args1 rfl h1 (args0))) ?_
  refine T.seq ?_
  refine T.region mix 1 [4] [0] [(sp (TB.sv false))] (by kernel_rfl) (AOK.cons (fun ρ a w hs hz hΓ hp => gp (d_assign (vB _))) AOK.nil rfl) (fun vs1 => ?_)
  refine T.nil ?_
  refine T.norm ?_
  refine T.seq ?_
  refine T.seq ?_
  refine T.region mix 4 [8, 9, 10, 11] [0, 1, 0, 7] [(sp (Y78.sv x0)), (sp ((TI .i64).sv (x0.length : Int))), (sp ((TI .i64).sv x1)), (sp (TB.sv (decide ((x0.length : Int) ≠ x1))))] (by kernel_rfl) (AOK.cons (fun ρ a w hs hz hΓ hp => gp (d_move (hΓ 0 rfl))) (AOK.cons (fun ρ a w hs hz hΓ hp => gp (d_lenR u78 (hp 0 _ rfl rfl).1)) (AOK.cons (fun ρ a w hs hz hΓ hp => gp (d_move (hΓ 1 rfl))) (AOK.cons (fun ρ a w hs hz hΓ hp => gp (d_neq (hp 1 _ rfl rfl).1 (hp 2 _ rfl rfl).1)) AOK.nil rfl) rfl) rfl) rfl) (fun vs2 => ?_)
  refine T.nil ?_
  refine T.norm ?_
  refine T.cond (b := (decide ((x0.length : Int) ≠ x1))) (fun _ _ h => h) (fun hc => ?_) (fun hc => ?_)
  · replace hF := iteT hF hc
    refine T.seq ?_
    refine T.region mix 1 [4] [0] [(sp (TB.sv false))] (by kernel_rfl) (AOK.cons (fun ρ a w hs hz hΓ hp => gp (d_assign (vB _))) AOK.nil rfl) (fun vs3 => ?_)
    refine T.nil ?_
    refine T.norm ?_
    refine T.ret ?_
    obtain rfl := Option.some.inj hF
    refine T.fin0 fun ρ a w st => ?_
    exact ⟨_, results_one rfl rfl, (st.env 4)⟩
  · replace hF := iteF hF hc
    refine T.skip ?_
    refine T.norm ?_
    refine T.seq ?_
    obtain ⟨_u13, e5, hF⟩ := bindS hF
    refine T.region mix 3 [12, 13, 5] [0, 1, 3] [(sp ((TI .i64).sv x1)), (sO SRel.any [(1, (slR 4 TB (List.replicate x1.toNat false)))]), (al 1 (id))] (by kernel_rfl) (AOK.cons (fun ρ a w hs hz hΓ hp => gp (d_move (hΓ 1 rfl))) (AOK.cons (fun ρ a w hs hz hΓ hp => g_makeSl hs.le u79 i4 rfl zc4 (hp 0 _ rfl rfl).1 (hp 0 _ rfl rfl).1 (need_get e5)) (AOK.cons (fun ρ a w hs hz hΓ hp => al_assign rfl) AOK.nil rfl) rfl) rfl) (fun vs4 => ?_)
    refine T.nil ?_
    refine T.norm ?_
    refine T.seq ?_
    refine T.seq ?_
    refine T.region mix 3 [14, 15, 16] [0, 1, 0] [(sp (Y78.sv x0)), (sp ((TI .i64).sv (x0.length : Int))), (sp ((TI .i64).sv 0))] (by kernel_rfl) (AOK.cons (fun ρ a w hs hz hΓ hp => gp (d_move (hΓ 0 rfl))) (AOK.cons (fun ρ a w hs hz hΓ hp => gp (d_lenR u78 (hp 0 _ rfl rfl).1)) (AOK.cons (fun ρ a w hs hz hΓ hp => gp (d_move (vI rfl))) AOK.nil rfl) rfl) rfl) (fun vs6 => ?_)
    refine T.nil ?_
    refine T.norm ?_
    obtain ⟨yl7, e8, hF⟩ := bindS hF
    refine T.joinD (ι := (Int × (List Bool)) × (Unit)) (fun p => yl7 = .inl p.1) (Γ' := fun p => E []) (H' := fun p => HL [(1, (slR 4 TB p.1.2 (vs4 1)))]) (fun p hy => ?_) (fun hk => ?_)
    · obtain ⟨⟨o16, or1⟩, _⟩ := p
      cases hy
      refine T.norm ?_
      refine T.seq ?_
      refine T.region mix 1 [4] [0] [(sp (TB.sv true))] (by kernel_rfl) (AOK.cons (fun ρ a w hs hz hΓ hp => gp (d_assign (vB _))) AOK.nil rfl) (fun vs9 => ?_)
      refine T.nil ?_
      refine T.norm ?_
      refine T.ret ?_
      obtain rfl := Option.some.inj hF
      refine T.fin0 fun ρ a w st => ?_
      exact ⟨_, results_one rfl rfl, (st.env 4)⟩
    · skip
      refine T.block ?_
      refine T.loop (f := impl_isOrder_l1 x0 x1) (σ := (Int × (List Bool))) (Z := Unit) (fun s z => E [(1, ((TI .i64).sv x1)), (5, (SRel.eq (vs4 1))), (14, (Y78.sv x0)), (15, ((TI .i64).sv (x0.length : Int))), (16, ((TI .i64).sv s.1))]) (fun s z => HL [(1, (slR 4 TB s.2 (vs4 1)))]) e8 () (fun φ h => T.toh h ⟨fun _ _ h => h, fun _ _ h => h, fun _ _ h => h, fun _ _ h => h, fun _ _ h => h, trivial⟩ ⟨rfl, trivial⟩) (fun k s z uu7 hu7 hn7 => ?_)
      obtain ⟨s16, sr1⟩ := s
      dsimp only [impl_isOrder_l1] at hu7
      refine T.seq ?_
      refine T.region mix 1 [17] [0] [(sp (TB.sv (decide (s16 < (x0.length : Int)))))] (by kernel_rfl) (AOK.cons (fun ρ a w hs hz hΓ hp => gp (d_lss (hΓ 16 rfl) (hΓ 15 rfl))) AOK.nil rfl) (fun vs10 => ?_)
      refine T.nil ?_
      refine T.norm ?_
      refine T.seq ?_
      refine T.cond (b := (decide (s16 < (x0.length : Int)))) (fun _ _ h => h) (fun hc => ?_) (fun hc => ?_)
      · replace hu7 := iteT hu7 hc
        refine T.skip ?_
        refine T.norm ?_
        refine T.seq ?_
        refine T.block ?_
        refine T.seq ?_
        obtain ⟨x18, e12, hu7⟩ := bindS hu7
        refine T.region mix 3 [18, 19, 7] [0, 1, 3] [(sp ((TP (TI .i64)).sv x18)), (sp ((TI .i64).sv x18)), (sp ((TI .i64).sv x18))] (by kernel_rfl) (AOK.cons (fun ρ a w hs hz hΓ hp => gp (d_idxR u78 y2 (hΓ 14 rfl) (hΓ 16 rfl) e12)) (AOK.cons (fun ρ a w hs hz hΓ hp => gp (d_load y2 hs.le (hp 0 _ rfl rfl).1)) (AOK.cons (fun ρ a w hs hz hΓ hp => gp (d_assign (hp 1 _ rfl rfl).1)) AOK.nil rfl) rfl) rfl) (fun vs11 => ?_)
        refine T.nil ?_
        refine T.norm ?_
        refine T.seq ?_
        refine T.seq ?_
        obtain ⟨x23, e14, hu7⟩ := bindS hu7
        obtain ⟨x30, e16, hu7⟩ := bindS hu7
        obtain ⟨x28, e17⟩ : ∃ (x28 : Bool), (!x23) = false → idx sr1 x18 = some x28 ∧ x28 = x30 := by
          by_cases hb : (!x23) = false
          · replace e16 := iteF e16 hb
            obtain ⟨x28, e15, e16⟩ := bindS e16
            exact ⟨x28, fun _ => ⟨e15, Option.some.inj e16⟩⟩
          · exact ⟨default, fun h => absurd h hb⟩
        have e18 : (!x23) = true → true = x30 := fun h => Option.some.inj (iteT e16 h)
        refine T.region mix 11 [20, 21, 22, 23, 24, 25, 26, 27, 28, 29, 30] [0, 0, 2, 7, 15, 31, 63, 63, 255, 511, 1023] [(sp ((TI .i64).sv x18)), (sp ((TI .i64).sv x1)), (sp ((TI .i64).sv (IntKind.i64.wrap (x1 - 1)))), (sp (TB.sv x23)), (sp (TB.sv (!x23))), (sp (TB.sv (!x23))), (sp (SRel.when ((!x23) = false) (SRel.eq (vs4 1)))), (sp (SRel.when ((!x23) = false) ((TI .i64).sv x18))), (sp (SRel.when ((!x23) = false) (SRel.eq (at_ (vs4 1) (x18.toNat * TB.n + 0))))), (sp (SRel.when ((!x23) = false) (TB.sv x28))), (sp (TB.sv x30))] (by kernel_rfl) (AOK.cons (fun ρ a w hs hz hΓ hp => gp (d_move (hΓ 7 rfl))) (AOK.cons (fun ρ a w hs hz hΓ hp => gp (d_move (hΓ 1 rfl))) (AOK.cons (fun ρ a w hs hz hΓ hp => gp (d_sub (hp 1 _ rfl rfl).1 (vI rfl))) (AOK.cons (fun ρ a w hs hz hΓ hp => gp (d_call fn98 hs.le mapA3 (c98 w _ _ _ hs.le e14 ((hp 0 _ rfl rfl).1) (vI rfl) ((hp 2 _ rfl rfl).1)))) (AOK.cons (fun ρ a w hs hz hΓ hp => gp (d_not (hp 3 _ rfl rfl).1)) (AOK.cons (fun ρ a w hs hz hΓ hp => gp (d_move (hp 4 _ rfl rfl).1)) (AOK.cons (fun ρ a w hs hz hΓ hp => gg (g := 5) (d := 25) hz rfl (hp 5 _ rfl rfl).1 rfl (fun hc => d_move (hΓ 5 rfl))) (AOK.cons (fun ρ a w hs hz hΓ hp => gg (g := 5) (d := 25) hz rfl (hp 5 _ rfl rfl).1 rfl (fun hc => d_move (hΓ 7 rfl))) (AOK.cons (fun ρ a w hs hz hΓ hp => gg (g := 5) (d := 25) hz rfl (hp 5 _ rfl rfl).1 rfl (fun hc => d_idxS u79 y4 hs 1 rfl ((hp 6 _ rfl rfl).1 hc) ((hp 7 _ rfl rfl).1 hc) (e17 hc).1)) (AOK.cons (fun ρ a w hs hz hΓ hp => gg (g := 5) (d := 25) hz rfl (hp 5 _ rfl rfl).1 rfl (fun hc => d_loadS y4 hs 1 rfl (idx_get (e17 hc).1).2 ((hp 8 _ rfl rfl).1 hc) (At.refl TB x28))) (AOK.cons (fun ρ a w hs hz hΓ hp => gp (d_pick (hp 5 _ rfl rfl).1 (fun hc => pC (e18 hc)) (fun hc => (pE ((e17 hc).2) ((hp 9 _ rfl rfl).1 hc))))) AOK.nil rfl) rfl) rfl) rfl) rfl) rfl) rfl) rfl) rfl) rfl) rfl) (fun vs13 => ?_)
        refine T.nil ?_
        refine T.norm ?_
        refine T.cond (b := x30) (fun _ _ h => h) (fun hc => ?_) (fun hc => ?_)
        · replace hu7 := iteT hu7 hc
          refine T.seq ?_
          refine T.region mix 1 [4] [0] [(sp (TB.sv false))] (by kernel_rfl) (AOK.cons (fun ρ a w hs hz hΓ hp => gp (d_assign (vB _))) AOK.nil rfl) (fun vs19 => ?_)
          refine T.nil ?_
          refine T.norm ?_
          refine T.ret ?_
          obtain rfl := Option.some.inj hu7
          cases hn7
          obtain rfl := Option.some.inj hF
          refine T.fin0 fun ρ a w st => ?_
          exact ⟨_, results_one rfl rfl, (st.env 4)⟩
        · replace hu7 := iteF hu7 hc
          refine T.skip ?_
          refine T.norm ?_
          obtain ⟨x33, e21, hu7⟩ := bindS hu7
          refine T.region mix 3 [31, 32, 33] [0, 0, 3, 7] [(sp (SRel.eq (vs4 1))), (sp ((TI .i64).sv x18)), (sp (SRel.eq (at_ (vs4 1) (x18.toNat * TB.n + 0))))] (by kernel_rfl) (AOK.cons (fun ρ a w hs hz hΓ hp => gp (d_move (hΓ 5 rfl))) (AOK.cons (fun ρ a w hs hz hΓ hp => gp (d_move (hΓ 7 rfl))) (AOK.cons (fun ρ a w hs hz hΓ hp => gp (d_idxS u79 y4 hs 1 rfl (hp 0 _ rfl rfl).1 (hp 1 _ rfl rfl).1 e21)) AOK.nil rfl) rfl) rfl) (fun vs20 => ?_)
          refine T.storeS 1 y4 rfl (idx_get e21).2 (fun ρ a w st => ⟨(st.env 33), (vB _)⟩) (At.refl TB x33) ?_
          refine T.nil ?_
          refine T.fallX ?_
          refine T.norm ?_
          refine T.region mix 2 [34, 16] [0, 1] [(sp ((TI .i64).sv (IntKind.i64.wrap (s16 + 1)))), (sp ((TI .i64).sv (IntKind.i64.wrap (s16 + 1))))] (by kernel_rfl) (AOK.cons (fun ρ a w hs hz hΓ hp => gp (d_add (hΓ 16 rfl) (vI rfl))) (AOK.cons (fun ρ a w hs hz hΓ hp => gp (d_move (hp 0 _ rfl rfl).1)) AOK.nil rfl) rfl) (fun vs22 => ?_)
          refine T.nil ?_
          obtain rfl := Option.some.inj hu7
          exact T.again hn7 () (fun φ h => T.toh h ⟨fun _ _ h => h, fun _ _ h => h, fun _ _ h => h, fun _ _ h => h, fun _ _ h => h, trivial⟩ ⟨rfl, trivial⟩)
      · replace hu7 := iteF hu7 hc
        refine T.exit ?_
        obtain rfl := Option.some.inj hu7
        repeat (first | refine T.passX ?_ | refine T.inX (by decide) ?_)
        refine T.hereX ?_
        exact T.toh (hk ((s16, sr1), ()) (Eq.symm hn7)) trivial ⟨rfl, trivial⟩

theorem c93 (w : World) (v0 v1 v2 v3 v4 : Value) {σ : Heap} (hσ : σ.le (snap w)) {x0 : (List ((List Int) × (List Int) × Int))} {x1 : (List Int)} {x2 : (List Bool)} {x3 : (List Int)} {x4 : Bool} {r : Int} (hF : impl_penCode x0 x1 x2 x3 x4 = some r) (h0 : Y77.val σ v0 x0) (h1 : Y78.val σ v1 x1) (h2 : Y79.val σ v2 x2) (h3 : Y25.val σ v3 x3) (h4 : TB.val σ v4 x4) :
    Calls Try.prog 93 #[v0, v1, v2, v3, v4] w (Ret [] w σ ((TI .i64).sv r) []) := by
  unfold impl_penCode at hF
  refine start (args := [v0, v1, v2, v3, v4]) Try.func93 rfl 41 rfl [] [(0, (Y77.sv x0)), (1, (Y78.sv x1)), (2, (Y79.sv x2)), (3, (Y25.sv x3)), (4, (TB.sv x4))] [] (sat_start _ hσ) rfl (args1 rfl h0 (args1 rfl h1 (args1 rfl h2 (args1 rfl h3 (args1 rfl h4 (args0)))))) ?_
  refine T.seq ?_
  refine T.region mix 2 [8, 10] [0, 0] [(sp ((TP Y25).sv x3)), (sp ((TI .i64).sv 0))] (by kernel_rfl) (AOK.cons (fun ρ a w hs hz hΓ hp => gp (d_box hs.le (hΓ 3 rfl))) (AOK.cons (fun ρ a w hs hz hΓ hp => gp (d_assign (vI rfl))) AOK.nil rfl) rfl) (fun vs1 => ?_)
  refine T.nil ?_
  refine T.norm ?_
  refine T.seq ?_
  obtain ⟨x14, e3, hF⟩ := bindS hF
  obtain ⟨x16, e4, hF⟩ := bindS hF
  obtain ⟨x18, e5, hF⟩ := bindS hF
  obtain ⟨x20, e6, hF⟩ := bindS hF
  refine T.region mix 10 [12, 13, 14, 15, 16, 17, 18, 19, 20, 11] [0, 1, 3, 7, 15, 0, 63, 127, 255, 511] [(sp (Y25.sv x3)), (sp (Y64.sv ([x3] : List (List Int)))), (sp (TB.sv x14)), (sp (TB.sv (!x14))), (sp ((TI .i64).sv x16)), (sp (Y77.sv x0)), (sp ((TI .i64).sv x18)), (sp (Y78.sv ([x16, x18] : List Int))), (sp ((TI .i64).sv x20)), (sp ((TI .i64).sv x20))] (by kernel_rfl) (AOK.cons (fun ρ a w hs hz hΓ hp => gp (d_load y29 hs.le (hΓ 8 rfl))) (AOK.cons (fun ρ a w hs hz hΓ hp => gp (d_buildSl hs.le u64 y29 z29 (by decide) (by decide) zc29 (Fills.part rfl (hp 0 _ rfl rfl).1 (At.nth (At.refl _ _) 0 rfl) (Fills.done _)))) (AOK.cons (fun ρ a w hs hz hΓ hp => gp (d_call fn64 hs.le mapA1 (c64 w _ hs.le e3 ((hp 1 _ rfl rfl).1)))) (AOK.cons (fun ρ a w hs hz hΓ hp => gp (d_not (hp 2 _ rfl rfl).1)) (AOK.cons (fun ρ a w hs hz hΓ hp => gp (d_call fn87 hs.le mapA2 (c87 w _ _ hs.le e4 ((hp 3 _ rfl rfl).1) (vI rfl)))) (AOK.cons (fun ρ a w hs hz hΓ hp => gp (d_move (hΓ 0 rfl))) (AOK.cons (fun ρ a w hs hz hΓ hp => gp (d_call fn96 hs.le mapA1 (c96 w _ hs.le e5 ((hp 5 _ rfl rfl).1)))) (AOK.cons (fun ρ a w hs hz hΓ hp => gp (d_buildSl hs.le u78 y2 z2 (by decide) (by decide) zc2 (Fills.part rfl (hp 4 _ rfl rfl).1 (At.nth (At.refl _ _) 0 rfl) (Fills.part rfl (hp 6 _ rfl rfl).1 (At.nth (At.refl _ _) 1 rfl) (Fills.done _))))) (AOK.cons (fun ρ a w hs hz hΓ hp => gp (d_call fn86 hs.le mapA1 (c86 w _ hs.le e6 ((hp 7 _ rfl rfl).1)))) (AOK.cons (fun ρ a w hs hz hΓ hp => gp (d_assign (hp 8 _ rfl rfl).1)) AOK.nil rfl) rfl) rfl) rfl) rfl) rfl) rfl) rfl) rfl) rfl) (fun vs2 => ?_)
  refine T.nil ?_
  refine T.norm ?_
  refine T.seq ?_
  obtain ⟨x25, e8, hF⟩ := bindS hF
  obtain ⟨x38, e9, hF⟩ := bindS hF
  obtain ⟨x40, e10, hF⟩ := bindS hF
  refine T.region mix 21 [21, 22, 23, 24, 25, 26, 27, 28, 29, 30, 31, 32, 33, 34, 35, 36, 37, 38, 39, 40, 10] [0, 0, 0, 4, 14, 30, 62, 126, 254, 126, 638, 2046, 4094, 8190, 16382, 32766, 65534, 131070, 262143, 524287, 1048575] [(sp ((TI .i64).sv x20)), (sp (Y78.sv x1)), (sp (Y77.sv x0)), (sp ((TI .i64).sv (x0.length : Int))), (sp (TB.sv x25)), (sp (TB.sv (!x25))), (sp (TB.sv (!x25))), (sp (SRel.when ((!x25) = false) (Y79.sv x2))), (sp (SRel.when ((!x25) = false) ((TI .i64).sv (x2.length : Int)))), (sp (SRel.when ((!x25) = false) (Y77.sv x0))), (sp (SRel.when ((!x25) = false) ((TI .i64).sv (x0.length : Int)))), (sp (SRel.when ((!x25) = false) (TB.sv (decide ((x2.length : Int) ≠ (x0.length : Int)))))), (sp (TB.sv ((!x25) || (decide ((x2.length : Int) ≠ (x0.length : Int)))))), (sp (TB.sv ((!x25) || (decide ((x2.length : Int) ≠ (x0.length : Int)))))), (sp (SRel.when (((!x25) || (decide ((x2.length : Int) ≠ (x0.length : Int)))) = false) (TB.sv x4))), (sp (SRel.when (((!x25) || (decide ((x2.length : Int) ≠ (x0.length : Int)))) = false) (TB.sv (!x4)))), (sp (TB.sv (((!x25) || (decide ((x2.length : Int) ≠ (x0.length : Int)))) || (!x4)))), (sp ((TI .i64).sv x38)), (sp (Y78.sv ([x20, x38] : List Int))), (sp ((TI .i64).sv x40)), (sp ((TI .i64).sv x40))] (by kernel_rfl) (AOK.cons (fun ρ a w hs hz hΓ hp => gp (d_move (hΓ 11 rfl))) (AOK.cons (fun ρ a w hs hz hΓ hp => gp (d_move (hΓ 1 rfl))) (AOK.cons (fun ρ a w hs hz hΓ hp => gp (d_move (hΓ 0 rfl))) (AOK.cons (fun ρ a w hs hz hΓ hp => gp (d_lenR u83 (hp 2 _ rfl rfl).1)) (AOK.cons (fun ρ a w hs hz hΓ hp => gp (d_call fn122 hs.le mapA2 (c122 w _ _ hs.le e8 ((hp 1 _ rfl rfl).1) ((hp 3 _ rfl rfl).1)))) (AOK.cons (fun ρ a w hs hz hΓ hp => gp (d_not (hp 4 _ rfl rfl).1)) (AOK.cons (fun ρ a w hs hz hΓ hp => gp (d_move (hp 5 _ rfl rfl).1)) (AOK.cons (fun ρ a w hs hz hΓ hp => gg (g := 6) (d := 27) hz rfl (hp 6 _ rfl rfl).1 rfl (fun hc => d_move (hΓ 2 rfl))) (AOK.cons (fun ρ a w hs hz hΓ hp => gg (g := 6) (d := 27) hz rfl (hp 6 _ rfl rfl).1 rfl (fun hc => d_lenR u79 ((hp 7 _ rfl rfl).1 hc))) (AOK.cons (fun ρ a w hs hz hΓ hp => gg (g := 6) (d := 27) hz rfl (hp 6 _ rfl rfl).1 rfl (fun hc => d_move (hΓ 0 rfl))) (AOK.cons (fun ρ a w hs hz hΓ hp => gg (g := 6) (d := 27) hz rfl (hp 6 _ rfl rfl).1 rfl (fun hc => d_lenR u83 ((hp 9 _ rfl rfl).1 hc))) (AOK.cons (fun ρ a w hs hz hΓ hp => gg (g := 6) (d := 27) hz rfl (hp 6 _ rfl rfl).1 rfl (fun hc => d_neq ((hp 8 _ rfl rfl).1 hc) ((hp 10 _ rfl rfl).1 hc))) (AOK.cons (fun ρ a w hs hz hΓ hp => gp (d_pick (hp 6 _ rfl rfl).1 (fun hc => pON hc) (fun hc => pO hc ((hp 11 _ rfl rfl).1 hc)))) (AOK.cons (fun ρ a w hs hz hΓ hp => gp (d_move (hp 12 _ rfl rfl).1)) (AOK.cons (fun ρ a w hs hz hΓ hp => gg (g := 13) (d := 34) hz rfl (hp 13 _ rfl rfl).1 rfl (fun hc => d_move (hΓ 4 rfl))) (AOK.cons (fun ρ a w hs hz hΓ hp => gg (g := 13) (d := 34) hz rfl (hp 13 _ rfl rfl).1 rfl (fun hc => d_not ((hp 14 _ rfl rfl).1 hc))) (AOK.cons (fun ρ a w hs hz hΓ hp => gp (d_pick (hp 13 _ rfl rfl).1 (fun hc => pON hc) (fun hc => pO hc ((hp 15 _ rfl rfl).1 hc)))) (AOK.cons (fun ρ a w hs hz hΓ hp => gp (d_call fn87 hs.le mapA2 (c87 w _ _ hs.le e9 ((hp 16 _ rfl rfl).1) (vI rfl)))) (AOK.cons (fun ρ a w hs hz hΓ hp => gp (d_buildSl hs.le u78 y2 z2 (by decide) (by decide) zc2 (Fills.part rfl (hp 0 _ rfl rfl).1 (At.nth (At.refl _ _) 0 rfl) (Fills.part rfl (hp 17 _ rfl rfl).1 (At.nth (At.refl _ _) 1 rfl) (Fills.done _))))) (AOK.cons (fun ρ a w hs hz hΓ hp => gp (d_call fn86 hs.le mapA1 (c86 w _ hs.le e10 ((hp 18 _ rfl rfl).1)))) (AOK.cons (fun ρ a w hs hz hΓ hp => gp (d_assign (hp 19 _ rfl rfl).1)) AOK.nil rfl) rfl) rfl) rfl) rfl) rfl) rfl) rfl) rfl) rfl) rfl) rfl) rfl) rfl) rfl) rfl) rfl) rfl) rfl) rfl) rfl) (fun vs7 => ?_)
  refine T.nil ?_
  refine T.norm ?_
  refine T.ret ?_
  obtain rfl := Option.some.inj hF
  refine T.fin0 fun ρ a w st => ?_
  exact ⟨_, results_one rfl rfl, (st.env 10)⟩

theorem c123 (w : World) (v0 v1 : Value) {σ : Heap} (hσ : σ.le (snap w)) {x0 : ((List Int) × (List Int) × Int)} {x1 : Bool} {r : ((List Int) × (List Int))} (hF : impl_Stroke_ends x0 x1 = some r) (h0 : Y36.val σ v0 x0) (h1 : TB.val σ v1 x1) :
    Calls Try.prog 123 #[v0, v1] w (Ret [] w σ (SRel.tup2 (Y25.sv r.1) (Y25.sv r.2)) []) := by
  unfold impl_Stroke_ends at hF
  refine start (args := [v0, v1]) Try.func123 rfl 15 rfl [] [(0, (Y36.sv x0)), (1, (TB.sv x1))] [] (sat_start _ hσ) rfl (args1 rfl h0 (args1 rfl h1 (args0))) ?_
  refine T.seq ?_
  refine T.region mix 3 [2, 4, 5] [0, 0, 0] [(sp ((TP Y36).sv x0)), (sO SRel.any [(1, (boxR 29 Y25 (List.replicate 2 0)))]), (sO SRel.any [(2, (boxR 29 Y25 (List.replicate 2 0)))])] (by kernel_rfl) (AOK.cons (fun ρ a w hs hz hΓ hp => gp (d_box hs.le (hΓ 0 rfl))) (AOK.cons (fun ρ a w hs hz hΓ hp => g_alloc hs.le z29 zc29) (AOK.cons (fun ρ a w hs hz hΓ hp => g_alloc hs.le z29 zc29) AOK.nil rfl) rfl) rfl) (fun vs1 => ?_)
  refine T.nil ?_
  refine T.norm ?_
  refine T.seq ?_
  refine T.seq ?_
  refine T.region mix 1 [6] [0] [(sp (TB.sv x1))] (by kernel_rfl) (AOK.cons (fun ρ a w hs hz hΓ hp => gp (d_move (hΓ 1 rfl))) AOK.nil rfl) (fun vs2 => ?_)
  refine T.nil ?_
  refine T.norm ?_
  refine T.cond (b := x1) (fun _ _ h => h) (fun hc => ?_) (fun hc => ?_)
  · replace hF := iteT hF hc
    refine T.seq ?_
    refine T.region mix 6 [7, 8, 9, 10, 19, 20] [0, 1, 0, 4, 3, 31] [(sp ((TP Y25).sv x0.2.1)), (sp (Y25.sv x0.2.1)), (sp ((TP Y25).sv x0.1)), (sp (Y25.sv x0.1)), (sT 1 (fun _ => (boxR 29 Y25 x0.2.1 (vs1 1)))), (sT 2 (fun _ => (boxR 29 Y25 x0.1 (vs1 2))))] (by kernel_rfl) (AOK.cons (fun ρ a w hs hz hΓ hp => gp (d_fieldP fa40_1 (hΓ 2 rfl) (At.fst (At.snd (At.refl _ _))))) (AOK.cons (fun ρ a w hs hz hΓ hp => gp (d_load y29 hs.le (hp 0 _ rfl rfl).1)) (AOK.cons (fun ρ a w hs hz hΓ hp => gp (d_fieldP fa40_0 (hΓ 2 rfl) (At.fst (At.refl _ _)))) (AOK.cons (fun ρ a w hs hz hΓ hp => gp (d_load y29 hs.le (hp 2 _ rfl rfl).1)) (AOK.consT (fun ρ a w hs hz hΓ hp => gt_store hs 1 y29 rfl (.inl ⟨(hΓ 4 rfl).1, rfl⟩) ((hp 1 _ rfl rfl).1) (At.refl Y25 (List.replicate 2 0)) rfl rfl) (AOK.consT (fun ρ a w hs hz hΓ hp => gt_store hs 2 y29 rfl (.inl ⟨(hΓ 5 rfl).1, rfl⟩) ((hp 3 _ rfl rfl).1) (At.refl Y25 (List.replicate 2 0)) rfl rfl) AOK.nil rfl) rfl) rfl) rfl) rfl) rfl) (fun vs3 => ?_)
    refine T.nil ?_
    refine T.norm ?_
    refine T.ret ?_
    obtain rfl := Option.some.inj hF
    refine T.fin0 fun ρ a w st => ?_
    obtain ⟨q0, hr0, hv0⟩ := rv_cell y29 st.sat 1 rfl (st.env 4).1
    obtain ⟨q1, hr1, hv1⟩ := rv_cell y29 st.sat 2 rfl (st.env 5).1
    exact ⟨_, results_two rfl hr0 hr1, ⟨_, _, rfl, hv0, hv1⟩⟩
  · replace hF := iteF hF hc
    refine T.skip ?_
    refine T.norm ?_
    refine T.seq ?_
    refine T.region mix 6 [11, 12, 13, 14, 19, 20] [0, 1, 0, 4, 3, 31] [(sp ((TP Y25).sv x0.1)), (sp (Y25.sv x0.1)), (sp ((TP Y25).sv x0.2.1)), (sp (Y25.sv x0.2.1)), (sT 1 (fun _ => (boxR 29 Y25 x0.1 (vs1 1)))), (sT 2 (fun _ => (boxR 29 Y25 x0.2.1 (vs1 2))))] (by kernel_rfl) (AOK.cons (fun ρ a w hs hz hΓ hp => gp (d_fieldP fa40_0 (hΓ 2 rfl) (At.fst (At.refl _ _)))) (AOK.cons (fun ρ a w hs hz hΓ hp => gp (d_load y29 hs.le (hp 0 _ rfl rfl).1)) (AOK.cons (fun ρ a w hs hz hΓ hp => gp (d_fieldP fa40_1 (hΓ 2 rfl) (At.fst (At.snd (At.refl _ _))))) (AOK.cons (fun ρ a w hs hz hΓ hp => gp (d_load y29 hs.le (hp 2 _ rfl rfl).1)) (AOK.consT (fun ρ a w hs hz hΓ hp => gt_store hs 1 y29 rfl (.inl ⟨(hΓ 4 rfl).1, rfl⟩) ((hp 1 _ rfl rfl).1) (At.refl Y25 (List.replicate 2 0)) rfl rfl) (AOK.consT (fun ρ a w hs hz hΓ hp => gt_store hs 2 y29 rfl (.inl ⟨(hΓ 5 rfl).1, rfl⟩) ((hp 3 _ rfl rfl).1) (At.refl Y25 (List.replicate 2 0)) rfl rfl) AOK.nil rfl) rfl) rfl) rfl) rfl) rfl) (fun vs4 => ?_)
    refine T.nil ?_
    refine T.norm ?_
    refine T.ret ?_
    obtain rfl := Option.some.inj hF
    refine T.fin0 fun ρ a w st => ?_
    obtain ⟨q0, hr0, hv0⟩ := rv_cell y29 st.sat 1 rfl (st.env 4).1
    obtain ⟨q1, hr1, hv1⟩ := rv_cell y29 st.sat 2 rfl (st.env 5).1
    exact ⟨_, results_two rfl hr0 hr1, ⟨_, _, rfl, hv0, hv1⟩⟩

theorem c94 (w : World) (v0 v1 v2 v3 : Value) {σ : Heap} (hσ : σ.le (snap w)) {x0 : (List ((List Int) × (List Int) × Int))} {x1 : (List Int)} {x2 : (List Bool)} {x3 : (List Int)} {r : Int} (hF : impl_way x0 x1 x2 x3 = some r) (h0 : Y77.val σ v0 x0) (h1 : Y78.val σ v1 x1) (h2 : Y79.val σ v2 x2) (h3 : Y25.val σ v3 x3) :
    Calls Try.prog 94 #[v0, v1, v2, v3] w (Ret [] w σ ((TI .i64).sv r) []) := by
  unfold impl_way at hF
  refine start (args := [v0, v1, v2, v3]) Try.func94 rfl 41 rfl [] [(0, (Y77.sv x0)), (1, (Y78.sv x1)), (2, (Y79.sv x2)), (3, (Y25.sv x3))] [] (sat_start _ hσ) rfl (args1 rfl h0 (args1 rfl h1 (args1 rfl h2 (args1 rfl h3 (args0))))) ?_
  refine T.seq ?_
  refine T.region mix 2 [7, 8] [0, 0] [(sO SRel.any [(1, (boxR 29 Y25 x3))]), (sp ((TI .i64).sv 0))] (by kernel_rfl) (AOK.cons (fun ρ a w hs hz hΓ hp => g_box hs.le (hΓ 3 rfl)) (AOK.cons (fun ρ a w hs hz hΓ hp => gp (d_assign (vI rfl))) AOK.nil rfl) rfl) (fun vs1 => ?_)
  refine T.nil ?_
  refine T.norm ?_
  refine T.seq ?_
  refine T.region mix 1 [9] [0] [(sp ((TI .i64).sv 0))] (by kernel_rfl) (AOK.cons (fun ρ a w hs hz hΓ hp => gp (d_assign (vI rfl))) AOK.nil rfl) (fun vs2 => ?_)
  refine T.nil ?_
  refine T.norm ?_
  refine T.seq ?_
  refine T.seq ?_
  refine T.region mix 3 [14, 15, 16] [0, 1, 0] [(sp (Y78.sv x1)), (sp ((TI .i64).sv (x1.length : Int))), (sp ((TI .i64).sv 0))] (by kernel_rfl) (AOK.cons (fun ρ a w hs hz hΓ hp => gp (d_move (hΓ 1 rfl))) (AOK.cons (fun ρ a w hs hz hΓ hp => gp (d_lenR u78 (hp 0 _ rfl rfl).1)) (AOK.cons (fun ρ a w hs hz hΓ hp => gp (d_move (vI rfl))) AOK.nil rfl) rfl) rfl) (fun vs3 => ?_)
  refine T.nil ?_
  refine T.norm ?_
  obtain ⟨yl4, e5, hF⟩ := bindS hF
  refine T.joinD (ι := (Int × Int × (List Int)) × (Unit)) (fun p => yl4 = p.1) (Γ' := fun p => E [(9, ((TI .i64).sv p.1.1))]) (H' := fun p => HL [(1, (boxR 29 Y25 p.1.2.2 (vs1 0)))]) (fun p hy => ?_) (fun hk => ?_)
  · obtain ⟨⟨o9, o16, or1⟩, _⟩ := p
    cases hy
    refine T.norm ?_
    refine T.seq ?_
    refine T.region mix 2 [40, 8] [0, 1] [(sp ((TI .i64).sv o9)), (sp ((TI .i64).sv o9))] (by kernel_rfl) (AOK.cons (fun ρ a w hs hz hΓ hp => gp (d_move (hΓ 9 rfl))) (AOK.cons (fun ρ a w hs hz hΓ hp => gp (d_assign (hp 0 _ rfl rfl).1)) AOK.nil rfl) rfl) (fun vs6 => ?_)
    refine T.nil ?_
    refine T.norm ?_
    refine T.ret ?_
    obtain rfl := Option.some.inj hF
    refine T.fin0 fun ρ a w st => ?_
    exact ⟨_, results_one rfl rfl, (st.env 8)⟩
  · skip
    refine T.block ?_
    refine T.loop (f := impl_way_l1 x0 x1 x2) (σ := (Int × Int × (List Int))) (Z := Unit) (fun s z => E [(0, (Y77.sv x0)), (2, (Y79.sv x2)), (7, (SRel.eq (vs1 0))), (9, ((TI .i64).sv s.1)), (14, (Y78.sv x1)), (15, ((TI .i64).sv (x1.length : Int))), (16, ((TI .i64).sv s.2.1))]) (fun s z => HL [(1, (boxR 29 Y25 s.2.2 (vs1 0)))]) e5 () (fun φ h => T.toh h ⟨fun _ _ h => h, fun _ _ h => h, fun _ _ h => h.1, fun _ _ h => h, fun _ _ h => h, fun _ _ h => h, fun _ _ h => h, trivial⟩ ⟨rfl, trivial⟩) (fun k s z uu4 hu4 hn4 => ?_)
    obtain ⟨s9, s16, sr1⟩ := s
    dsimp only [impl_way_l1] at hu4
    refine T.seq ?_
    refine T.region mix 1 [17] [0] [(sp (TB.sv (decide (s16 < (x1.length : Int)))))] (by kernel_rfl) (AOK.cons (fun ρ a w hs hz hΓ hp => gp (d_lss (hΓ 16 rfl) (hΓ 15 rfl))) AOK.nil rfl) (fun vs7 => ?_)
    refine T.nil ?_
    refine T.norm ?_
    refine T.seq ?_
    refine T.cond (b := (decide (s16 < (x1.length : Int)))) (fun _ _ h => h) (fun hc => ?_) (fun hc => ?_)
    · replace hu4 := iteT hu4 hc
      refine T.skip ?_
      refine T.norm ?_
      refine T.seq ?_
      refine T.block ?_
      refine T.seq ?_
      obtain ⟨x19, e9, hu4⟩ := bindS hu4
      refine T.region mix 5 [18, 19, 20, 10, 11] [0, 0, 2, 7, 15] [(sp ((TI .i64).sv s16)), (sp ((TP (TI .i64)).sv x19)), (sp ((TI .i64).sv x19)), (sp ((TI .i64).sv s16)), (sp ((TI .i64).sv x19))] (by kernel_rfl) (AOK.cons (fun ρ a w hs hz hΓ hp => gp (d_move (hΓ 16 rfl))) (AOK.cons (fun ρ a w hs hz hΓ hp => gp (d_idxR u78 y2 (hΓ 14 rfl) (hΓ 16 rfl) e9)) (AOK.cons (fun ρ a w hs hz hΓ hp => gp (d_load y2 hs.le (hp 1 _ rfl rfl).1)) (AOK.cons (fun ρ a w hs hz hΓ hp => gp (d_assign (hp 0 _ rfl rfl).1)) (AOK.cons (fun ρ a w hs hz hΓ hp => gp (d_assign (hp 2 _ rfl rfl).1)) AOK.nil rfl) rfl) rfl) rfl) rfl) (fun vs8 => ?_)
      refine T.nil ?_
      refine T.norm ?_
      refine T.seq ?_
      obtain ⟨x24, e11, hu4⟩ := bindS hu4
      obtain ⟨x28, e12, hu4⟩ := bindS hu4
      obtain ⟨x30, e13, hu4⟩ := bindS hu4
      refine T.region mix 16 [22, 23, 24, 25, 26, 27, 28, 29, 30, 21, 31, 32, 12, 13, 55, 56] [0, 0, 3, 7, 0, 0, 48, 112, 255, 511, 1023, 1023, 0, 0, 14335, 32767] [(sp (Y77.sv x0)), (sp ((TI .i64).sv x19)), (sp ((TP Y36).sv x24)), (sp (Y36.sv x24)), (sp (Y79.sv x2)), (sp ((TI .i64).sv s16)), (sp ((TP TB).sv x28)), (sp (TB.sv x28)), (sp (SRel.tup2 (Y25.sv x30.1) (Y25.sv x30.2))), (sp (SRel.tup2 (Y25.sv x30.1) (Y25.sv x30.2))), (sp (Y25.sv x30.1)), (sp (Y25.sv x30.2)), (sO SRel.any [(2, (boxR 29 Y25 (List.replicate 2 0)))]), (sO SRel.any [(3, (boxR 29 Y25 (List.replicate 2 0)))]), (sM 2 12 (boxR 29 Y25 x30.1)), (sM 3 13 (boxR 29 Y25 x30.2))] (by kernel_rfl) (AOK.cons (fun ρ a w hs hz hΓ hp => gp (d_move (hΓ 0 rfl))) (AOK.cons (fun ρ a w hs hz hΓ hp => gp (d_move (hΓ 11 rfl))) (AOK.cons (fun ρ a w hs hz hΓ hp => gp (d_idxR u83 y40 (hp 0 _ rfl rfl).1 (hp 1 _ rfl rfl).1 e11)) (AOK.cons (fun ρ a w hs hz hΓ hp => gp (d_load y40 hs.le (hp 2 _ rfl rfl).1)) (AOK.cons (fun ρ a w hs hz hΓ hp => gp (d_move (hΓ 2 rfl))) (AOK.cons (fun ρ a w hs hz hΓ hp => gp (d_move (hΓ 10 rfl))) (AOK.cons (fun ρ a w hs hz hΓ hp => gp (d_idxR u79 y4 (hp 4 _ rfl rfl).1 (hp 5 _ rfl rfl).1 e12)) (AOK.cons (fun ρ a w hs hz hΓ hp => gp (d_load y4 hs.le (hp 6 _ rfl rfl).1)) (AOK.cons (fun ρ a w hs hz hΓ hp => gp (d_call fn123 hs.le mapA2 (c123 w _ _ hs.le e13 ((hp 3 _ rfl rfl).1) ((hp 7 _ rfl rfl).1)))) (AOK.cons (fun ρ a w hs hz hΓ hp => gp (d_move (hp 8 _ rfl rfl).1)) (AOK.cons (fun ρ a w hs hz hΓ hp => gp (d_extract2_0 (hp 9 _ rfl rfl).1)) (AOK.cons (fun ρ a w hs hz hΓ hp => gp (d_extract2_1 (hp 9 _ rfl rfl).1)) (AOK.cons (fun ρ a w hs hz hΓ hp => g_alloc hs.le z29 zc29) (AOK.cons (fun ρ a w hs hz hΓ hp => g_alloc hs.le z29 zc29) (AOK.consT (fun ρ a w hs hz hΓ hp => gt_store hs 2 y29 rfl (.inl ⟨rfl, rfl⟩) ((hp 10 _ rfl rfl).1) (At.refl Y25 (List.replicate 2 0)) rfl rfl) (AOK.consT (fun ρ a w hs hz hΓ hp => gt_store hs 3 y29 rfl (.inl ⟨rfl, rfl⟩) ((hp 11 _ rfl rfl).1) (At.refl Y25 (List.replicate 2 0)) rfl rfl) AOK.nil rfl) rfl) rfl) rfl) rfl) rfl) rfl) rfl) rfl) rfl) rfl) rfl) rfl) rfl) rfl) rfl) (fun vs10 => ?_)
      refine T.nil ?_
      refine T.norm ?_
      refine T.seq ?_
      obtain ⟨x36, e15, hu4⟩ := bindS hu4
      refine T.region mix 6 [33, 34, 35, 36, 37, 9] [0, 0, 0, 6, 15, 31] [(sp ((TI .i64).sv s9)), (sp (Y25.sv sr1)), (sp (Y25.sv x30.1)), (sp ((TI .i64).sv x36)), (sp ((TI .i64).sv (IntKind.i64.wrap (s9 + x36)))), (sp ((TI .i64).sv (IntKind.i64.wrap (s9 + x36))))] (by kernel_rfl) (AOK.cons (fun ρ a w hs hz hΓ hp => gp (d_move (hΓ 9 rfl))) (AOK.cons (fun ρ a w hs hz hΓ hp => gp (d_loadO y29 hs 1 rfl (.inl ⟨(hΓ 7 rfl), rfl⟩) (At.refl Y25 sr1))) (AOK.cons (fun ρ a w hs hz hΓ hp => gp (d_loadO y29 hs 2 rfl (.inl ⟨(hΓ 12 rfl).1, rfl⟩) (At.refl Y25 x30.1))) (AOK.cons (fun ρ a w hs hz hΓ hp => gp (d_call fn20 hs.le mapA2 (c20 w _ _ hs.le e15 ((hp 1 _ rfl rfl).1) ((hp 2 _ rfl rfl).1)))) (AOK.cons (fun ρ a w hs hz hΓ hp => gp (d_add (hp 0 _ rfl rfl).1 (hp 3 _ rfl rfl).1)) (AOK.cons (fun ρ a w hs hz hΓ hp => gp (d_assign (hp 4 _ rfl rfl).1)) AOK.nil rfl) rfl) rfl) rfl) rfl) rfl) (fun vs14 => ?_)
      refine T.nil ?_
      refine T.norm ?_
      refine T.region mix 1 [38] [0, 1] [(sp (Y25.sv x30.2))] (by kernel_rfl) (AOK.cons (fun ρ a w hs hz hΓ hp => gp (d_loadO y29 hs 3 rfl (.inl ⟨(hΓ 13 rfl).1, rfl⟩) (At.refl Y25 x30.2))) AOK.nil rfl) (fun vs16 => ?_)
      refine T.store 1 y29 rfl (fun ρ a w st => ⟨.inl ⟨(st.env 7), rfl⟩, (st.env 38)⟩) (At.refl Y25 sr1) ?_
      refine T.nil ?_
      refine T.fallX ?_
      refine T.norm ?_
      refine T.region mix 2 [39, 16] [0, 1] [(sp ((TI .i64).sv (IntKind.i64.wrap (s16 + 1)))), (sp ((TI .i64).sv (IntKind.i64.wrap (s16 + 1))))] (by kernel_rfl) (AOK.cons (fun ρ a w hs hz hΓ hp => gp (d_add (hΓ 16 rfl) (vI rfl))) (AOK.cons (fun ρ a w hs hz hΓ hp => gp (d_move (hp 0 _ rfl rfl).1)) AOK.nil rfl) rfl) (fun vs17 => ?_)
      refine T.nil ?_
      obtain rfl := Option.some.inj hu4
      exact T.again hn4 () (fun φ h => T.toh h ⟨fun _ _ h => h, fun _ _ h => h, fun _ _ h => h, fun _ _ h => h, fun _ _ h => h, fun _ _ h => h, fun _ _ h => h, trivial⟩ ⟨rfl, trivial⟩)
    · replace hu4 := iteF hu4 hc
      refine T.exit ?_
      obtain rfl := Option.some.inj hu4
      repeat (first | refine T.passX ?_ | refine T.inX (by decide) ?_)
      refine T.hereX ?_
      exact T.toh (hk ((s9, s16, sr1), ()) (Eq.symm hn4)) ⟨fun _ _ h => h, trivial⟩ ⟨rfl, trivial⟩

theorem c53 (w : World) (v0 v1 v2 v3 : Value) {σ : Heap} (hσ : σ.le (snap w)) {x0 : (List ((List Int) × (List Int) × Int))} {x1 : (List Int)} {x2 : (List Bool)} {x3 : (List Int)} {r : (Int × Int)} (hF : impl_WayOf x0 x1 x2 x3 = some r) (h0 : Y77.val σ v0 x0) (h1 : Y78.val σ v1 x1) (h2 : Y79.val σ v2 x2) (h3 : Y25.val σ v3 x3) :
    Calls Try.prog 53 #[v0, v1, v2, v3] w (Ret [] w σ (SRel.tup2 ((TI .i64).sv r.1) ((TI .i64).sv r.2)) []) := by
  unfold impl_WayOf at hF
  refine start (args := [v0, v1, v2, v3]) Try.func53 rfl 24 rfl [] [(0, (Y77.sv x0)), (1, (Y78.sv x1)), (2, (Y79.sv x2)), (3, (Y25.sv x3))] [] (sat_start _ hσ) rfl (args1 rfl h0 (args1 rfl h1 (args1 rfl h2 (args1 rfl h3 (args0))))) ?_
  refine T.seq ?_
  refine T.region mix 3 [7, 8, 9] [0, 0, 2] [(sp ((TP Y25).sv x3)), (sp ((TI .i64).sv 0)), (sp ((TI .i64).sv 0))] (by kernel_rfl) (AOK.cons (fun ρ a w hs hz hΓ hp => gp (d_box hs.le (hΓ 3 rfl))) (AOK.cons (fun ρ a w hs hz hΓ hp => gp (d_assign (vI rfl))) (AOK.cons (fun ρ a w hs hz hΓ hp => gp (d_assign (vI rfl))) AOK.nil rfl) rfl) rfl) (fun vs1 => ?_)
  refine T.nil ?_
  refine T.norm ?_
  refine T.seq ?_
  refine T.seq ?_
  obtain ⟨x15, e3, hF⟩ := bindS hF
  refine T.region mix 6 [11, 12, 13, 14, 15, 10] [0, 0, 0, 0, 15, 31] [(sp (Y77.sv x0)), (sp (Y78.sv x1)), (sp (Y79.sv x2)), (sp (Y25.sv x3)), (sp ((TI .i64).sv x15)), (sp ((TI .i64).sv x15))] (by kernel_rfl) (AOK.cons (fun ρ a w hs hz hΓ hp => gp (d_move (hΓ 0 rfl))) (AOK.cons (fun ρ a w hs hz hΓ hp => gp (d_move (hΓ 1 rfl))) (AOK.cons (fun ρ a w hs hz hΓ hp => gp (d_move (hΓ 2 rfl))) (AOK.cons (fun ρ a w hs hz hΓ hp => gp (d_load y29 hs.le (hΓ 7 rfl))) (AOK.cons (fun ρ a w hs hz hΓ hp => gp (d_call fn93 hs.le mapA5 (c93 w _ _ _ _ _ hs.le e3 ((hp 0 _ rfl rfl).1) ((hp 1 _ rfl rfl).1) ((hp 2 _ rfl rfl).1) ((hp 3 _ rfl rfl).1) (vB _)))) (AOK.cons (fun ρ a w hs hz hΓ hp => gp (d_assign (hp 4 _ rfl rfl).1)) AOK.nil rfl) rfl) rfl) rfl) rfl) rfl) (fun vs2 => ?_)
  refine T.nil ?_
  refine T.norm ?_
  refine T.seq ?_
  refine T.region mix 2 [16, 17] [0, 1] [(sp ((TI .i64).sv x15)), (sp (TB.sv (decide (x15 ≠ 0))))] (by kernel_rfl) (AOK.cons (fun ρ a w hs hz hΓ hp => gp (d_move (hΓ 10 rfl))) (AOK.cons (fun ρ a w hs hz hΓ hp => gp (d_neq (hp 0 _ rfl rfl).1 (vI rfl))) AOK.nil rfl) rfl) (fun vs4 => ?_)
  refine T.nil ?_
  refine T.norm ?_
  refine T.cond (b := (decide (x15 ≠ 0))) (fun _ _ h => h) (fun hc => ?_) (fun hc => ?_)
  · replace hF := iteT hF hc
    refine T.seq ?_
    refine T.region mix 3 [18, 8, 9] [0, 0, 3] [(sp ((TI .i64).sv x15)), (sp ((TI .i64).sv 0)), (sp ((TI .i64).sv x15))] (by kernel_rfl) (AOK.cons (fun ρ a w hs hz hΓ hp => gp (d_move (hΓ 10 rfl))) (AOK.cons (fun ρ a w hs hz hΓ hp => gp (d_assign (vI rfl))) (AOK.cons (fun ρ a w hs hz hΓ hp => gp (d_assign (hp 0 _ rfl rfl).1)) AOK.nil rfl) rfl) rfl) (fun vs5 => ?_)
    refine T.nil ?_
    refine T.norm ?_
    refine T.ret ?_
    obtain rfl := Option.some.inj hF
    refine T.fin0 fun ρ a w st => ?_
    exact ⟨_, results_two rfl rfl rfl, ⟨_, _, rfl, (st.env 8), (st.env 9)⟩⟩
  · replace hF := iteF hF hc
    refine T.skip ?_
    refine T.norm ?_
    refine T.seq ?_
    obtain ⟨x23, e7, hF⟩ := bindS hF
    refine T.region mix 7 [19, 20, 21, 22, 23, 8, 9] [0, 0, 0, 0, 15, 31, 63] [(sp (Y77.sv x0)), (sp (Y78.sv x1)), (sp (Y79.sv x2)), (sp (Y25.sv x3)), (sp ((TI .i64).sv x23)), (sp ((TI .i64).sv x23)), (sp ((TI .i64).sv 0))] (by kernel_rfl) (AOK.cons (fun ρ a w hs hz hΓ hp => gp (d_move (hΓ 0 rfl))) (AOK.cons (fun ρ a w hs hz hΓ hp => gp (d_move (hΓ 1 rfl))) (AOK.cons (fun ρ a w hs hz hΓ hp => gp (d_move (hΓ 2 rfl))) (AOK.cons (fun ρ a w hs hz hΓ hp => gp (d_load y29 hs.le (hΓ 7 rfl))) (AOK.cons (fun ρ a w hs hz hΓ hp => gp (d_call fn94 hs.le mapA4 (c94 w _ _ _ _ hs.le e7 ((hp 0 _ rfl rfl).1) ((hp 1 _ rfl rfl).1) ((hp 2 _ rfl rfl).1) ((hp 3 _ rfl rfl).1)))) (AOK.cons (fun ρ a w hs hz hΓ hp => gp (d_assign (hp 4 _ rfl rfl).1)) (AOK.cons (fun ρ a w hs hz hΓ hp => gp (d_assign (vI rfl))) AOK.nil rfl) rfl) rfl) rfl) rfl) rfl) rfl) (fun vs6 => ?_)
    refine T.nil ?_
    refine T.norm ?_
    refine T.ret ?_
    obtain rfl := Option.some.inj hF
    refine T.fin0 fun ρ a w st => ?_
    exact ⟨_, results_two rfl rfl rfl, ⟨_, _, rfl, (st.env 8), (st.env 9)⟩⟩

theorem c55 (w : World) (v0 v1 : Value) {σ : Heap} (hσ : σ.le (snap w)) {x0 : (List Int)} {x1 : (List Int)} {r : Bool} (hF : laws_eqInt64S x0 x1 = some r) (h0 : Y78.val σ v0 x0) (h1 : Y78.val σ v1 x1) :
    Calls Try.prog 55 #[v0, v1] w (Ret [] w σ (TB.sv r) []) := by
  unfold laws_eqInt64S at hF
  refine start (args := [v0, v1]) Try.func55 rfl 26 rfl [] [(0, (Y78.sv x0)), (1, (Y78.sv x1))] [] (sat_start _ hσ) rfl (args1 rfl h0 (args1 rfl h1 (args0))) ?_
  refine T.seq ?_
  refine T.region mix 1 [4] [0] [(sp (TB.sv false))] (by kernel_rfl) (AOK.cons (fun ρ a w hs hz hΓ hp => gp (d_assign (vB _))) AOK.nil rfl) (fun vs1 => ?_)
  refine T.nil ?_
  refine T.norm ?_
  refine T.seq ?_
  refine T.seq ?_
  refine T.region mix 5 [6, 7, 8, 9, 10] [0, 1, 0, 4, 15] [(sp (Y78.sv x0)), (sp ((TI .i64).sv (x0.length : Int))), (sp (Y78.sv x1)), (sp ((TI .i64).sv (x1.length : Int))), (sp (TB.sv (decide ((x0.length : Int) ≠ (x1.length : Int)))))] (by kernel_rfl) (AOK.cons (fun ρ a w hs hz hΓ hp => gp (d_move (hΓ 0 rfl))) (AOK.cons (fun ρ a w hs hz hΓ hp => gp (d_lenR u78 (hp 0 _ rfl rfl).1)) (AOK.cons (fun ρ a w hs hz hΓ hp => gp (d_move (hΓ 1 rfl))) (AOK.cons (fun ρ a w hs hz hΓ hp => gp (d_lenR u78 (hp 2 _ rfl rfl).1)) (AOK.cons (fun ρ a w hs hz hΓ hp => gp (d_neq (hp 1 _ rfl rfl).1 (hp 3 _ rfl rfl).1)) AOK.nil rfl) rfl) rfl) rfl) rfl) (fun vs2 => ?_)
  refine T.nil ?_
  refine T.norm ?_
  refine T.cond (b := (decide ((x0.length : Int) ≠ (x1.length : Int)))) (fun _ _ h => h) (fun hc => ?_) (fun hc => ?_)
  · replace hF := iteT hF hc
    refine T.seq ?_
    refine T.region mix 1 [4] [0] [(sp (TB.sv false))] (by kernel_rfl) (AOK.cons (fun ρ a w hs hz hΓ hp => gp (d_assign (vB _))) AOK.nil rfl) (fun vs3 => ?_)
    refine T.nil ?_
    refine T.norm ?_
    refine T.ret ?_
    obtain rfl := Option.some.inj hF
    refine T.fin0 fun ρ a w st => ?_
    exact ⟨_, results_one rfl rfl, (st.env 4)⟩
  · replace hF := iteF hF hc
    refine T.skip ?_
    refine T.norm ?_
    refine T.seq ?_
    refine T.seq ?_
    refine T.region mix 1 [5] [0] [(sp ((TI .i64).sv 0))] (by kernel_rfl) (AOK.cons (fun ρ a w hs hz hΓ hp => gp (d_assign (vI rfl))) AOK.nil rfl) (fun vs4 => ?_)
    refine T.nil ?_
    refine T.norm ?_
    obtain ⟨yl5, e6, hF⟩ := bindS hF
    refine T.joinD (ι := Int × (Unit)) (fun p => yl5 = .inl p.1) (Γ' := fun p => E []) (H' := fun p => HL []) (fun p hy => ?_) (fun hk => ?_)
    · obtain ⟨o5, _⟩ := p
      cases hy
      refine T.norm ?_
      refine T.seq ?_
      refine T.region mix 1 [4] [0] [(sp (TB.sv true))] (by kernel_rfl) (AOK.cons (fun ρ a w hs hz hΓ hp => gp (d_assign (vB _))) AOK.nil rfl) (fun vs7 => ?_)
      refine T.nil ?_
      refine T.norm ?_
      refine T.ret ?_
      obtain rfl := Option.some.inj hF
      refine T.fin0 fun ρ a w st => ?_
      exact ⟨_, results_one rfl rfl, (st.env 4)⟩
    · skip
      refine T.block ?_
      refine T.loop (f := laws_eqInt64S_l1 x0 x1) (σ := Int) (Z := Unit) (fun s z => E [(0, (Y78.sv x0)), (1, (Y78.sv x1)), (5, ((TI .i64).sv s))]) (fun s z => HL []) e6 () (fun φ h => T.toh h ⟨fun _ _ h => h, fun _ _ h => h, fun _ _ h => h, trivial⟩ trivial) (fun k s z uu5 hu5 hn5 => ?_)
      obtain ⟨s5, rfl⟩ : ∃ q, q = s := ⟨_, rfl⟩
      dsimp only [laws_eqInt64S_l1] at hu5
      refine T.seq ?_
      refine T.seq ?_
      refine T.region mix 4 [11, 12, 13, 14] [0, 0, 2, 7] [(sp ((TI .i64).sv s5)), (sp (Y78.sv x0)), (sp ((TI .i64).sv (x0.length : Int))), (sp (TB.sv (decide (s5 < (x0.length : Int)))))] (by kernel_rfl) (AOK.cons (fun ρ a w hs hz hΓ hp => gp (d_move (hΓ 5 rfl))) (AOK.cons (fun ρ a w hs hz hΓ hp => gp (d_move (hΓ 0 rfl))) (AOK.cons (fun ρ a w hs hz hΓ hp => gp (d_lenR u78 (hp 1 _ rfl rfl).1)) (AOK.cons (fun ρ a w hs hz hΓ hp => gp (d_lss (hp 0 _ rfl rfl).1 (hp 2 _ rfl rfl).1)) AOK.nil rfl) rfl) rfl) rfl) (fun vs8 => ?_)
      refine T.nil ?_
      refine T.norm ?_
      refine T.cond (b := (decide (s5 < (x0.length : Int)))) (fun _ _ h => h) (fun hc => ?_) (fun hc => ?_)
      · replace hu5 := iteT hu5 hc
        refine T.skip ?_
        refine T.norm ?_
        refine T.seq ?_
        refine T.block ?_
        refine T.seq ?_
        obtain ⟨x19, e10, hu5⟩ := bindS hu5
        obtain ⟨x23, e11, hu5⟩ := bindS hu5
        refine T.region mix 9 [17, 18, 19, 20, 21, 22, 23, 24, 25] [0, 0, 3, 7, 0, 0, 48, 112, 255] [(sp (Y78.sv x0)), (sp ((TI .i64).sv s5)), (sp ((TP (TI .i64)).sv x19)), (sp ((TI .i64).sv x19)), (sp (Y78.sv x1)), (sp ((TI .i64).sv s5)), (sp ((TP (TI .i64)).sv x23)), (sp ((TI .i64).sv x23)), (sp (TB.sv (decide (x19 ≠ x23))))] (by kernel_rfl) (AOK.cons (fun ρ a w hs hz hΓ hp => gp (d_move (hΓ 0 rfl))) (AOK.cons (fun ρ a w hs hz hΓ hp => gp (d_move (hΓ 5 rfl))) (AOK.cons (fun ρ a w hs hz hΓ hp => gp (d_idxR u78 y2 (hp 0 _ rfl rfl).1 (hp 1 _ rfl rfl).1 e10)) (AOK.cons (fun ρ a w hs hz hΓ hp => gp (d_load y2 hs.le (hp 2 _ rfl rfl).1)) (AOK.cons (fun ρ a w hs hz hΓ hp => gp (d_move (hΓ 1 rfl))) (AOK.cons (fun ρ a w hs hz hΓ hp => gp (d_move (hΓ 5 rfl))) (AOK.cons (fun ρ a w hs hz hΓ hp => gp (d_idxR u78 y2 (hp 4 _ rfl rfl).1 (hp 5 _ rfl rfl).1 e11)) (AOK.cons (fun ρ a w hs hz hΓ hp => gp (d_load y2 hs.le (hp 6 _ rfl rfl).1)) (AOK.cons (fun ρ a w hs hz hΓ hp => gp (d_neq (hp 3 _ rfl rfl).1 (hp 7 _ rfl rfl).1)) AOK.nil rfl) rfl) rfl) rfl) rfl) rfl) rfl) rfl) rfl) (fun vs9 => ?_)
        refine T.nil ?_
        refine T.norm ?_
        refine T.cond (b := (decide (x19 ≠ x23))) (fun _ _ h => h) (fun hc => ?_) (fun hc => ?_)
        · replace hu5 := iteT hu5 hc
          refine T.seq ?_
          refine T.region mix 1 [4] [0] [(sp (TB.sv false))] (by kernel_rfl) (AOK.cons (fun ρ a w hs hz hΓ hp => gp (d_assign (vB _))) AOK.nil rfl) (fun vs12 => ?_)
          refine T.nil ?_
          refine T.norm ?_
          refine T.ret ?_
          obtain rfl := Option.some.inj hu5
          cases hn5
          obtain rfl := Option.some.inj hF
          refine T.fin0 fun ρ a w st => ?_
          exact ⟨_, results_one rfl rfl, (st.env 4)⟩
        · replace hu5 := iteF hu5 hc
          refine T.skip ?_
          refine T.fallX ?_
          refine T.norm ?_
          refine T.region mix 3 [15, 16, 5] [0, 1, 3] [(sp ((TI .i64).sv s5)), (sp ((TI .i64).sv (IntKind.i64.wrap (s5 + 1)))), (sp ((TI .i64).sv (IntKind.i64.wrap (s5 + 1))))] (by kernel_rfl) (AOK.cons (fun ρ a w hs hz hΓ hp => gp (d_move (hΓ 5 rfl))) (AOK.cons (fun ρ a w hs hz hΓ hp => gp (d_add (hp 0 _ rfl rfl).1 (vI rfl))) (AOK.cons (fun ρ a w hs hz hΓ hp => gp (d_assign (hp 1 _ rfl rfl).1)) AOK.nil rfl) rfl) rfl) (fun vs13 => ?_)
          refine T.nil ?_
          obtain rfl := Option.some.inj hu5
          exact T.again hn5 () (fun φ h => T.toh h ⟨fun _ _ h => h, fun _ _ h => h, fun _ _ h => h, trivial⟩ trivial)
      · replace hu5 := iteF hu5 hc
        refine T.exit ?_
        obtain rfl := Option.some.inj hu5
        repeat (first | refine T.passX ?_ | refine T.inX (by decide) ?_)
        refine T.hereX ?_
        exact T.toh (hk (s5, ()) (Eq.symm hn5)) trivial trivial

theorem c56 (w : World) (v0 v1 : Value) {σ : Heap} (hσ : σ.le (snap w)) {x0 : (List Bool)} {x1 : (List Bool)} {r : Bool} (hF : laws_eqBoolS x0 x1 = some r) (h0 : Y79.val σ v0 x0) (h1 : Y79.val σ v1 x1) :
    Calls Try.prog 56 #[v0, v1] w (Ret [] w σ (TB.sv r) []) := by
  unfold laws_eqBoolS at hF
  refine start (args := [v0, v1]) Try.func56 rfl 26 rfl [] [(0, (Y79.sv x0)), (1, (Y79.sv x1))] [] (sat_start _ hσ) rfl (args1 rfl h0 (args1 rfl h1 (args0))) ?_
  refine T.seq ?_
  refine T.region mix 1 [4] [0] [(sp (TB.sv false))] (by kernel_rfl) (AOK.cons (fun ρ a w hs hz hΓ hp => gp (d_assign (vB _))) AOK.nil rfl) (fun vs1 => ?_)
  refine T.nil ?_
  refine T.norm ?_
  refine T.seq ?_
  refine T.seq ?_
  refine T.region mix 5 [6, 7, 8, 9, 10] [0, 1, 0, 4, 15] [(sp (Y79.sv x0)), (sp ((TI .i64).sv (x0.length : Int))), (sp (Y79.sv x1)), (sp ((TI .i64).sv (x1.length : Int))), (sp (TB.sv (decide ((x0.length : Int) ≠ (x1.length : Int)))))] (by kernel_rfl) (AOK.cons (fun ρ a w hs hz hΓ hp => gp (d_move (hΓ 0 rfl))) (AOK.cons (fun ρ a w hs hz hΓ hp => gp (d_lenR u79 (hp 0 _ rfl rfl).1)) (AOK.cons (fun ρ a w hs hz hΓ hp => gp (d_move (hΓ 1 rfl))) (AOK.cons (fun ρ a w hs hz hΓ hp => gp (d_lenR u79 (hp 2 _ rfl rfl).1)) (AOK.cons (fun ρ a w hs hz hΓ hp => gp (d_neq (hp 1 _ rfl rfl).1 (hp 3 _ rfl rfl).1)) AOK.nil rfl) rfl) rfl) rfl) rfl) (fun vs2 => ?_)
  refine T.nil ?_
  refine T.norm ?_
  refine T.cond (b := (decide ((x0.length : Int) ≠ (x1.length : Int)))) (fun _ _ h => h) (fun hc => ?_) (fun hc => ?_)
  · replace hF := iteT hF hc
    refine T.seq ?_
    refine T.region mix 1 [4] [0] [(sp (TB.sv false))] (by kernel_rfl) (AOK.cons (fun ρ a w hs hz hΓ hp => gp (d_assign (vB _))) AOK.nil rfl) (fun vs3 => ?_)
    refine T.nil ?_
    refine T.norm ?_
    refine T.ret ?_
    obtain rfl := Option.some.inj hF
    refine T.fin0 fun ρ a w st => ?_
    exact ⟨_, results_one rfl rfl, (st.env 4)⟩
  · replace hF := iteF hF hc
    refine T.skip ?_
    refine T.norm ?_
    refine T.seq ?_
    refine T.seq ?_
    refine T.region mix 1 [5] [0] [(sp ((TI .i64).sv 0))] (by kernel_rfl) (AOK.cons (fun ρ a w hs hz hΓ hp => gp (d_assign (vI rfl))) AOK.nil rfl) (fun vs4 => ?_)
    refine T.nil ?_
    refine T.norm ?_
    obtain ⟨yl5, e6, hF⟩ := bindS hF
    refine T.joinD (ι := Int × (Unit)) (fun p => yl5 = .inl p.1) (Γ' := fun p => E []) (H' := fun p => HL []) (fun p hy => ?_) (fun hk => ?_)
    · obtain ⟨o5, _⟩ := p
      cases hy
      refine T.norm ?_
      refine T.seq ?_
      refine T.region mix 1 [4] [0] [(sp (TB.sv true))] (by kernel_rfl) (AOK.cons (fun ρ a w hs hz hΓ hp => gp (d_assign (vB _))) AOK.nil rfl) (fun vs7 => ?_)
      refine T.nil ?_
      refine T.norm ?_
      refine T.ret ?_
      obtain rfl := Option.some.inj hF
      refine T.fin0 fun ρ a w st => ?_
      exact ⟨_, results_one rfl rfl, (st.env 4)⟩
    · skip
      refine T.block ?_
      refine T.loop (f := laws_eqBoolS_l1 x0 x1) (σ := Int) (Z := Unit) (fun s z => E [(0, (Y79.sv x0)), (1, (Y79.sv x1)), (5, ((TI .i64).sv s))]) (fun s z => HL []) e6 () (fun φ h => T.toh h ⟨fun _ _ h => h, fun _ _ h => h, fun _ _ h => h, trivial⟩ trivial) (fun k s z uu5 hu5 hn5 => ?_)
      obtain ⟨s5, rfl⟩ : ∃ q, q = s := ⟨_, rfl⟩
      dsimp only [laws_eqBoolS_l1] at hu5
      refine T.seq ?_
      refine T.seq ?_
      refine T.region mix 4 [11, 12, 13, 14] [0, 0, 2, 7] [(sp ((TI .i64).sv s5)), (sp (Y79.sv x0)), (sp ((TI .i64).sv (x0.length : Int))), (sp (TB.sv (decide (s5 < (x0.length : Int)))))] (by kernel_rfl) (AOK.cons (fun ρ a w hs hz hΓ hp => gp (d_move (hΓ 5 rfl))) (AOK.cons (fun ρ a w hs hz hΓ hp => gp (d_move (hΓ 0 rfl))) (AOK.cons (fun ρ a w hs hz hΓ hp => gp (d_lenR u79 (hp 1 _ rfl rfl).1)) (AOK.cons (fun ρ a w hs hz hΓ hp => gp (d_lss (hp 0 _ rfl rfl).1 (hp 2 _ rfl rfl).1)) AOK.nil rfl) rfl) rfl) rfl) (fun vs8 => ?_)
      refine T.nil ?_
      refine T.norm ?_
      refine T.cond (b := (decide (s5 < (x0.length : Int)))) (fun _ _ h => h) (fun hc => ?_) (fun hc => ?_)
      · replace hu5 := iteT hu5 hc
        refine T.skip ?_
        refine T.norm ?_
        refine T.seq ?_
        refine T.block ?_
        refine T.seq ?_
        obtain ⟨x19, e10, hu5⟩ := bindS hu5
        obtain ⟨x23, e11, hu5⟩ := bindS hu5
        refine T.region mix 9 [17, 18, 19, 20, 21, 22, 23, 24, 25] [0, 0, 3, 7, 0, 0, 48, 112, 255] [(sp (Y79.sv x0)), (sp ((TI .i64).sv s5)), (sp ((TP TB).sv x19)), (sp (TB.sv x19)), (sp (Y79.sv x1)), (sp ((TI .i64).sv s5)), (sp ((TP TB).sv x23)), (sp (TB.sv x23)), (sp (TB.sv (x19 != x23)))] (by kernel_rfl) (AOK.cons (fun ρ a w hs hz hΓ hp => gp (d_move (hΓ 0 rfl))) (AOK.cons (fun ρ a w hs hz hΓ hp => gp (d_move (hΓ 5 rfl))) (AOK.cons (fun ρ a w hs hz hΓ hp => gp (d_idxR u79 y4 (hp 0 _ rfl rfl).1 (hp 1 _ rfl rfl).1 e10)) (AOK.cons (fun ρ a w hs hz hΓ hp => gp (d_load y4 hs.le (hp 2 _ rfl rfl).1)) (AOK.cons (fun ρ a w hs hz hΓ hp => gp (d_move (hΓ 1 rfl))) (AOK.cons (fun ρ a w hs hz hΓ hp => gp (d_move (hΓ 5 rfl))) (AOK.cons (fun ρ a w hs hz hΓ hp => gp (d_idxR u79 y4 (hp 4 _ rfl rfl).1 (hp 5 _ rfl rfl).1 e11)) (AOK.cons (fun ρ a w hs hz hΓ hp => gp (d_load y4 hs.le (hp 6 _ rfl rfl).1)) (AOK.cons (fun ρ a w hs hz hΓ hp => gp (d_neqB u4 (hp 3 _ rfl rfl).1 (hp 7 _ rfl rfl).1)) AOK.nil rfl) rfl) rfl) rfl) rfl) rfl) rfl) rfl) rfl) (fun vs9 => ?_)
        refine T.nil ?_
        refine T.norm ?_
        refine T.cond (b := (x19 != x23)) (fun _ _ h => h) (fun hc => ?_) (fun hc => ?_)
        · replace hu5 := iteT hu5 hc
          refine T.seq ?_
          refine T.region mix 1 [4] [0] [(sp (TB.sv false))] (by kernel_rfl) (AOK.cons (fun ρ a w hs hz hΓ hp => gp (d_assign (vB _))) AOK.nil rfl) (fun vs12 => ?_)
          refine T.nil ?_
          refine T.norm ?_
          refine T.ret ?_
          obtain rfl := Option.some.inj hu5
          cases hn5
          obtain rfl := Option.some.inj hF
          refine T.fin0 fun ρ a w st => ?_
          exact ⟨_, results_one rfl rfl, (st.env 4)⟩
        · replace hu5 := iteF hu5 hc
          refine T.skip ?_
          refine T.fallX ?_
          refine T.norm ?_
          refine T.region mix 3 [15, 16, 5] [0, 1, 3] [(sp ((TI .i64).sv s5)), (sp ((TI .i64).sv (IntKind.i64.wrap (s5 + 1)))), (sp ((TI .i64).sv (IntKind.i64.wrap (s5 + 1))))] (by kernel_rfl) (AOK.cons (fun ρ a w hs hz hΓ hp => gp (d_move (hΓ 5 rfl))) (AOK.cons (fun ρ a w hs hz hΓ hp => gp (d_add (hp 0 _ rfl rfl).1 (vI rfl))) (AOK.cons (fun ρ a w hs hz hΓ hp => gp (d_assign (hp 1 _ rfl rfl).1)) AOK.nil rfl) rfl) rfl) (fun vs13 => ?_)
          refine T.nil ?_
          obtain rfl := Option.some.inj hu5
          exact T.again hn5 () (fun φ h => T.toh h ⟨fun _ _ h => h, fun _ _ h => h, fun _ _ h => h, trivial⟩ trivial)
      · replace hu5 := iteF hu5 hc
        refine T.exit ?_
        obtain rfl := Option.some.inj hu5
        repeat (first | refine T.passX ?_ | refine T.inX (by decide) ?_)
        refine T.hereX ?_
        exact T.toh (hk (s5, ()) (Eq.symm hn5)) trivial trivial

theorem c13 (w : World) (v0 v1 v2 v3 : Value) {σ : Heap} (hσ : σ.le (snap w)) {x0 : (List ((List Int) × (List Int) × Int))} {x1 : (List Int)} {x2 : (List Bool)} {x3 : (List Int)} {r : Bool} (hF : laws_FnExactWayOf x0 x1 x2 x3 = some r) (h0 : Y77.val σ v0 x0) (h1 : Y78.val σ v1 x1) (h2 : Y79.val σ v2 x2) (h3 : Y25.val σ v3 x3) :
    Calls Try.prog 13 #[v0, v1, v2, v3] w (Ret [] w σ (TB.sv r) []) := by
  unfold laws_FnExactWayOf at hF
  refine start (args := [v0, v1, v2, v3]) Try.func13 rfl 78 rfl [] [(0, (Y77.sv x0)), (1, (Y78.sv x1)), (2, (Y79.sv x2)), (3, (Y25.sv x3))] [] (sat_start _ hσ) rfl (args1 rfl h0 (args1 rfl h1 (args1 rfl h2 (args1 rfl h3 (args0))))) ?_
  refine T.seq ?_
  refine T.region mix 2 [7, 8] [0, 0] [(sp ((TP Y25).sv x3)), (sp (TB.sv false))] (by kernel_rfl) (AOK.cons (fun ρ a w hs hz hΓ hp => gp (d_box hs.le (hΓ 3 rfl))) (AOK.cons (fun ρ a w hs hz hΓ hp => gp (d_assign (vB _))) AOK.nil rfl) rfl) (fun vs1 => ?_)
  refine T.nil ?_
  refine T.norm ?_
  refine T.seq ?_
  refine T.seq ?_
  refine T.region mix 3 [17, 18, 19] [0, 1, 3] [(sp (Y78.sv x1)), (sp ((TI .i64).sv (x1.length : Int))), (sp (TB.sv (decide (1048576 < (x1.length : Int)))))] (by kernel_rfl) (AOK.cons (fun ρ a w hs hz hΓ hp => gp (d_move (hΓ 1 rfl))) (AOK.cons (fun ρ a w hs hz hΓ hp => gp (d_lenR u78 (hp 0 _ rfl rfl).1)) (AOK.cons (fun ρ a w hs hz hΓ hp => gp (d_gtr (hp 1 _ rfl rfl).1 (vI rfl))) AOK.nil rfl) rfl) rfl) (fun vs2 => ?_)
  refine T.nil ?_
  refine T.norm ?_
  refine T.cond (b := (decide (1048576 < (x1.length : Int)))) (fun _ _ h => h) (fun hc => ?_) (fun hc => ?_)
  · replace hF := iteT hF hc
    refine T.seq ?_
    refine T.region mix 1 [8] [0] [(sp (TB.sv true))] (by kernel_rfl) (AOK.cons (fun ρ a w hs hz hΓ hp => gp (d_assign (vB _))) AOK.nil rfl) (fun vs3 => ?_)
    refine T.nil ?_
    refine T.norm ?_
    refine T.ret ?_
    obtain rfl := Option.some.inj hF
    refine T.fin0 fun ρ a w st => ?_
    exact ⟨_, results_one rfl rfl, (st.env 8)⟩
  · replace hF := iteF hF hc
    refine T.skip ?_
    refine T.norm ?_
    refine T.seq ?_
    refine T.seq ?_
    refine T.region mix 3 [20, 21, 22] [0, 1, 3] [(sp (Y79.sv x2)), (sp ((TI .i64).sv (x2.length : Int))), (sp (TB.sv (decide (1048576 < (x2.length : Int)))))] (by kernel_rfl) (AOK.cons (fun ρ a w hs hz hΓ hp => gp (d_move (hΓ 2 rfl))) (AOK.cons (fun ρ a w hs hz hΓ hp => gp (d_lenR u79 (hp 0 _ rfl rfl).1)) (AOK.cons (fun ρ a w hs hz hΓ hp => gp (d_gtr (hp 1 _ rfl rfl).1 (vI rfl))) AOK.nil rfl) rfl) rfl) (fun vs4 => ?_)
    refine T.nil ?_
    refine T.norm ?_
    refine T.cond (b := (decide (1048576 < (x2.length : Int)))) (fun _ _ h => h) (fun hc => ?_) (fun hc => ?_)
    · replace hF := iteT hF hc
      refine T.seq ?_
      refine T.region mix 1 [8] [0] [(sp (TB.sv true))] (by kernel_rfl) (AOK.cons (fun ρ a w hs hz hΓ hp => gp (d_assign (vB _))) AOK.nil rfl) (fun vs5 => ?_)
      refine T.nil ?_
      refine T.norm ?_
      refine T.ret ?_
      obtain rfl := Option.some.inj hF
      refine T.fin0 fun ρ a w st => ?_
      exact ⟨_, results_one rfl rfl, (st.env 8)⟩
    · replace hF := iteF hF hc
      refine T.skip ?_
      refine T.norm ?_
      refine T.seq ?_
      refine T.region mix 1 [9] [0] [(sp ((TI .i64).sv 1048576))] (by kernel_rfl) (AOK.cons (fun ρ a w hs hz hΓ hp => gp (d_assign (vI rfl))) AOK.nil rfl) (fun vs6 => ?_)
      refine T.nil ?_
      refine T.norm ?_
      refine T.seq ?_
      obtain ⟨x25, e8, hF⟩ := bindS hF
      refine T.region mix 4 [23, 24, 25, 9] [0, 0, 3, 7] [(sp (Y77.sv x0)), (sp ((TI .i64).sv 1048576)), (sp ((TI .i64).sv x25)), (sp ((TI .i64).sv x25))] (by kernel_rfl) (AOK.cons (fun ρ a w hs hz hΓ hp => gp (d_move (hΓ 0 rfl))) (AOK.cons (fun ρ a w hs hz hΓ hp => gp (d_move (hΓ 9 rfl))) (AOK.cons (fun ρ a w hs hz hΓ hp => gp (d_call fn48 hs.le mapA2 (c48 w _ _ hs.le e8 ((hp 0 _ rfl rfl).1) ((hp 1 _ rfl rfl).1)))) (AOK.cons (fun ρ a w hs hz hΓ hp => gp (d_assign (hp 2 _ rfl rfl).1)) AOK.nil rfl) rfl) rfl) rfl) (fun vs7 => ?_)
      refine T.nil ?_
      refine T.norm ?_
      refine T.seq ?_
      refine T.seq ?_
      refine T.region mix 2 [26, 27] [0, 1] [(sp ((TI .i64).sv x25)), (sp (TB.sv (decide (x25 < 0))))] (by kernel_rfl) (AOK.cons (fun ρ a w hs hz hΓ hp => gp (d_move (hΓ 9 rfl))) (AOK.cons (fun ρ a w hs hz hΓ hp => gp (d_lss (hp 0 _ rfl rfl).1 (vI rfl))) AOK.nil rfl) rfl) (fun vs9 => ?_)
      refine T.nil ?_
      refine T.norm ?_
      refine T.cond (b := (decide (x25 < 0))) (fun _ _ h => h) (fun hc => ?_) (fun hc => ?_)
      · replace hF := iteT hF hc
        refine T.seq ?_
        refine T.region mix 1 [8] [0] [(sp (TB.sv true))] (by kernel_rfl) (AOK.cons (fun ρ a w hs hz hΓ hp => gp (d_assign (vB _))) AOK.nil rfl) (fun vs10 => ?_)
        refine T.nil ?_
        refine T.norm ?_
        refine T.ret ?_
        obtain rfl := Option.some.inj hF
        refine T.fin0 fun ρ a w st => ?_
        exact ⟨_, results_one rfl rfl, (st.env 8)⟩
      · replace hF := iteF hF hc
        refine T.skip ?_
        refine T.norm ?_
        refine T.seq ?_
        obtain ⟨x30, e12, hF⟩ := bindS hF
        obtain ⟨x32, e13, hF⟩ := bindS hF
        obtain ⟨x34, e14, hF⟩ := bindS hF
        obtain ⟨x36, e15, hF⟩ := bindS hF
        obtain ⟨x37, e16, hF⟩ := bindS hF
        refine T.region mix 14 [29, 30, 31, 32, 33, 34, 35, 36, 37, 28, 38, 39, 10, 11] [0, 1, 0, 7, 0, 31, 0, 127, 255, 511, 1023, 1023, 2047, 8191] [(sp (Y77.sv x0)), (sp (Y77.sv x30)), (sp (Y78.sv x1)), (sp (Y78.sv x32)), (sp (Y79.sv x2)), (sp (Y79.sv x34)), (sp (Y25.sv x3)), (sp (Y25.sv x36)), (sp (SRel.tup2 ((TI .i64).sv x37.1) ((TI .i64).sv x37.2))), (sp (SRel.tup2 ((TI .i64).sv x37.1) ((TI .i64).sv x37.2))), (sp ((TI .i64).sv x37.1)), (sp ((TI .i64).sv x37.2)), (sp ((TI .i64).sv x37.1)), (sp ((TI .i64).sv x37.2))] (by kernel_rfl) (AOK.cons (fun ρ a w hs hz hΓ hp => gp (d_move (hΓ 0 rfl))) (AOK.cons (fun ρ a w hs hz hΓ hp => gp (d_callR fn50 hs.le mapA1 (c50 w _ hs.le e12 ((hp 0 _ rfl rfl).1)))) (AOK.cons (fun ρ a w hs hz hΓ hp => gp (d_move (hΓ 1 rfl))) (AOK.cons (fun ρ a w hs hz hΓ hp => gp (d_callR fn51 hs.le mapA1 (c51 w _ hs.le e13 ((hp 2 _ rfl rfl).1)))) (AOK.cons (fun ρ a w hs hz hΓ hp => gp (d_move (hΓ 2 rfl))) (AOK.cons (fun ρ a w hs hz hΓ hp => gp (d_callR fn52 hs.le mapA1 (c52 w _ hs.le e14 ((hp 4 _ rfl rfl).1)))) (AOK.cons (fun ρ a w hs hz hΓ hp => gp (d_load y25 hs.le (hΓ 7 rfl))) (AOK.cons (fun ρ a w hs hz hΓ hp => gp (d_call fn17 hs.le mapA1 (c17 w _ hs.le e15 ((hp 6 _ rfl rfl).1)))) (AOK.cons (fun ρ a w hs hz hΓ hp => gp (d_call fn49 hs.le mapA4 (c49 w _ _ _ _ hs.le e16 ((hp 1 _ rfl rfl).1) ((hp 3 _ rfl rfl).1) ((hp 5 _ rfl rfl).1) ((hp 7 _ rfl rfl).1)))) (AOK.cons (fun ρ a w hs hz hΓ hp => gp (d_move (hp 8 _ rfl rfl).1)) (AOK.cons (fun ρ a w hs hz hΓ hp => gp (d_extract2_0 (hp 9 _ rfl rfl).1)) (AOK.cons (fun ρ a w hs hz hΓ hp => gp (d_extract2_1 (hp 9 _ rfl rfl).1)) (AOK.cons (fun ρ a w hs hz hΓ hp => gp (d_assign (hp 10 _ rfl rfl).1)) (AOK.cons (fun ρ a w hs hz hΓ hp => gp (d_assign (hp 11 _ rfl rfl).1)) AOK.nil rfl) rfl) rfl) rfl) rfl) rfl) rfl) rfl) rfl) rfl) rfl) rfl) rfl) rfl) (fun vs11 => ?_)
        refine T.nil ?_
        refine T.norm ?_
        refine T.seq ?_
        obtain ⟨x41, e18, hF⟩ := bindS hF
        refine T.region mix 3 [40, 41, 12] [0, 1, 3] [(sp (Y77.sv x0)), (sp (Y77.sv x41)), (sp (Y77.sv x41))] (by kernel_rfl) (AOK.cons (fun ρ a w hs hz hΓ hp => gp (d_move (hΓ 0 rfl))) (AOK.cons (fun ρ a w hs hz hΓ hp => gp (d_callR fn50 hs.le mapA1 (c50 w _ hs.le e18 ((hp 0 _ rfl rfl).1)))) (AOK.cons (fun ρ a w hs hz hΓ hp => gp (d_assign (hp 1 _ rfl rfl).1)) AOK.nil rfl) rfl) rfl) (fun vs17 => ?_)
        refine T.nil ?_
        refine T.norm ?_
        refine T.seq ?_
        obtain ⟨x43, e20, hF⟩ := bindS hF
        refine T.region mix 3 [42, 43, 13] [0, 1, 3] [(sp (Y78.sv x1)), (sp (Y78.sv x43)), (sp (Y78.sv x43))] (by kernel_rfl) (AOK.cons (fun ρ a w hs hz hΓ hp => gp (d_move (hΓ 1 rfl))) (AOK.cons (fun ρ a w hs hz hΓ hp => gp (d_callR fn51 hs.le mapA1 (c51 w _ hs.le e20 ((hp 0 _ rfl rfl).1)))) (AOK.cons (fun ρ a w hs hz hΓ hp => gp (d_assign (hp 1 _ rfl rfl).1)) AOK.nil rfl) rfl) rfl) (fun vs19 => ?_)
        refine T.nil ?_
        refine T.norm ?_
        refine T.seq ?_
        obtain ⟨x45, e22, hF⟩ := bindS hF
        refine T.region mix 3 [44, 45, 14] [0, 1, 3] [(sp (Y79.sv x2)), (sp (Y79.sv x45)), (sp (Y79.sv x45))] (by kernel_rfl) (AOK.cons (fun ρ a w hs hz hΓ hp => gp (d_move (hΓ 2 rfl))) (AOK.cons (fun ρ a w hs hz hΓ hp => gp (d_callR fn52 hs.le mapA1 (c52 w _ hs.le e22 ((hp 0 _ rfl rfl).1)))) (AOK.cons (fun ρ a w hs hz hΓ hp => gp (d_assign (hp 1 _ rfl rfl).1)) AOK.nil rfl) rfl) rfl) (fun vs21 => ?_)
        refine T.nil ?_
        refine T.norm ?_
        refine T.seq ?_
        obtain ⟨x51, e24, hF⟩ := bindS hF
        obtain ⟨x52, e25, hF⟩ := bindS hF
        refine T.region mix 11 [47, 48, 49, 50, 51, 52, 46, 53, 54, 15, 16] [0, 0, 0, 0, 8, 31, 63, 127, 127, 255, 1023] [(sp (Y77.sv x41)), (sp (Y78.sv x43)), (sp (Y79.sv x45)), (sp (Y25.sv x3)), (sp (Y25.sv x51)), (sp (SRel.tup2 ((TI .i64).sv x52.1) ((TI .i64).sv x52.2))), (sp (SRel.tup2 ((TI .i64).sv x52.1) ((TI .i64).sv x52.2))), (sp ((TI .i64).sv x52.1)), (sp ((TI .i64).sv x52.2)), (sp ((TI .i64).sv x52.1)), (sp ((TI .i64).sv x52.2))] (by kernel_rfl) (AOK.cons (fun ρ a w hs hz hΓ hp => gp (d_move (hΓ 12 rfl))) (AOK.cons (fun ρ a w hs hz hΓ hp => gp (d_move (hΓ 13 rfl))) (AOK.cons (fun ρ a w hs hz hΓ hp => gp (d_move (hΓ 14 rfl))) (AOK.cons (fun ρ a w hs hz hΓ hp => gp (d_load y25 hs.le (hΓ 7 rfl))) (AOK.cons (fun ρ a w hs hz hΓ hp => gp (d_call fn17 hs.le mapA1 (c17 w _ hs.le e24 ((hp 3 _ rfl rfl).1)))) (AOK.cons (fun ρ a w hs hz hΓ hp => gp (d_call fn53 hs.le mapA4 (c53 w _ _ _ _ hs.le e25 ((hp 0 _ rfl rfl).1) ((hp 1 _ rfl rfl).1) ((hp 2 _ rfl rfl).1) ((hp 4 _ rfl rfl).1)))) (AOK.cons (fun ρ a w hs hz hΓ hp => gp (d_move (hp 5 _ rfl rfl).1)) (AOK.cons (fun ρ a w hs hz hΓ hp => gp (d_extract2_0 (hp 6 _ rfl rfl).1)) (AOK.cons (fun ρ a w hs hz hΓ hp => gp (d_extract2_1 (hp 6 _ rfl rfl).1)) (AOK.cons (fun ρ a w hs hz hΓ hp => gp (d_assign (hp 7 _ rfl rfl).1)) (AOK.cons (fun ρ a w hs hz hΓ hp => gp (d_assign (hp 8 _ rfl rfl).1)) AOK.nil rfl) rfl) rfl) rfl) rfl) rfl) rfl) rfl) rfl) rfl) rfl) (fun vs23 => ?_)
        refine T.nil ?_
        refine T.norm ?_
        refine T.seq ?_
        refine T.seq ?_
        refine T.region mix 8 [55, 56, 57, 58, 59, 60, 61, 62] [0, 0, 3, 7, 15, 15, 63, 127] [(sp ((TI .i64).sv x52.1)), (sp ((TI .i64).sv x37.1)), (sp (TB.sv (decide (x52.1 ≠ x37.1)))), (sp (TB.sv (decide (x52.1 ≠ x37.1)))), (sp (SRel.when ((decide (x52.1 ≠ x37.1)) = false) ((TI .i64).sv x52.2))), (sp (SRel.when ((decide (x52.1 ≠ x37.1)) = false) ((TI .i64).sv x37.2))), (sp (SRel.when ((decide (x52.1 ≠ x37.1)) = false) (TB.sv (decide (x52.2 ≠ x37.2))))), (sp (TB.sv ((decide (x52.1 ≠ x37.1)) || (decide (x52.2 ≠ x37.2)))))] (by kernel_rfl) (AOK.cons (fun ρ a w hs hz hΓ hp => gp (d_move (hΓ 15 rfl))) (AOK.cons (fun ρ a w hs hz hΓ hp => gp (d_move (hΓ 10 rfl))) (AOK.cons (fun ρ a w hs hz hΓ hp => gp (d_neq (hp 0 _ rfl rfl).1 (hp 1 _ rfl rfl).1)) (AOK.cons (fun ρ a w hs hz hΓ hp => gp (d_move (hp 2 _ rfl rfl).1)) (AOK.cons (fun ρ a w hs hz hΓ hp => gg (g := 3) (d := 58) hz rfl (hp 3 _ rfl rfl).1 rfl (fun hc => d_move (hΓ 16 rfl))) (AOK.cons (fun ρ a w hs hz hΓ hp => gg (g := 3) (d := 58) hz rfl (hp 3 _ rfl rfl).1 rfl (fun hc => d_move (hΓ 11 rfl))) (AOK.cons (fun ρ a w hs hz hΓ hp => gg (g := 3) (d := 58) hz rfl (hp 3 _ rfl rfl).1 rfl (fun hc => d_neq ((hp 4 _ rfl rfl).1 hc) ((hp 5 _ rfl rfl).1 hc))) (AOK.cons (fun ρ a w hs hz hΓ hp => gp (d_pick (hp 3 _ rfl rfl).1 (fun hc => pON hc) (fun hc => pO hc ((hp 6 _ rfl rfl).1 hc)))) AOK.nil rfl) rfl) rfl) rfl) rfl) rfl) rfl) rfl) (fun vs26 => ?_)
        refine T.nil ?_
        refine T.norm ?_
        refine T.cond (b := ((decide (x52.1 ≠ x37.1)) || (decide (x52.2 ≠ x37.2)))) (fun _ _ h => h) (fun hc => ?_) (fun hc => ?_)
        · replace hF := iteT hF hc
          refine T.seq ?_
          refine T.region mix 1 [8] [0] [(sp (TB.sv false))] (by kernel_rfl) (AOK.cons (fun ρ a w hs hz hΓ hp => gp (d_assign (vB _))) AOK.nil rfl) (fun vs27 => ?_)
          refine T.nil ?_
          refine T.norm ?_
          refine T.ret ?_
          obtain rfl := Option.some.inj hF
          refine T.fin0 fun ρ a w st => ?_
          exact ⟨_, results_one rfl rfl, (st.env 8)⟩
        · replace hF := iteF hF hc
          refine T.skip ?_
          refine T.norm ?_
          refine T.seq ?_
          refine T.seq ?_
          obtain ⟨x65, e29, hF⟩ := bindS hF
          obtain ⟨x66, e30, hF⟩ := bindS hF
          refine T.region mix 5 [63, 64, 65, 66, 67] [0, 0, 2, 7, 15] [(sp (Y77.sv x41)), (sp (Y77.sv x0)), (sp (Y77.sv x65)), (sp (TB.sv x66)), (sp (TB.sv (!x66)))] (by kernel_rfl) (AOK.cons (fun ρ a w hs hz hΓ hp => gp (d_move (hΓ 12 rfl))) (AOK.cons (fun ρ a w hs hz hΓ hp => gp (d_move (hΓ 0 rfl))) (AOK.cons (fun ρ a w hs hz hΓ hp => gp (d_callR fn50 hs.le mapA1 (c50 w _ hs.le e29 ((hp 1 _ rfl rfl).1)))) (AOK.cons (fun ρ a w hs hz hΓ hp => gp (d_call fn54 hs.le mapA2 (c54 w _ _ hs.le e30 ((hp 0 _ rfl rfl).1) ((hp 2 _ rfl rfl).1)))) (AOK.cons (fun ρ a w hs hz hΓ hp => gp (d_not (hp 3 _ rfl rfl).1)) AOK.nil rfl) rfl) rfl) rfl) rfl) (fun vs28 => ?_)
          refine T.nil ?_
          refine T.norm ?_
          refine T.cond (b := (!x66)) (fun _ _ h => h) (fun hc => ?_) (fun hc => ?_)
          · replace hF := iteT hF hc
            refine T.seq ?_
            refine T.region mix 1 [8] [0] [(sp (TB.sv false))] (by kernel_rfl) (AOK.cons (fun ρ a w hs hz hΓ hp => gp (d_assign (vB _))) AOK.nil rfl) (fun vs31 => ?_)
            refine T.nil ?_
            refine T.norm ?_
            refine T.ret ?_
            obtain rfl := Option.some.inj hF
            refine T.fin0 fun ρ a w st => ?_
            exact ⟨_, results_one rfl rfl, (st.env 8)⟩
          · replace hF := iteF hF hc
            refine T.skip ?_
            refine T.norm ?_
            refine T.seq ?_
            refine T.seq ?_
            obtain ⟨x70, e33, hF⟩ := bindS hF
            obtain ⟨x71, e34, hF⟩ := bindS hF
            refine T.region mix 5 [68, 69, 70, 71, 72] [0, 0, 2, 7, 15] [(sp (Y78.sv x43)), (sp (Y78.sv x1)), (sp (Y78.sv x70)), (sp (TB.sv x71)), (sp (TB.sv (!x71)))] (by kernel_rfl) (AOK.cons (fun ρ a w hs hz hΓ hp => gp (d_move (hΓ 13 rfl))) (AOK.cons (fun ρ a w hs hz hΓ hp => gp (d_move (hΓ 1 rfl))) (AOK.cons (fun ρ a w hs hz hΓ hp => gp (d_callR fn51 hs.le mapA1 (c51 w _ hs.le e33 ((hp 1 _ rfl rfl).1)))) (AOK.cons (fun ρ a w hs hz hΓ hp => gp (d_call fn55 hs.le mapA2 (c55 w _ _ hs.le e34 ((hp 0 _ rfl rfl).1) ((hp 2 _ rfl rfl).1)))) (AOK.cons (fun ρ a w hs hz hΓ hp => gp (d_not (hp 3 _ rfl rfl).1)) AOK.nil rfl) rfl) rfl) rfl) rfl) (fun vs32 => ?_)
            refine T.nil ?_
            refine T.norm ?_
            refine T.cond (b := (!x71)) (fun _ _ h => h) (fun hc => ?_) (fun hc => ?_)
            · replace hF := iteT hF hc
              refine T.seq ?_
              refine T.region mix 1 [8] [0] [(sp (TB.sv false))] (by kernel_rfl) (AOK.cons (fun ρ a w hs hz hΓ hp => gp (d_assign (vB _))) AOK.nil rfl) (fun vs35 => ?_)
              refine T.nil ?_
              refine T.norm ?_
              refine T.ret ?_
              obtain rfl := Option.some.inj hF
              refine T.fin0 fun ρ a w st => ?_
              exact ⟨_, results_one rfl rfl, (st.env 8)⟩
            · replace hF := iteF hF hc
              refine T.skip ?_
              refine T.norm ?_
              refine T.seq ?_
              refine T.seq ?_
              obtain ⟨x75, e37, hF⟩ := bindS hF
              obtain ⟨x76, e38, hF⟩ := bindS hF
              refine T.region mix 5 [73, 74, 75, 76, 77] [0, 0, 2, 7, 15] [(sp (Y79.sv x45)), (sp (Y79.sv x2)), (sp (Y79.sv x75)), (sp (TB.sv x76)), (sp (TB.sv (!x76)))] (by kernel_rfl) (AOK.cons (fun ρ a w hs hz hΓ hp => gp (d_move (hΓ 14 rfl))) (AOK.cons (fun ρ a w hs hz hΓ hp => gp (d_move (hΓ 2 rfl))) (AOK.cons (fun ρ a w hs hz hΓ hp => gp (d_callR fn52 hs.le mapA1 (c52 w _ hs.le e37 ((hp 1 _ rfl rfl).1)))) (AOK.cons (fun ρ a w hs hz hΓ hp => gp (d_call fn56 hs.le mapA2 (c56 w _ _ hs.le e38 ((hp 0 _ rfl rfl).1) ((hp 2 _ rfl rfl).1)))) (AOK.cons (fun ρ a w hs hz hΓ hp => gp (d_not (hp 3 _ rfl rfl).1)) AOK.nil rfl) rfl) rfl) rfl) rfl) (fun vs36 => ?_)
              refine T.nil ?_
              refine T.norm ?_
              refine T.cond (b := (!x76)) (fun _ _ h => h) (fun hc => ?_) (fun hc => ?_)
              · replace hF := iteT hF hc
                refine T.seq ?_
                refine T.region mix 1 [8] [0] [(sp (TB.sv false))] (by kernel_rfl) (AOK.cons (fun ρ a w hs hz hΓ hp => gp (d_assign (vB _))) AOK.nil rfl) (fun vs39 => ?_)
                refine T.nil ?_
                refine T.norm ?_
                refine T.ret ?_
                obtain rfl := Option.some.inj hF
                refine T.fin0 fun ρ a w st => ?_
                exact ⟨_, results_one rfl rfl, (st.env 8)⟩
              · replace hF := iteF hF hc
                refine T.skip ?_
                refine T.norm ?_
                refine T.seq ?_
                refine T.region mix 1 [8] [0] [(sp (TB.sv true))] (by kernel_rfl) (AOK.cons (fun ρ a w hs hz hΓ hp => gp (d_assign (vB _))) AOK.nil rfl) (fun vs40 => ?_)
                refine T.nil ?_
                refine T.norm ?_
                refine T.ret ?_
                obtain rfl := Option.some.inj hF
                refine T.fin0 fun ρ a w st => ?_
                exact ⟨_, results_one rfl rfl, (st.env 8)⟩
end Go.Proofs.Ytnpkhhfpgedkoaa
