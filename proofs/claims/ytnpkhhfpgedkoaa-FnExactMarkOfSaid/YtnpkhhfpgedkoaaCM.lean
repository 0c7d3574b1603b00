/-
  The walks: each function comes to what its plain function says.
-/
import Derived.Test.YtnpkhhfpgedkoaaFactsM
import Derived.Test.YtnpkhhfpgedkoaaFM
set_option linter.unusedVariables false
set_option maxHeartbeats 1600000
set_option maxRecDepth 100000
namespace Go.Proofs.Ytnpkhhfpgedkoaa
open Go
theorem c34 (w : World) (v0 : Value) {σ : Heap} (hσ : σ.le (snap w)) {x0 : (List Nat)} {r : (List Nat)} (hF : laws_toSpot x0 = some r) (h0 : Y57.val σ v0 x0) :
    Calls Try.prog 34 #[v0] w (Ret [] w σ (Y57.sv r) []) := by
  unfold laws_toSpot at hF
  refine start (args := [v0]) Try.func34 rfl 15 rfl [] [(0, (Y57.sv x0))] [] (sat_start _ hσ) rfl (args1 rfl h0 (args0)) ?_
  refine T.seq ?_
  refine T.region mix 2 [1, 2] [0, 0] [(sp ((TP Y57).sv x0)), (sO SRel.any [(1, (boxR 60 Y57 (List.replicate 2 0)))])] (by kernel_rfl) (AOK.cons (fun ρ a w hs hz hΓ hp => gp (d_box hs.le (hΓ 0 rfl))) (AOK.cons (fun ρ a w hs hz hΓ hp => g_alloc hs.le z60 zc60) AOK.nil rfl) rfl) (fun vs1 => ?_)
  refine T.nil ?_
  refine T.norm ?_
  refine T.seq ?_
  refine T.region mix 1 [3] [0] [(sO SRel.any [(2, (boxR 60 Y57 (List.replicate 2 0)))])] (by kernel_rfl) (AOK.cons (fun ρ a w hs hz hΓ hp => g_alloc hs.le z60 zc60) AOK.nil rfl) (fun vs2 => ?_)
  refine T.nil ?_
  refine T.norm ?_
  refine T.seq ?_
  refine T.seq ?_
  refine T.region mix 1 [4] [0] [(sp ((TI .i64).sv 0))] (by kernel_rfl) (AOK.cons (fun ρ a w hs hz hΓ hp => gp (d_assign (vI rfl))) AOK.nil rfl) (fun vs3 => ?_)
  refine T.nil ?_
  refine T.norm ?_
  obtain ⟨yl4, e5, hF⟩ := bindS hF
  refine T.joinD (ι := (Int × (List Nat)) × (Unit)) (fun p => yl4 = p.1) (Γ' := fun p => E [(2, (SRel.eq (vs1 1))), (3, (SRel.eq (vs2 0)))]) (H' := fun p => HL [(1, (boxR 60 Y57 (List.replicate 2 0) (vs1 1))), (2, (boxR 60 Y57 p.1.2 (vs2 0)))]) (fun p hy => ?_) (fun hk => ?_)
  · obtain ⟨⟨o4, or2⟩, _⟩ := p
    cases hy
    refine T.norm ?_
    refine T.seq ?_
    refine T.region mix 1 [14] [0, 1] [(sp (Y57.sv or2))] (by kernel_rfl) (AOK.cons (fun ρ a w hs hz hΓ hp => gp (d_loadO y60 hs 2 rfl (.inl ⟨(hΓ 3 rfl), rfl⟩) (At.refl Y57 or2))) AOK.nil rfl) (fun vs6 => ?_)
    refine T.store 1 y60 rfl (fun ρ a w st => ⟨.inl ⟨(st.env 2), rfl⟩, (st.env 14)⟩) (At.refl Y57 (List.replicate 2 0)) ?_
    refine T.nil ?_
    refine T.norm ?_
    refine T.ret ?_
    obtain rfl := Option.some.inj hF
    refine T.fin0 fun ρ a w st => ?_
    obtain ⟨q0, hr0, hv0⟩ := rv_cell y60 st.sat 1 rfl (st.env 2)
    exact ⟨_, results_one rfl hr0, hv0⟩
  · skip
    refine T.block ?_
    refine T.loop (f := laws_toSpot_l1 x0) (σ := (Int × (List Nat))) (Z := Unit) (fun s z => E [(1, ((TP Y57).sv x0)), (2, (SRel.eq (vs1 1))), (3, (SRel.eq (vs2 0))), (4, ((TI .i64).sv s.1))]) (fun s z => HL [(1, (boxR 60 Y57 (List.replicate 2 0) (vs1 1))), (2, (boxR 60 Y57 s.2 (vs2 0)))]) e5 () (fun φ h => T.toh h ⟨fun _ _ h => h, fun _ _ h => h.1, fun _ _ h => h.1, fun _ _ h => h, trivial⟩ ⟨rfl, rfl, trivial⟩) (fun k s z uu4 hu4 hn4 => ?_)
    obtain ⟨s4, sr2⟩ := s
    dsimp only [laws_toSpot_l1] at hu4
    refine T.seq ?_
    refine T.seq ?_
    refine T.region mix 2 [5, 6] [0, 1] [(sp ((TI .i64).sv s4)), (sp (TB.sv (decide (s4 < 2))))] (by kernel_rfl) (AOK.cons (fun ρ a w hs hz hΓ hp => gp (d_move (hΓ 4 rfl))) (AOK.cons (fun ρ a w hs hz hΓ hp => gp (d_lss (hp 0 _ rfl rfl).1 (vI rfl))) AOK.nil rfl) rfl) (fun vs7 => ?_)
    refine T.nil ?_
    refine T.norm ?_
    refine T.cond (b := (decide (s4 < 2))) (fun _ _ h => h) (fun hc => ?_) (fun hc => ?_)
    · replace hu4 := iteT hu4 hc
      refine T.skip ?_
      refine T.norm ?_
      refine T.seq ?_
      refine T.block ?_
      obtain ⟨x11, e9, hu4⟩ := bindS hu4
      obtain ⟨x13, e10, hu4⟩ := bindS hu4
      refine T.region mix 5 [9, 10, 11, 12, 13] [0, 0, 2, 6, 15, 31] [(sp ((TI .i64).sv s4)), (sp ((TI .i64).sv s4)), (sp ((TP (TF .f32)).sv x11)), (sp ((TF .f32).sv x11)), (sp (SRel.eq (at_ (vs2 0) (0 + s4.toNat * (TF .f32).n))))] (by kernel_rfl) (AOK.cons (fun ρ a w hs hz hΓ hp => gp (d_move (hΓ 4 rfl))) (AOK.cons (fun ρ a w hs hz hΓ hp => gp (d_move (hΓ 4 rfl))) (AOK.cons (fun ρ a w hs hz hΓ hp => gp (d_idxP u57 y45 (hΓ 1 rfl) (hp 1 _ rfl rfl).1 e9)) (AOK.cons (fun ρ a w hs hz hΓ hp => gp (d_load y45 hs.le (hp 2 _ rfl rfl).1)) (AOK.cons (fun ρ a w hs hz hΓ hp => gp (d_idxO u60 y45 hs 2 rfl (.inl ⟨(hΓ 3 rfl), rfl⟩) (At.refl Y57 sr2) (hp 0 _ rfl rfl).1 e10)) AOK.nil rfl) rfl) rfl) rfl) rfl) (fun vs8 => ?_)
      refine T.store 2 y45 rfl (fun ρ a w st => ⟨.inr (st.env 13), (st.env 12)⟩) (At.elem (At.refl Y57 sr2) (idx_get e10).2) ?_
      refine T.nil ?_
      refine T.fallX ?_
      refine T.norm ?_
      refine T.region mix 3 [7, 8, 4] [0, 1, 3] [(sp ((TI .i64).sv s4)), (sp ((TI .i64).sv (IntKind.i64.wrap (s4 + 1)))), (sp ((TI .i64).sv (IntKind.i64.wrap (s4 + 1))))] (by kernel_rfl) (AOK.cons (fun ρ a w hs hz hΓ hp => gp (d_move (hΓ 4 rfl))) (AOK.cons (fun ρ a w hs hz hΓ hp => gp (d_add (hp 0 _ rfl rfl).1 (vI rfl))) (AOK.cons (fun ρ a w hs hz hΓ hp => gp (d_assign (hp 1 _ rfl rfl).1)) AOK.nil rfl) rfl) rfl) (fun vs11 => ?_)
      refine T.nil ?_
      obtain rfl := Option.some.inj hu4
      exact T.again hn4 () (fun φ h => T.toh h ⟨fun _ _ h => h, fun _ _ h => h, fun _ _ h => h, fun _ _ h => h, trivial⟩ ⟨rfl, rfl, trivial⟩)
    · replace hu4 := iteF hu4 hc
      refine T.exit ?_
      obtain rfl := Option.some.inj hu4
      repeat (first | refine T.passX ?_ | refine T.inX (by decide) ?_)
      refine T.hereX ?_
      exact T.toh (hk ((s4, sr2), ()) (Eq.symm hn4)) ⟨fun _ _ h => h, fun _ _ h => h, trivial⟩ ⟨rfl, rfl, trivial⟩

theorem c107 (w : World) (v0 : Value) {σ : Heap} (hσ : σ.le (snap w)) {x0 : Nat} {r : Bool} (hF : spec_l01Plain x0 = some r) (h0 : (TF .f32).val σ v0 x0) :
    Calls Try.prog 107 #[v0] w (Ret [] w σ (TB.sv r) []) := by
  unfold spec_l01Plain at hF
  refine start (args := [v0]) Try.func107 rfl 9 rfl [] [(0, ((TF .f32).sv x0))] [] (sat_start _ hσ) rfl (args1 rfl h0 (args0)) ?_
  refine T.seq ?_
  refine T.region mix 1 [2] [0] [(sp (TB.sv false))] (by kernel_rfl) (AOK.cons (fun ρ a w hs hz hΓ hp => gp (d_assign (vB _))) AOK.nil rfl) (fun vs1 => ?_)
  refine T.nil ?_
  refine T.norm ?_
  refine T.seq ?_
  refine T.region mix 7 [3, 4, 5, 6, 7, 8, 2] [0, 1, 3, 7, 15, 31, 63] [(sp ((TF .f32).sv x0)), (sp (TB.sv (fgeq .f32 x0 3379831808))), (sp (TB.sv (fgeq .f32 x0 3379831808))), (sp (SRel.when ((fgeq .f32 x0 3379831808) = true) ((TF .f32).sv x0))), (sp (SRel.when ((fgeq .f32 x0 3379831808) = true) (TB.sv (fleq .f32 x0 1232348160)))), (sp (TB.sv ((fgeq .f32 x0 3379831808) && (fleq .f32 x0 1232348160)))), (sp (TB.sv ((fgeq .f32 x0 3379831808) && (fleq .f32 x0 1232348160))))] (by kernel_rfl) (AOK.cons (fun ρ a w hs hz hΓ hp => gp (d_move (hΓ 0 rfl))) (AOK.cons (fun ρ a w hs hz hΓ hp => gp (d_fgeq (hp 0 _ rfl rfl).1 (vF (by decide +kernel)))) (AOK.cons (fun ρ a w hs hz hΓ hp => gp (d_move (hp 1 _ rfl rfl).1)) (AOK.cons (fun ρ a w hs hz hΓ hp => gg (g := 2) (d := 5) hz rfl (hp 2 _ rfl rfl).1 rfl (fun hc => d_move (hΓ 0 rfl))) (AOK.cons (fun ρ a w hs hz hΓ hp => gg (g := 2) (d := 5) hz rfl (hp 2 _ rfl rfl).1 rfl (fun hc => d_fleq ((hp 3 _ rfl rfl).1 hc) (vF (by decide +kernel)))) (AOK.cons (fun ρ a w hs hz hΓ hp => gp (d_pick (hp 2 _ rfl rfl).1 (fun hc => pA hc ((hp 4 _ rfl rfl).1 hc)) (fun hc => pAN hc))) (AOK.cons (fun ρ a w hs hz hΓ hp => gp (d_assign (hp 5 _ rfl rfl).1)) AOK.nil rfl) rfl) rfl) rfl) rfl) rfl) rfl) (fun vs2 => ?_)
  refine T.nil ?_
  refine T.norm ?_
  refine T.ret ?_
  obtain rfl := Option.some.inj hF
  refine T.fin0 fun ρ a w st => ?_
  exact ⟨_, results_one rfl rfl, (st.env 2)⟩

theorem c77 (w : World) (v0 : Value) {σ : Heap} (hσ : σ.le (snap w)) {x0 : Nat} {r : Bool} (hF : spec_IsPlain x0 = some r) (h0 : (TF .f32).val σ v0 x0) :
    Calls Try.prog 77 #[v0] w (Ret [] w σ (TB.sv r) []) := by
  unfold spec_IsPlain at hF
  refine start (args := [v0]) Try.func77 rfl 5 rfl [] [(0, ((TF .f32).sv x0))] [] (sat_start _ hσ) rfl (args1 rfl h0 (args0)) ?_
  refine T.seq ?_
  refine T.region mix 1 [2] [0] [(sp (TB.sv false))] (by kernel_rfl) (AOK.cons (fun ρ a w hs hz hΓ hp => gp (d_assign (vB _))) AOK.nil rfl) (fun vs1 => ?_)
  refine T.nil ?_
  refine T.norm ?_
  refine T.seq ?_
  obtain ⟨x4, e3, hF⟩ := bindS hF
  refine T.region mix 3 [3, 4, 2] [0, 1, 3] [(sp ((TF .f32).sv x0)), (sp (TB.sv x4)), (sp (TB.sv x4))] (by kernel_rfl) (AOK.cons (fun ρ a w hs hz hΓ hp => gp (d_move (hΓ 0 rfl))) (AOK.cons (fun ρ a w hs hz hΓ hp => gp (d_call fn107 hs.le mapA1 (c107 w _ hs.le e3 ((hp 0 _ rfl rfl).1)))) (AOK.cons (fun ρ a w hs hz hΓ hp => gp (d_assign (hp 1 _ rfl rfl).1)) AOK.nil rfl) rfl) rfl) (fun vs2 => ?_)
  refine T.nil ?_
  refine T.norm ?_
  refine T.ret ?_
  obtain rfl := Option.some.inj hF
  refine T.fin0 fun ρ a w st => ?_
  exact ⟨_, results_one rfl rfl, (st.env 2)⟩

theorem c114 (w : World) (v0 : Value) {σ : Heap} (hσ : σ.le (snap w)) {x0 : Nat} {r : Nat} (hF : math_Floor x0 = some r) (h0 : (TF .f64).val σ v0 x0) :
    Calls Try.prog 114 #[v0] w (Ret [] w σ ((TF .f64).sv r) []) := by
  unfold math_Floor at hF
  refine start (args := [v0]) Try.func114 rfl 7 rfl [] [(0, ((TF .f64).sv x0))] [] (sat_start _ hσ) rfl (args1 rfl h0 (args0)) ?_
  refine T.seq ?_
  refine T.region mix 1 [2] [0] [(sp ((TF .f64).sv 0))] (by kernel_rfl) (AOK.cons (fun ρ a w hs hz hΓ hp => gp (d_assign (vF (by decide +kernel)))) AOK.nil rfl) (fun vs1 => ?_)
  refine T.nil ?_
  refine T.norm ?_
  refine T.seq ?_
  refine T.condKT ?_
  refine T.seq ?_
  refine T.region mix 3 [3, 4, 2] [0, 1, 3] [(sp ((TF .f64).sv x0)), (sp ((TF .f64).sv (ffloor x0))), (sp ((TF .f64).sv (ffloor x0)))] (by kernel_rfl) (AOK.cons (fun ρ a w hs hz hΓ hp => gp (d_move (hΓ 0 rfl))) (AOK.cons (fun ρ a w hs hz hΓ hp => gp (d_floor ex130 (hp 0 _ rfl rfl).1)) (AOK.cons (fun ρ a w hs hz hΓ hp => gp (d_assign (hp 1 _ rfl rfl).1)) AOK.nil rfl) rfl) rfl) (fun vs2 => ?_)
  refine T.nil ?_
  refine T.norm ?_
  refine T.ret ?_
  obtain rfl := Option.some.inj hF
  refine T.fin0 fun ρ a w st => ?_
  exact ⟨_, results_one rfl rfl, (st.env 2)⟩

theorem c108 (w : World) (v0 : Value) {σ : Heap} (hσ : σ.le (snap w)) {x0 : Nat} {r : Int} (hF : spec_l06Rounded x0 = some r) (h0 : (TF .f32).val σ v0 x0) :
    Calls Try.prog 108 #[v0] w (Ret [] w σ ((TI .i64).sv r) []) := by
  unfold spec_l06Rounded at hF
  refine start (args := [v0]) Try.func108 rfl 13 rfl [] [(0, ((TF .f32).sv x0))] [] (sat_start _ hσ) rfl (args1 rfl h0 (args0)) ?_
  refine T.seq ?_
  refine T.region mix 1 [2] [0] [(sp ((TI .i64).sv 0))] (by kernel_rfl) (AOK.cons (fun ρ a w hs hz hΓ hp => gp (d_assign (vI rfl))) AOK.nil rfl) (fun vs1 => ?_)
  refine T.nil ?_
  refine T.norm ?_
  refine T.seq ?_
  obtain ⟨x5, e3, hF⟩ := bindS hF
  obtain ⟨x6, e4, hF⟩ := bindS hF
  refine T.region mix 4 [4, 5, 6, 3] [0, 1, 3, 7] [(sp ((TF .f32).sv x0)), (sp ((TF .f64).sv x5)), (sp ((TF .f64).sv x6)), (sp ((TF .f64).sv x6))] (by kernel_rfl) (AOK.cons (fun ρ a w hs hz hΓ hp => gp (d_move (hΓ 0 rfl))) (AOK.cons (fun ρ a w hs hz hΓ hp => gp (d_fconv u45 u109 rfl (hp 0 _ rfl rfl).1 e3)) (AOK.cons (fun ρ a w hs hz hΓ hp => gp (d_call fn114 hs.le mapA1 (c114 w _ hs.le e4 ((hp 1 _ rfl rfl).1)))) (AOK.cons (fun ρ a w hs hz hΓ hp => gp (d_assign (hp 2 _ rfl rfl).1)) AOK.nil rfl) rfl) rfl) rfl) (fun vs2 => ?_)
  refine T.nil ?_
  refine T.norm ?_
  refine T.seq ?_
  refine T.seq ?_
  refine T.region mix 2 [7, 8] [0, 1] [(sp ((TF .f64).sv x6)), (sp (TB.sv (fgtr .f64 x6 4666723172467343360)))] (by kernel_rfl) (AOK.cons (fun ρ a w hs hz hΓ hp => gp (d_move (hΓ 3 rfl))) (AOK.cons (fun ρ a w hs hz hΓ hp => gp (d_fgtr (hp 0 _ rfl rfl).1 (vF (by decide +kernel)))) AOK.nil rfl) rfl) (fun vs5 => ?_)
  refine T.nil ?_
  refine T.norm ?_
  refine T.cond (b := (fgtr .f64 x6 4666723172467343360)) (fun _ _ h => h) (fun hc => ?_) (fun hc => ?_)
  · replace hF := iteT hF hc
    refine T.seq ?_
    refine T.region mix 1 [2] [0] [(sp ((TI .i64).sv 10000))] (by kernel_rfl) (AOK.cons (fun ρ a w hs hz hΓ hp => gp (d_assign (vI rfl))) AOK.nil rfl) (fun vs6 => ?_)
    refine T.nil ?_
    refine T.norm ?_
    refine T.ret ?_
    obtain rfl := Option.some.inj hF
    refine T.fin0 fun ρ a w st => ?_
    exact ⟨_, results_one rfl rfl, (st.env 2)⟩
  · replace hF := iteF hF hc
    refine T.skip ?_
    refine T.norm ?_
    refine T.seq ?_
    refine T.seq ?_
    refine T.region mix 2 [9, 10] [0, 1] [(sp ((TF .f64).sv x6)), (sp (TB.sv (flss .f64 x6 13890095209322119168)))] (by kernel_rfl) (AOK.cons (fun ρ a w hs hz hΓ hp => gp (d_move (hΓ 3 rfl))) (AOK.cons (fun ρ a w hs hz hΓ hp => gp (d_flss (hp 0 _ rfl rfl).1 (vF (by decide +kernel)))) AOK.nil rfl) rfl) (fun vs7 => ?_)
    refine T.nil ?_
    refine T.norm ?_
    refine T.cond (b := (flss .f64 x6 13890095209322119168)) (fun _ _ h => h) (fun hc => ?_) (fun hc => ?_)
    · replace hF := iteT hF hc
      refine T.seq ?_
      refine T.region mix 1 [2] [0] [(sp ((TI .i64).sv (-10000)))] (by kernel_rfl) (AOK.cons (fun ρ a w hs hz hΓ hp => gp (d_assign (vI rfl))) AOK.nil rfl) (fun vs8 => ?_)
      refine T.nil ?_
      refine T.norm ?_
      refine T.ret ?_
      obtain rfl := Option.some.inj hF
      refine T.fin0 fun ρ a w st => ?_
      exact ⟨_, results_one rfl rfl, (st.env 2)⟩
    · replace hF := iteF hF hc
      refine T.skip ?_
      refine T.norm ?_
      refine T.seq ?_
      obtain ⟨x12, e10, hF⟩ := bindS hF
      refine T.region mix 3 [11, 12, 2] [0, 1, 3] [(sp ((TF .f64).sv x6)), (sp ((TI .i64).sv x12)), (sp ((TI .i64).sv x12))] (by kernel_rfl) (AOK.cons (fun ρ a w hs hz hΓ hp => gp (d_move (hΓ 3 rfl))) (AOK.cons (fun ρ a w hs hz hΓ hp => gp (d_ftoI u109 u2 (hp 0 _ rfl rfl).1 e10)) (AOK.cons (fun ρ a w hs hz hΓ hp => gp (d_assign (hp 1 _ rfl rfl).1)) AOK.nil rfl) rfl) rfl) (fun vs9 => ?_)
      refine T.nil ?_
      refine T.norm ?_
      refine T.ret ?_
      obtain rfl := Option.some.inj hF
      refine T.fin0 fun ρ a w st => ?_
      exact ⟨_, results_one rfl rfl, (st.env 2)⟩

theorem c109 (w : World) (v0 v1 : Value) {σ : Heap} (hσ : σ.le (snap w)) {x0 : Int} {x1 : Int} {r : Int} (hF : spec_l00Min x0 x1 = some r) (h0 : (TI .i64).val σ v0 x0) (h1 : (TI .i64).val σ v1 x1) :
    Calls Try.prog 109 #[v0, v1] w (Ret [] w σ ((TI .i64).sv r) []) := by
  unfold spec_l00Min at hF
  refine start (args := [v0, v1]) Try.func109 rfl 10 rfl [] [(0, ((TI .i64).sv x0)), (1, ((TI .i64).sv x1))] [] (sat_start _ hσ) rfl (args1 rfl h0 (args1 rfl h1 (args0))) ?_
  refine T.seq ?_
  refine T.region mix 1 [4] [0] [(sp ((TI .i64).sv 0))] (by kernel_rfl) (AOK.cons (fun ρ a w hs hz hΓ hp => gp (d_assign (vI rfl))) AOK.nil rfl) (fun vs1 => ?_)
  refine T.nil ?_
  refine T.norm ?_
  refine T.seq ?_
  refine T.seq ?_
  refine T.region mix 3 [5, 6, 7] [0, 0, 3] [(sp ((TI .i64).sv x0)), (sp ((TI .i64).sv x1)), (sp (TB.sv (decide (x0 < x1))))] (by kernel_rfl) (AOK.cons (fun ρ a w hs hz hΓ hp => gp (d_move (hΓ 0 rfl))) (AOK.cons (fun ρ a w hs hz hΓ hp => gp (d_move (hΓ 1 rfl))) (AOK.cons (fun ρ a w hs hz hΓ hp => gp (d_lss (hp 0 _ rfl rfl).1 (hp 1 _ rfl rfl).1)) AOK.nil rfl) rfl) rfl) (fun vs2 => ?_)
  refine T.nil ?_
  refine T.norm ?_
  refine T.cond (b := (decide (x0 < x1))) (fun _ _ h => h) (fun hc => ?_) (fun hc => ?_)
  · replace hF := iteT hF hc
    refine T.seq ?_
    refine T.region mix 2 [8, 4] [0, 1] [(sp ((TI .i64).sv x0)), (sp ((TI .i64).sv x0))] (by kernel_rfl) (AOK.cons (fun ρ a w hs hz hΓ hp => gp (d_move (hΓ 0 rfl))) (AOK.cons (fun ρ a w hs hz hΓ hp => gp (d_assign (hp 0 _ rfl rfl).1)) AOK.nil rfl) rfl) (fun vs3 => ?_)
    refine T.nil ?_
    refine T.norm ?_
    refine T.ret ?_
    obtain rfl := Option.some.inj hF
    refine T.fin0 fun ρ a w st => ?_
    exact ⟨_, results_one rfl rfl, (st.env 4)⟩
  · replace hF := iteF hF hc
    refine T.skip ?_
    refine T.norm ?_
    refine T.seq ?_
    refine T.region mix 2 [9, 4] [0, 1] [(sp ((TI .i64).sv x1)), (sp ((TI .i64).sv x1))] (by kernel_rfl) (AOK.cons (fun ρ a w hs hz hΓ hp => gp (d_move (hΓ 1 rfl))) (AOK.cons (fun ρ a w hs hz hΓ hp => gp (d_assign (hp 0 _ rfl rfl).1)) AOK.nil rfl) rfl) (fun vs4 => ?_)
    refine T.nil ?_
    refine T.norm ?_
    refine T.ret ?_
    obtain rfl := Option.some.inj hF
    refine T.fin0 fun ρ a w st => ?_
    exact ⟨_, results_one rfl rfl, (st.env 4)⟩

theorem c99 (w : World) (v0 v1 : Value) {σ : Heap} (hσ : σ.le (snap w)) {x0 : Int} {x1 : Int} {r : Int} (hF : spec_l00Max x0 x1 = some r) (h0 : (TI .i64).val σ v0 x0) (h1 : (TI .i64).val σ v1 x1) :
    Calls Try.prog 99 #[v0, v1] w (Ret [] w σ ((TI .i64).sv r) []) := by
  unfold spec_l00Max at hF
  refine start (args := [v0, v1]) Try.func99 rfl 10 rfl [] [(0, ((TI .i64).sv x0)), (1, ((TI .i64).sv x1))] [] (sat_start _ hσ) rfl (args1 rfl h0 (args1 rfl h1 (args0))) ?_
  refine T.seq ?_
  refine T.region mix 1 [4] [0] [(sp ((TI .i64).sv 0))] (by kernel_rfl) (AOK.cons (fun ρ a w hs hz hΓ hp => gp (d_assign (vI rfl))) AOK.nil rfl) (fun vs1 => ?_)
  refine T.nil ?_
  refine T.norm ?_
  refine T.seq ?_
  refine T.seq ?_
  refine T.region mix 3 [5, 6, 7] [0, 0, 3] [(sp ((TI .i64).sv x0)), (sp ((TI .i64).sv x1)), (sp (TB.sv (decide (x1 < x0))))] (by kernel_rfl) (AOK.cons (fun ρ a w hs hz hΓ hp => gp (d_move (hΓ 0 rfl))) (AOK.cons (fun ρ a w hs hz hΓ hp => gp (d_move (hΓ 1 rfl))) (AOK.cons (fun ρ a w hs hz hΓ hp => gp (d_gtr (hp 0 _ rfl rfl).1 (hp 1 _ rfl rfl).1)) AOK.nil rfl) rfl) rfl) (fun vs2 => ?_)
  refine T.nil ?_
  refine T.norm ?_
  refine T.cond (b := (decide (x1 < x0))) (fun _ _ h => h) (fun hc => ?_) (fun hc => ?_)
  · replace hF := iteT hF hc
    refine T.seq ?_
    refine T.region mix 2 [8, 4] [0, 1] [(sp ((TI .i64).sv x0)), (sp ((TI .i64).sv x0))] (by kernel_rfl) (AOK.cons (fun ρ a w hs hz hΓ hp => gp (d_move (hΓ 0 rfl))) (AOK.cons (fun ρ a w hs hz hΓ hp => gp (d_assign (hp 0 _ rfl rfl).1)) AOK.nil rfl) rfl) (fun vs3 => ?_)
    refine T.nil ?_
    refine T.norm ?_
    refine T.ret ?_
    obtain rfl := Option.some.inj hF
    refine T.fin0 fun ρ a w st => ?_
    exact ⟨_, results_one rfl rfl, (st.env 4)⟩
  · replace hF := iteF hF hc
    refine T.skip ?_
    refine T.norm ?_
    refine T.seq ?_
    refine T.region mix 2 [9, 4] [0, 1] [(sp ((TI .i64).sv x1)), (sp ((TI .i64).sv x1))] (by kernel_rfl) (AOK.cons (fun ρ a w hs hz hΓ hp => gp (d_move (hΓ 1 rfl))) (AOK.cons (fun ρ a w hs hz hΓ hp => gp (d_assign (hp 0 _ rfl rfl).1)) AOK.nil rfl) rfl) (fun vs4 => ?_)
    refine T.nil ?_
    refine T.norm ?_
    refine T.ret ?_
    obtain rfl := Option.some.inj hF
    refine T.fin0 fun ρ a w st => ?_
    exact ⟨_, results_one rfl rfl, (st.env 4)⟩

theorem c78 (w : World) (v0 v1 : Value) {σ : Heap} (hσ : σ.le (snap w)) {x0 : (List Nat)} {x1 : Nat} {r : (List Int)} (hF : spec_l06MarkOf x0 x1 = some r) (h0 : Y57.val σ v0 x0) (h1 : (TF .f32).val σ v1 x1) :
    Calls Try.prog 78 #[v0, v1] w (Ret [] w σ (Y25.sv r) []) := by
  unfold spec_l06MarkOf at hF
  refine start (args := [v0, v1]) Try.func78 rfl 30 rfl [] [(0, (Y57.sv x0)), (1, ((TF .f32).sv x1))] [] (sat_start _ hσ) rfl (args1 rfl h0 (args1 rfl h1 (args0))) ?_
  refine T.seq ?_
  refine T.region mix 2 [2, 4] [0, 0] [(sp ((TP Y57).sv x0)), (sO SRel.any [(1, (boxR 29 Y25 (List.replicate 2 0)))])] (by kernel_rfl) (AOK.cons (fun ρ a w hs hz hΓ hp => gp (d_box hs.le (hΓ 0 rfl))) (AOK.cons (fun ρ a w hs hz hΓ hp => g_alloc hs.le z29 zc29) AOK.nil rfl) rfl) (fun vs1 => ?_)
  refine T.nil ?_
  refine T.norm ?_
  refine T.seq ?_
  obtain ⟨x12, e3, hF⟩ := bindS hF
  refine T.region mix 8 [7, 8, 9, 10, 11, 12, 13, 5] [0, 1, 0, 7, 15, 31, 63, 127] [(sp ((TP (TF .f32)).sv (nth x0 0))), (sp ((TF .f32).sv (nth x0 0))), (sp ((TF .f32).sv x1)), (sp ((TF .f32).sv (fmul .f32 (nth x0 0) x1))), (sp ((TF .f32).sv (fadd .f32 (fmul .f32 (nth x0 0) x1) 1056964608))), (sp ((TI .i64).sv x12)), (sp ((TI .i64).sv (IntKind.i64.wrap (32 + x12)))), (sp ((TI .i64).sv (IntKind.i64.wrap (32 + x12))))] (by kernel_rfl) (AOK.cons (fun ρ a w hs hz hΓ hp => gp (d_idxPc .i64 0 u60 y45 (hΓ 2 rfl) rfl)) (AOK.cons (fun ρ a w hs hz hΓ hp => gp (d_load y45 hs.le (hp 0 _ rfl rfl).1)) (AOK.cons (fun ρ a w hs hz hΓ hp => gp (d_move (hΓ 1 rfl))) (AOK.cons (fun ρ a w hs hz hΓ hp => gp (d_fmul (hp 1 _ rfl rfl).1 (hp 2 _ rfl rfl).1)) (AOK.cons (fun ρ a w hs hz hΓ hp => gp (d_fadd (hp 3 _ rfl rfl).1 (vF (by decide +kernel)))) (AOK.cons (fun ρ a w hs hz hΓ hp => gp (d_call fn108 hs.le mapA1 (c108 w _ hs.le e3 ((hp 4 _ rfl rfl).1)))) (AOK.cons (fun ρ a w hs hz hΓ hp => gp (d_add (vI rfl) (hp 5 _ rfl rfl).1)) (AOK.cons (fun ρ a w hs hz hΓ hp => gp (d_assign (hp 6 _ rfl rfl).1)) AOK.nil rfl) rfl) rfl) rfl) rfl) rfl) rfl) rfl) (fun vs2 => ?_)
  refine T.nil ?_
  refine T.norm ?_
  refine T.seq ?_
  obtain ⟨x19, e5, hF⟩ := bindS hF
  refine T.region mix 8 [14, 15, 16, 17, 18, 19, 20, 6] [0, 1, 0, 7, 15, 31, 63, 127] [(sp ((TP (TF .f32)).sv (nth x0 1))), (sp ((TF .f32).sv (nth x0 1))), (sp ((TF .f32).sv x1)), (sp ((TF .f32).sv (fmul .f32 (nth x0 1) x1))), (sp ((TF .f32).sv (fadd .f32 (fmul .f32 (nth x0 1) x1) 1056964608))), (sp ((TI .i64).sv x19)), (sp ((TI .i64).sv (IntKind.i64.wrap (32 - x19)))), (sp ((TI .i64).sv (IntKind.i64.wrap (32 - x19))))] (by kernel_rfl) (AOK.cons (fun ρ a w hs hz hΓ hp => gp (d_idxPc .i64 1 u60 y45 (hΓ 2 rfl) rfl)) (AOK.cons (fun ρ a w hs hz hΓ hp => gp (d_load y45 hs.le (hp 0 _ rfl rfl).1)) (AOK.cons (fun ρ a w hs hz hΓ hp => gp (d_move (hΓ 1 rfl))) (AOK.cons (fun ρ a w hs hz hΓ hp => gp (d_fmul (hp 1 _ rfl rfl).1 (hp 2 _ rfl rfl).1)) (AOK.cons (fun ρ a w hs hz hΓ hp => gp (d_fadd (hp 3 _ rfl rfl).1 (vF (by decide +kernel)))) (AOK.cons (fun ρ a w hs hz hΓ hp => gp (d_call fn108 hs.le mapA1 (c108 w _ hs.le e5 ((hp 4 _ rfl rfl).1)))) (AOK.cons (fun ρ a w hs hz hΓ hp => gp (d_sub (vI rfl) (hp 5 _ rfl rfl).1)) (AOK.cons (fun ρ a w hs hz hΓ hp => gp (d_assign (hp 6 _ rfl rfl).1)) AOK.nil rfl) rfl) rfl) rfl) rfl) rfl) rfl) rfl) (fun vs4 => ?_)
  refine T.nil ?_
  refine T.norm ?_
  refine T.seq ?_
  obtain ⟨x22, e7, hF⟩ := bindS hF
  obtain ⟨x23, e8, hF⟩ := bindS hF
  obtain ⟨x26, e9, hF⟩ := bindS hF
  obtain ⟨x27, e10, hF⟩ := bindS hF
  refine T.region mix 9 [21, 22, 23, 24, 25, 26, 27, 28, 29] [0, 1, 3, 7, 0, 23, 55, 119, 255, 511] [(sp ((TI .i64).sv (IntKind.i64.wrap (32 + x12)))), (sp ((TI .i64).sv x22)), (sp ((TI .i64).sv x23)), (sp ((TI .i16).sv (IntKind.i16.wrap x23))), (sp ((TI .i64).sv (IntKind.i64.wrap (32 - x19)))), (sp ((TI .i64).sv x26)), (sp ((TI .i64).sv x27)), (sp ((TI .i16).sv (IntKind.i16.wrap x27))), (sp (Y25.sv ([(IntKind.i16.wrap x23), (IntKind.i16.wrap x27)] : (List Int))))] (by kernel_rfl) (AOK.cons (fun ρ a w hs hz hΓ hp => gp (d_move (hΓ 5 rfl))) (AOK.cons (fun ρ a w hs hz hΓ hp => gp (d_call fn109 hs.le mapA2 (c109 w _ _ hs.le e7 (vI rfl) ((hp 0 _ rfl rfl).1)))) (AOK.cons (fun ρ a w hs hz hΓ hp => gp (d_call fn99 hs.le mapA2 (c99 w _ _ hs.le e8 (vI rfl) ((hp 1 _ rfl rfl).1)))) (AOK.cons (fun ρ a w hs hz hΓ hp => gp (d_conv u2 u24 (hp 2 _ rfl rfl).1)) (AOK.cons (fun ρ a w hs hz hΓ hp => gp (d_move (hΓ 6 rfl))) (AOK.cons (fun ρ a w hs hz hΓ hp => gp (d_call fn109 hs.le mapA2 (c109 w _ _ hs.le e9 (vI rfl) ((hp 4 _ rfl rfl).1)))) (AOK.cons (fun ρ a w hs hz hΓ hp => gp (d_call fn99 hs.le mapA2 (c99 w _ _ hs.le e10 (vI rfl) ((hp 5 _ rfl rfl).1)))) (AOK.cons (fun ρ a w hs hz hΓ hp => gp (d_conv u2 u24 (hp 6 _ rfl rfl).1)) (AOK.cons (fun ρ a w hs hz hΓ hp => gp (d_buildA u29 y24 z29 zc29 (Fills.part rfl (hp 3 _ rfl rfl).1 (At.nth (At.refl _ _) 0 rfl) (Fills.part rfl (hp 7 _ rfl rfl).1 (At.nth (At.refl _ _) 1 rfl) (Fills.done _))))) AOK.nil rfl) rfl) rfl) rfl) rfl) rfl) rfl) rfl) rfl) (fun vs6 => ?_)
  refine T.store 1 y29 rfl (fun ρ a w st => ⟨.inl ⟨(st.env 4).1, rfl⟩, (st.env 29)⟩) (At.refl Y25 (List.replicate 2 0)) ?_
  refine T.nil ?_
  refine T.norm ?_
  refine T.ret ?_
  obtain rfl := Option.some.inj hF
  refine T.fin0 fun ρ a w st => ?_
  obtain ⟨q0, hr0, hv0⟩ := rv_cell y29 st.sat 1 rfl (st.env 4).1
  exact ⟨_, results_one rfl hr0, hv0⟩

theorem c33 (w : World) (v0 v1 : Value) {σ : Heap} (hσ : σ.le (snap w)) {x0 : (List Nat)} {x1 : Nat} {r : ((List Int) × Int)} (hF : spec_MarkOf x0 x1 = some r) (h0 : Y57.val σ v0 x0) (h1 : (TF .f32).val σ v1 x1) :
    Calls Try.prog 33 #[v0, v1] w (Ret [] w σ (SRel.tup2 (Y25.sv r.1) ((TI .i64).sv r.2)) []) := by
  unfold spec_MarkOf at hF
  refine start (args := [v0, v1]) Try.func33 rfl 25 rfl [] [(0, (Y57.sv x0)), (1, ((TF .f32).sv x1))] [] (sat_start _ hσ) rfl (args1 rfl h0 (args1 rfl h1 (args0))) ?_
  refine T.seq ?_
  refine T.region mix 3 [2, 4, 5] [0, 0, 0] [(sp ((TP Y57).sv x0)), (sO SRel.any [(1, (boxR 29 Y25 (List.replicate 2 0)))]), (sp ((TI .i64).sv 0))] (by kernel_rfl) (AOK.cons (fun ρ a w hs hz hΓ hp => gp (d_box hs.le (hΓ 0 rfl))) (AOK.cons (fun ρ a w hs hz hΓ hp => g_alloc hs.le z29 zc29) (AOK.cons (fun ρ a w hs hz hΓ hp => gp (d_assign (vI rfl))) AOK.nil rfl) rfl) rfl) (fun vs1 => ?_)
  refine T.nil ?_
  refine T.norm ?_
  refine T.seq ?_
  refine T.seq ?_
  obtain ⟨x8, e3, hF⟩ := bindS hF
  obtain ⟨x15, e5, hF⟩ := bindS hF
  obtain ⟨x13, e6⟩ : ∃ (x13 : Bool), (!x8) = false → spec_IsPlain (nth x0 1) = some x13 ∧ (!x13) = x15 := by
    by_cases hb : (!x8) = false
    · replace e5 := iteF e5 hb
      obtain ⟨x13, e4, e5⟩ := bindS e5
      exact ⟨x13, fun _ => ⟨e4, Option.some.inj e5⟩⟩
    · exact ⟨default, fun h => absurd h hb⟩
  have e7 : (!x8) = true → true = x15 := fun h => Option.some.inj (iteT e5 h)
  obtain ⟨x20, e9, hF⟩ := bindS hF
  obtain ⟨x18, e10⟩ : ∃ (x18 : Bool), x15 = false → spec_IsPlain x1 = some x18 ∧ (!x18) = x20 := by
    by_cases hb : x15 = false
    · replace e9 := iteF e9 hb
      obtain ⟨x18, e8, e9⟩ := bindS e9
      exact ⟨x18, fun _ => ⟨e8, Option.some.inj e9⟩⟩
    · exact ⟨default, fun h => absurd h hb⟩
  have e11 : x15 = true → true = x20 := fun h => Option.some.inj (iteT e9 h)
  refine T.region mix 15 [6, 7, 8, 9, 10, 11, 12, 13, 14, 15, 16, 17, 18, 19, 20] [0, 1, 3, 7, 15, 31, 63, 127, 255, 511, 1023, 2047, 4095, 8191, 16383] [(sp ((TP (TF .f32)).sv (nth x0 0))), (sp ((TF .f32).sv (nth x0 0))), (sp (TB.sv x8)), (sp (TB.sv (!x8))), (sp (TB.sv (!x8))), (sp (SRel.when ((!x8) = false) ((TP (TF .f32)).sv (nth x0 1)))), (sp (SRel.when ((!x8) = false) ((TF .f32).sv (nth x0 1)))), (sp (SRel.when ((!x8) = false) (TB.sv x13))), (sp (SRel.when ((!x8) = false) (TB.sv (!x13)))), (sp (TB.sv x15)), (sp (TB.sv x15)), (sp (SRel.when (x15 = false) ((TF .f32).sv x1))), (sp (SRel.when (x15 = false) (TB.sv x18))), (sp (SRel.when (x15 = false) (TB.sv (!x18)))), (sp (TB.sv x20))] (by kernel_rfl) (AOK.cons (fun ρ a w hs hz hΓ hp => gp (d_idxPc .i64 0 u60 y45 (hΓ 2 rfl) rfl)) (AOK.cons (fun ρ a w hs hz hΓ hp => gp (d_load y45 hs.le (hp 0 _ rfl rfl).1)) (AOK.cons (fun ρ a w hs hz hΓ hp => gp (d_call fn77 hs.le mapA1 (c77 w _ hs.le e3 ((hp 1 _ rfl rfl).1)))) (AOK.cons (fun ρ a w hs hz hΓ hp => gp (d_not (hp 2 _ rfl rfl).1)) (AOK.cons (fun ρ a w hs hz hΓ hp => gp (d_move (hp 3 _ rfl rfl).1)) (AOK.cons (fun ρ a w hs hz hΓ hp => gg (g := 4) (d := 10) hz rfl (hp 4 _ rfl rfl).1 rfl (fun hc => d_idxPc .i64 1 u60 y45 (hΓ 2 rfl) rfl)) (AOK.cons (fun ρ a w hs hz hΓ hp => gg (g := 4) (d := 10) hz rfl (hp 4 _ rfl rfl).1 rfl (fun hc => d_load y45 hs.le ((hp 5 _ rfl rfl).1 hc))) (AOK.cons (fun ρ a w hs hz hΓ hp => gg (g := 4) (d := 10) hz rfl (hp 4 _ rfl rfl).1 rfl (fun hc => d_call fn77 hs.le mapA1 (c77 w _ hs.le (e6 hc).1 ((hp 6 _ rfl rfl).1 hc)))) (AOK.cons (fun ρ a w hs hz hΓ hp => gg (g := 4) (d := 10) hz rfl (hp 4 _ rfl rfl).1 rfl (fun hc => d_not ((hp 7 _ rfl rfl).1 hc))) (AOK.cons (fun ρ a w hs hz hΓ hp => gp (d_pick (hp 4 _ rfl rfl).1 (fun hc => pC (e7 hc)) (fun hc => (pE ((e6 hc).2) ((hp 8 _ rfl rfl).1 hc))))) (AOK.cons (fun ρ a w hs hz hΓ hp => gp (d_move (hp 9 _ rfl rfl).1)) (AOK.cons (fun ρ a w hs hz hΓ hp => gg (g := 10) (d := 16) hz rfl (hp 10 _ rfl rfl).1 rfl (fun hc => d_move (hΓ 1 rfl))) (AOK.cons (fun ρ a w hs hz hΓ hp => gg (g := 10) (d := 16) hz rfl (hp 10 _ rfl rfl).1 rfl (fun hc => d_call fn77 hs.le mapA1 (c77 w _ hs.le (e10 hc).1 ((hp 11 _ rfl rfl).1 hc)))) (AOK.cons (fun ρ a w hs hz hΓ hp => gg (g := 10) (d := 16) hz rfl (hp 10 _ rfl rfl).1 rfl (fun hc => d_not ((hp 12 _ rfl rfl).1 hc))) (AOK.cons (fun ρ a w hs hz hΓ hp => gp (d_pick (hp 10 _ rfl rfl).1 (fun hc => pC (e11 hc)) (fun hc => (pE ((e10 hc).2) ((hp 13 _ rfl rfl).1 hc))))) AOK.nil rfl) rfl) rfl) rfl) rfl) rfl) rfl) rfl) rfl) rfl) rfl) rfl) rfl) rfl) rfl) (fun vs2 => ?_)
  refine T.nil ?_
  refine T.norm ?_
  refine T.cond (b := x20) (fun _ _ h => h) (fun hc => ?_) (fun hc => ?_)
  · replace hF := iteT hF hc
    refine T.seq ?_
    refine T.region mix 1 [21] [0, 1, 3] [(sp (Y25.sv ((List.replicate 2 0) : (List Int))))] (by kernel_rfl) (AOK.cons (fun ρ a w hs hz hΓ hp => gp (d_buildA u29 y24 z29 zc29 (Fills.done _))) AOK.nil rfl) (fun vs12 => ?_)
    refine T.store 1 y29 rfl (fun ρ a w st => ⟨.inl ⟨(st.env 4).1, rfl⟩, (st.env 21)⟩) (At.refl Y25 (List.replicate 2 0)) ?_
    refine T.does (R := ((TI .i64).sv 1)) rfl (fun ρ a w st => have hs := st.sat; d_assign (vI rfl)) ?_
    refine T.nil ?_
    refine T.norm ?_
    refine T.ret ?_
    obtain rfl := Option.some.inj hF
    refine T.fin0 fun ρ a w st => ?_
    obtain ⟨q0, hr0, hv0⟩ := rv_cell y29 st.sat 1 rfl (st.env 4).1
    exact ⟨_, results_two rfl hr0 rfl, ⟨_, _, rfl, hv0, (st.env 5)⟩⟩
  · replace hF := iteF hF hc
    refine T.skip ?_
    refine T.norm ?_
    refine T.seq ?_
    obtain ⟨x24, e14, hF⟩ := bindS hF
    refine T.region mix 3 [22, 23, 24] [0, 0, 3, 7, 15] [(sp (Y57.sv x0)), (sp ((TF .f32).sv x1)), (sp (Y25.sv x24))] (by kernel_rfl) (AOK.cons (fun ρ a w hs hz hΓ hp => gp (d_load y60 hs.le (hΓ 2 rfl))) (AOK.cons (fun ρ a w hs hz hΓ hp => gp (d_move (hΓ 1 rfl))) (AOK.cons (fun ρ a w hs hz hΓ hp => gp (d_call fn78 hs.le mapA2 (c78 w _ _ hs.le e14 ((hp 0 _ rfl rfl).1) ((hp 1 _ rfl rfl).1)))) AOK.nil rfl) rfl) rfl) (fun vs13 => ?_)
    refine T.store 1 y29 rfl (fun ρ a w st => ⟨.inl ⟨(st.env 4).1, rfl⟩, (st.env 24)⟩) (At.refl Y25 (List.replicate 2 0)) ?_
    refine T.does (R := ((TI .i64).sv 0)) rfl (fun ρ a w st => have hs := st.sat; d_assign (vI rfl)) ?_
    refine T.nil ?_
    refine T.norm ?_
    refine T.ret ?_
    obtain rfl := Option.some.inj hF
    refine T.fin0 fun ρ a w st => ?_
    obtain ⟨q0, hr0, hv0⟩ := rv_cell y29 st.sat 1 rfl (st.env 4).1
    exact ⟨_, results_two rfl hr0 rfl, ⟨_, _, rfl, hv0, (st.env 5)⟩⟩

theorem c127 (w : World) (v0 v1 : Value) {σ : Heap} (hσ : σ.le (snap w)) {x0 : (List (List Nat))} {x1 : ((List Nat) → Option Bool)} {r : Int} (hF : slices_IndexFunc_Spot_Spot x0 x1 = some r) (h0 : Y132.val σ v0 x0) (h1 : (fn1 Try.prog Y57 TB x1).p σ v1) :
    Calls Try.prog 127 #[v0, v1] w (Ret [] w σ ((TI .i64).sv r) []) := by
  unfold slices_IndexFunc_Spot_Spot at hF
  refine start (args := [v0, v1]) Try.func127 rfl 19 rfl [] [(0, (Y132.sv x0)), (1, (fn1 Try.prog Y57 TB x1))] [] (sat_start _ hσ) rfl (args1 rfl h0 (args1 rfl h1 (args0))) ?_
  refine T.seq ?_
  refine T.region mix 1 [4] [0] [(sp ((TI .i64).sv 0))] (by kernel_rfl) (AOK.cons (fun ρ a w hs hz hΓ hp => gp (d_assign (vI rfl))) AOK.nil rfl) (fun vs1 => ?_)
  refine T.nil ?_
  refine T.norm ?_
  refine T.seq ?_
  refine T.seq ?_
  refine T.region mix 3 [6, 7, 8] [0, 1, 0] [(sp (Y132.sv x0)), (sp ((TI .i64).sv (x0.length : Int))), (sp ((TI .i64).sv 0))] (by kernel_rfl) (AOK.cons (fun ρ a w hs hz hΓ hp => gp (d_move (hΓ 0 rfl))) (AOK.cons (fun ρ a w hs hz hΓ hp => gp (d_lenR u132 (hp 0 _ rfl rfl).1)) (AOK.cons (fun ρ a w hs hz hΓ hp => gp (d_move (vI rfl))) AOK.nil rfl) rfl) rfl) (fun vs2 => ?_)
  refine T.nil ?_
  refine T.norm ?_
  obtain ⟨yl3, e4, hF⟩ := bindS hF
  refine T.joinD (ι := Int × (Unit)) (fun p => yl3 = .inl p.1) (Γ' := fun p => E []) (H' := fun p => HL []) (fun p hy => ?_) (fun hk => ?_)
  · obtain ⟨o8, _⟩ := p
    cases hy
    refine T.norm ?_
    refine T.seq ?_
    refine T.region mix 1 [4] [0] [(sp ((TI .i64).sv (-1)))] (by kernel_rfl) (AOK.cons (fun ρ a w hs hz hΓ hp => gp (d_assign (vI rfl))) AOK.nil rfl) (fun vs5 => ?_)
    refine T.nil ?_
    refine T.norm ?_
    refine T.ret ?_
    obtain rfl := Option.some.inj hF
    refine T.fin0 fun ρ a w st => ?_
    exact ⟨_, results_one rfl rfl, (st.env 4)⟩
  · skip
    refine T.block ?_
    refine T.loop (f := slices_IndexFunc_Spot_Spot_l1 x0 x1) (σ := Int) (Z := Unit) (fun s z => E [(0, (Y132.sv x0)), (1, (fn1 Try.prog Y57 TB x1)), (7, ((TI .i64).sv (x0.length : Int))), (8, ((TI .i64).sv s))]) (fun s z => HL []) e4 () (fun φ h => T.toh h ⟨fun _ _ h => h, fun _ _ h => h, fun _ _ h => h, fun _ _ h => h, trivial⟩ trivial) (fun k s z uu3 hu3 hn3 => ?_)
    obtain ⟨s8, rfl⟩ : ∃ q, q = s := ⟨_, rfl⟩
    dsimp only [slices_IndexFunc_Spot_Spot_l1] at hu3
    refine T.seq ?_
    refine T.region mix 1 [9] [0] [(sp (TB.sv (decide (s8 < (x0.length : Int)))))] (by kernel_rfl) (AOK.cons (fun ρ a w hs hz hΓ hp => gp (d_lss (hΓ 8 rfl) (hΓ 7 rfl))) AOK.nil rfl) (fun vs6 => ?_)
    refine T.nil ?_
    refine T.norm ?_
    refine T.seq ?_
    refine T.cond (b := (decide (s8 < (x0.length : Int)))) (fun _ _ h => h) (fun hc => ?_) (fun hc => ?_)
    · replace hu3 := iteT hu3 hc
      refine T.skip ?_
      refine T.norm ?_
      refine T.seq ?_
      refine T.block ?_
      refine T.seq ?_
      refine T.region mix 2 [10, 5] [0, 1] [(sp ((TI .i64).sv s8)), (sp ((TI .i64).sv s8))] (by kernel_rfl) (AOK.cons (fun ρ a w hs hz hΓ hp => gp (d_move (hΓ 8 rfl))) (AOK.cons (fun ρ a w hs hz hΓ hp => gp (d_assign (hp 0 _ rfl rfl).1)) AOK.nil rfl) rfl) (fun vs7 => ?_)
      refine T.nil ?_
      refine T.norm ?_
      refine T.seq ?_
      obtain ⟨x14, e9, hu3⟩ := bindS hu3
      obtain ⟨x16, e10, hu3⟩ := bindS hu3
      refine T.region mix 6 [11, 12, 13, 14, 15, 16] [0, 0, 0, 6, 14, 31] [(sp (fn1 Try.prog Y57 TB x1)), (sp (Y132.sv x0)), (sp ((TI .i64).sv s8)), (sp ((TP Y57).sv x14)), (sp (Y57.sv x14)), (sp (TB.sv x16))] (by kernel_rfl) (AOK.cons (fun ρ a w hs hz hΓ hp => gp (d_move (hΓ 1 rfl))) (AOK.cons (fun ρ a w hs hz hΓ hp => gp (d_move (hΓ 0 rfl))) (AOK.cons (fun ρ a w hs hz hΓ hp => gp (d_move (hΓ 5 rfl))) (AOK.cons (fun ρ a w hs hz hΓ hp => gp (d_idxR u132 y60 (hp 1 _ rfl rfl).1 (hp 2 _ rfl rfl).1 e9)) (AOK.cons (fun ρ a w hs hz hΓ hp => gp (d_load y60 hs.le (hp 3 _ rfl rfl).1)) (AOK.cons (fun ρ a w hs hz hΓ hp => gp (d_callV1 hs.le flat_TB ((hp 0 _ rfl rfl).1) ((hp 4 _ rfl rfl).1) e10)) AOK.nil rfl) rfl) rfl) rfl) rfl) rfl) (fun vs8 => ?_)
      refine T.nil ?_
      refine T.norm ?_
      refine T.cond (b := x16) (fun _ _ h => h) (fun hc => ?_) (fun hc => ?_)
      · replace hu3 := iteT hu3 hc
        refine T.seq ?_
        refine T.region mix 2 [17, 4] [0, 1] [(sp ((TI .i64).sv s8)), (sp ((TI .i64).sv s8))] (by kernel_rfl) (AOK.cons (fun ρ a w hs hz hΓ hp => gp (d_move (hΓ 5 rfl))) (AOK.cons (fun ρ a w hs hz hΓ hp => gp (d_assign (hp 0 _ rfl rfl).1)) AOK.nil rfl) rfl) (fun vs11 => ?_)
        refine T.nil ?_
        refine T.norm ?_
        refine T.ret ?_
        obtain rfl := Option.some.inj hu3
        cases hn3
        obtain rfl := Option.some.inj hF
        refine T.fin0 fun ρ a w st => ?_
        exact ⟨_, results_one rfl rfl, (st.env 4)⟩
      · replace hu3 := iteF hu3 hc
        refine T.skip ?_
        refine T.fallX ?_
        refine T.norm ?_
        refine T.region mix 2 [18, 8] [0, 1] [(sp ((TI .i64).sv (IntKind.i64.wrap (s8 + 1)))), (sp ((TI .i64).sv (IntKind.i64.wrap (s8 + 1))))] (by kernel_rfl) (AOK.cons (fun ρ a w hs hz hΓ hp => gp (d_add (hΓ 8 rfl) (vI rfl))) (AOK.cons (fun ρ a w hs hz hΓ hp => gp (d_move (hp 0 _ rfl rfl).1)) AOK.nil rfl) rfl) (fun vs12 => ?_)
        refine T.nil ?_
        obtain rfl := Option.some.inj hu3
        exact T.again hn3 () (fun φ h => T.toh h ⟨fun _ _ h => h, fun _ _ h => h, fun _ _ h => h, fun _ _ h => h, trivial⟩ trivial)
    · replace hu3 := iteF hu3 hc
      refine T.exit ?_
      obtain rfl := Option.some.inj hu3
      repeat (first | refine T.passX ?_ | refine T.inX (by decide) ?_)
      refine T.hereX ?_
      exact T.toh (hk (s8, ()) (Eq.symm hn3)) trivial trivial

theorem c110 (w : World) (v0 v1 : Value) {σ : Heap} (hσ : σ.le (snap w)) {x0 : (List (List Nat))} {x1 : ((List Nat) → Option Bool)} {r : Bool} (hF : slices_ContainsFunc_Spot_Spot x0 x1 = some r) (h0 : Y132.val σ v0 x0) (h1 : (fn1 Try.prog Y57 TB x1).p σ v1) :
    Calls Try.prog 110 #[v0, v1] w (Ret [] w σ (TB.sv r) []) := by
  unfold slices_ContainsFunc_Spot_Spot at hF
  refine start (args := [v0, v1]) Try.func110 rfl 9 rfl [] [(0, (Y132.sv x0)), (1, (fn1 Try.prog Y57 TB x1))] [] (sat_start _ hσ) rfl (args1 rfl h0 (args1 rfl h1 (args0))) ?_
  refine T.seq ?_
  refine T.region mix 1 [4] [0] [(sp (TB.sv false))] (by kernel_rfl) (AOK.cons (fun ρ a w hs hz hΓ hp => gp (d_assign (vB _))) AOK.nil rfl) (fun vs1 => ?_)
  refine T.nil ?_
  refine T.norm ?_
  refine T.seq ?_
  obtain ⟨x7, e3, hF⟩ := bindS hF
  refine T.region mix 5 [5, 6, 7, 8, 4] [0, 0, 3, 7, 15] [(sp (Y132.sv x0)), (sp (fn1 Try.prog Y57 TB x1)), (sp ((TI .i64).sv x7)), (sp (TB.sv (decide (0 ≤ x7)))), (sp (TB.sv (decide (0 ≤ x7))))] (by kernel_rfl) (AOK.cons (fun ρ a w hs hz hΓ hp => gp (d_move (hΓ 0 rfl))) (AOK.cons (fun ρ a w hs hz hΓ hp => gp (d_move (hΓ 1 rfl))) (AOK.cons (fun ρ a w hs hz hΓ hp => gp (d_call fn127 hs.le mapA2 (c127 w _ _ hs.le e3 ((hp 0 _ rfl rfl).1) ((hp 1 _ rfl rfl).1)))) (AOK.cons (fun ρ a w hs hz hΓ hp => gp (d_geq (hp 2 _ rfl rfl).1 (vI rfl))) (AOK.cons (fun ρ a w hs hz hΓ hp => gp (d_assign (hp 3 _ rfl rfl).1)) AOK.nil rfl) rfl) rfl) rfl) rfl) (fun vs2 => ?_)
  refine T.nil ?_
  refine T.norm ?_
  refine T.ret ?_
  obtain rfl := Option.some.inj hF
  refine T.fin0 fun ρ a w st => ?_
  exact ⟨_, results_one rfl rfl, (st.env 4)⟩

theorem c133 (w : World) (v0 v1 : Value) {σ : Heap} (hσ : σ.le (snap w)) {x0 : (List Nat)} {x1 : (Nat → Option Bool)} {r : Int} (hF : slices_IndexFunc_float32_float32 x0 x1 = some r) (h0 : Y135.val σ v0 x0) (h1 : (fn1 Try.prog (TF .f32) TB x1).p σ v1) :
    Calls Try.prog 133 #[v0, v1] w (Ret [] w σ ((TI .i64).sv r) []) := by
  unfold slices_IndexFunc_float32_float32 at hF
  refine start (args := [v0, v1]) Try.func133 rfl 19 rfl [] [(0, (Y135.sv x0)), (1, (fn1 Try.prog (TF .f32) TB x1))] [] (sat_start _ hσ) rfl (args1 rfl h0 (args1 rfl h1 (args0))) ?_
  refine T.seq ?_
  refine T.region mix 1 [4] [0] [(sp ((TI .i64).sv 0))] (by kernel_rfl) (AOK.cons (fun ρ a w hs hz hΓ hp => gp (d_assign (vI rfl))) AOK.nil rfl) (fun vs1 => ?_)
  refine T.nil ?_
  refine T.norm ?_
  refine T.seq ?_
  refine T.seq ?_
  refine T.region mix 3 [6, 7, 8] [0, 1, 0] [(sp (Y135.sv x0)), (sp ((TI .i64).sv (x0.length : Int))), (sp ((TI .i64).sv 0))] (by kernel_rfl) (AOK.cons (fun ρ a w hs hz hΓ hp => gp (d_move (hΓ 0 rfl))) (AOK.cons (fun ρ a w hs hz hΓ hp => gp (d_lenR u135 (hp 0 _ rfl rfl).1)) (AOK.cons (fun ρ a w hs hz hΓ hp => gp (d_move (vI rfl))) AOK.nil rfl) rfl) rfl) (fun vs2 => ?_)
  refine T.nil ?_
  refine T.norm ?_
  obtain ⟨yl3, e4, hF⟩ := bindS hF
  refine T.joinD (ι := Int × (Unit)) (fun p => yl3 = .inl p.1) (Γ' := fun p => E []) (H' := fun p => HL []) (fun p hy => ?_) (fun hk => ?_)
  · obtain ⟨o8, _⟩ := p
    cases hy
    refine T.norm ?_
    refine T.seq ?_
    refine T.region mix 1 [4] [0] [(sp ((TI .i64).sv (-1)))] (by kernel_rfl) (AOK.cons (fun ρ a w hs hz hΓ hp => gp (d_assign (vI rfl))) AOK.nil rfl) (fun vs5 => ?_)
    refine T.nil ?_
    refine T.norm ?_
    refine T.ret ?_
    obtain rfl := Option.some.inj hF
    refine T.fin0 fun ρ a w st => ?_
    exact ⟨_, results_one rfl rfl, (st.env 4)⟩
  · skip
    refine T.block ?_
    refine T.loop (f := slices_IndexFunc_float32_float32_l1 x0 x1) (σ := Int) (Z := Unit) (fun s z => E [(0, (Y135.sv x0)), (1, (fn1 Try.prog (TF .f32) TB x1)), (7, ((TI .i64).sv (x0.length : Int))), (8, ((TI .i64).sv s))]) (fun s z => HL []) e4 () (fun φ h => T.toh h ⟨fun _ _ h => h, fun _ _ h => h, fun _ _ h => h, fun _ _ h => h, trivial⟩ trivial) (fun k s z uu3 hu3 hn3 => ?_)
    obtain ⟨s8, rfl⟩ : ∃ q, q = s := ⟨_, rfl⟩
    dsimp only [slices_IndexFunc_float32_float32_l1] at hu3
    refine T.seq ?_
    refine T.region mix 1 [9] [0] [(sp (TB.sv (decide (s8 < (x0.length : Int)))))] (by kernel_rfl) (AOK.cons (fun ρ a w hs hz hΓ hp => gp (d_lss (hΓ 8 rfl) (hΓ 7 rfl))) AOK.nil rfl) (fun vs6 => ?_)
    refine T.nil ?_
    refine T.norm ?_
    refine T.seq ?_
    refine T.cond (b := (decide (s8 < (x0.length : Int)))) (fun _ _ h => h) (fun hc => ?_) (fun hc => ?_)
    · replace hu3 := iteT hu3 hc
      refine T.skip ?_
      refine T.norm ?_
      refine T.seq ?_
      refine T.block ?_
      refine T.seq ?_
      refine T.region mix 2 [10, 5] [0, 1] [(sp ((TI .i64).sv s8)), (sp ((TI .i64).sv s8))] (by kernel_rfl) (AOK.cons (fun ρ a w hs hz hΓ hp => gp (d_move (hΓ 8 rfl))) (AOK.cons (fun ρ a w hs hz hΓ hp => gp (d_assign (hp 0 _ rfl rfl).1)) AOK.nil rfl) rfl) (fun vs7 => ?_)
      refine T.nil ?_
      refine T.norm ?_
      refine T.seq ?_
      obtain ⟨x14, e9, hu3⟩ := bindS hu3
      obtain ⟨x16, e10, hu3⟩ := bindS hu3
      refine T.region mix 6 [11, 12, 13, 14, 15, 16] [0, 0, 0, 6, 14, 31] [(sp (fn1 Try.prog (TF .f32) TB x1)), (sp (Y135.sv x0)), (sp ((TI .i64).sv s8)), (sp ((TP (TF .f32)).sv x14)), (sp ((TF .f32).sv x14)), (sp (TB.sv x16))] (by kernel_rfl) (AOK.cons (fun ρ a w hs hz hΓ hp => gp (d_move (hΓ 1 rfl))) (AOK.cons (fun ρ a w hs hz hΓ hp => gp (d_move (hΓ 0 rfl))) (AOK.cons (fun ρ a w hs hz hΓ hp => gp (d_move (hΓ 5 rfl))) (AOK.cons (fun ρ a w hs hz hΓ hp => gp (d_idxR u135 y45 (hp 1 _ rfl rfl).1 (hp 2 _ rfl rfl).1 e9)) (AOK.cons (fun ρ a w hs hz hΓ hp => gp (d_load y45 hs.le (hp 3 _ rfl rfl).1)) (AOK.cons (fun ρ a w hs hz hΓ hp => gp (d_callV1 hs.le flat_TB ((hp 0 _ rfl rfl).1) ((hp 4 _ rfl rfl).1) e10)) AOK.nil rfl) rfl) rfl) rfl) rfl) rfl) (fun vs8 => ?_)
      refine T.nil ?_
      refine T.norm ?_
      refine T.cond (b := x16) (fun _ _ h => h) (fun hc => ?_) (fun hc => ?_)
      · replace hu3 := iteT hu3 hc
        refine T.seq ?_
        refine T.region mix 2 [17, 4] [0, 1] [(sp ((TI .i64).sv s8)), (sp ((TI .i64).sv s8))] (by kernel_rfl) (AOK.cons (fun ρ a w hs hz hΓ hp => gp (d_move (hΓ 5 rfl))) (AOK.cons (fun ρ a w hs hz hΓ hp => gp (d_assign (hp 0 _ rfl rfl).1)) AOK.nil rfl) rfl) (fun vs11 => ?_)
        refine T.nil ?_
        refine T.norm ?_
        refine T.ret ?_
        obtain rfl := Option.some.inj hu3
        cases hn3
        obtain rfl := Option.some.inj hF
        refine T.fin0 fun ρ a w st => ?_
        exact ⟨_, results_one rfl rfl, (st.env 4)⟩
      · replace hu3 := iteF hu3 hc
        refine T.skip ?_
        refine T.fallX ?_
        refine T.norm ?_
        refine T.region mix 2 [18, 8] [0, 1] [(sp ((TI .i64).sv (IntKind.i64.wrap (s8 + 1)))), (sp ((TI .i64).sv (IntKind.i64.wrap (s8 + 1))))] (by kernel_rfl) (AOK.cons (fun ρ a w hs hz hΓ hp => gp (d_add (hΓ 8 rfl) (vI rfl))) (AOK.cons (fun ρ a w hs hz hΓ hp => gp (d_move (hp 0 _ rfl rfl).1)) AOK.nil rfl) rfl) (fun vs12 => ?_)
        refine T.nil ?_
        obtain rfl := Option.some.inj hu3
        exact T.again hn3 () (fun φ h => T.toh h ⟨fun _ _ h => h, fun _ _ h => h, fun _ _ h => h, fun _ _ h => h, trivial⟩ trivial)
    · replace hu3 := iteF hu3 hc
      refine T.exit ?_
      obtain rfl := Option.some.inj hu3
      repeat (first | refine T.passX ?_ | refine T.inX (by decide) ?_)
      refine T.hereX ?_
      exact T.toh (hk (s8, ()) (Eq.symm hn3)) trivial trivial

theorem c128 (w : World) (v0 v1 : Value) {σ : Heap} (hσ : σ.le (snap w)) {x0 : (List Nat)} {x1 : (Nat → Option Bool)} {r : Bool} (hF : slices_ContainsFunc_float32_float32 x0 x1 = some r) (h0 : Y135.val σ v0 x0) (h1 : (fn1 Try.prog (TF .f32) TB x1).p σ v1) :
    Calls Try.prog 128 #[v0, v1] w (Ret [] w σ (TB.sv r) []) := by
  unfold slices_ContainsFunc_float32_float32 at hF
  refine start (args := [v0, v1]) Try.func128 rfl 9 rfl [] [(0, (Y135.sv x0)), (1, (fn1 Try.prog (TF .f32) TB x1))] [] (sat_start _ hσ) rfl (args1 rfl h0 (args1 rfl h1 (args0))) ?_
  refine T.seq ?_
  refine T.region mix 1 [4] [0] [(sp (TB.sv false))] (by kernel_rfl) (AOK.cons (fun ρ a w hs hz hΓ hp => gp (d_assign (vB _))) AOK.nil rfl) (fun vs1 => ?_)
  refine T.nil ?_
  refine T.norm ?_
  refine T.seq ?_
  obtain ⟨x7, e3, hF⟩ := bindS hF
  refine T.region mix 5 [5, 6, 7, 8, 4] [0, 0, 3, 7, 15] [(sp (Y135.sv x0)), (sp (fn1 Try.prog (TF .f32) TB x1)), (sp ((TI .i64).sv x7)), (sp (TB.sv (decide (0 ≤ x7)))), (sp (TB.sv (decide (0 ≤ x7))))] (by kernel_rfl) (AOK.cons (fun ρ a w hs hz hΓ hp => gp (d_move (hΓ 0 rfl))) (AOK.cons (fun ρ a w hs hz hΓ hp => gp (d_move (hΓ 1 rfl))) (AOK.cons (fun ρ a w hs hz hΓ hp => gp (d_call fn133 hs.le mapA2 (c133 w _ _ hs.le e3 ((hp 0 _ rfl rfl).1) ((hp 1 _ rfl rfl).1)))) (AOK.cons (fun ρ a w hs hz hΓ hp => gp (d_geq (hp 2 _ rfl rfl).1 (vI rfl))) (AOK.cons (fun ρ a w hs hz hΓ hp => gp (d_assign (hp 3 _ rfl rfl).1)) AOK.nil rfl) rfl) rfl) rfl) rfl) (fun vs2 => ?_)
  refine T.nil ?_
  refine T.norm ?_
  refine T.ret ?_
  obtain rfl := Option.some.inj hF
  refine T.fin0 fun ρ a w st => ?_
  exact ⟨_, results_one rfl rfl, (st.env 4)⟩

theorem c80 (w : World) (v0 : Value) {σ : Heap} (hσ : σ.le (snap w)) {x0 : Nat} {r : Bool} (hF : impl_IsPlain x0 = some r) (h0 : (TF .f32).val σ v0 x0) :
    Calls Try.prog 80 #[v0] w (Ret [] w σ (TB.sv r) []) := by
  unfold impl_IsPlain at hF
  refine start (args := [v0]) Try.func80 rfl 9 rfl [] [(0, ((TF .f32).sv x0))] [] (sat_start _ hσ) rfl (args1 rfl h0 (args0)) ?_
  refine T.seq ?_
  refine T.region mix 1 [2] [0] [(sp (TB.sv false))] (by kernel_rfl) (AOK.cons (fun ρ a w hs hz hΓ hp => gp (d_assign (vB _))) AOK.nil rfl) (fun vs1 => ?_)
  refine T.nil ?_
  refine T.norm ?_
  refine T.seq ?_
  refine T.region mix 7 [3, 4, 5, 6, 7, 8, 2] [0, 1, 3, 7, 15, 31, 63] [(sp ((TF .f32).sv x0)), (sp (TB.sv (fgeq .f32 x0 3379831808))), (sp (TB.sv (fgeq .f32 x0 3379831808))), (sp (SRel.when ((fgeq .f32 x0 3379831808) = true) ((TF .f32).sv x0))), (sp (SRel.when ((fgeq .f32 x0 3379831808) = true) (TB.sv (fleq .f32 x0 1232348160)))), (sp (TB.sv ((fgeq .f32 x0 3379831808) && (fleq .f32 x0 1232348160)))), (sp (TB.sv ((fgeq .f32 x0 3379831808) && (fleq .f32 x0 1232348160))))] (by kernel_rfl) (AOK.cons (fun ρ a w hs hz hΓ hp => gp (d_move (hΓ 0 rfl))) (AOK.cons (fun ρ a w hs hz hΓ hp => gp (d_fgeq (hp 0 _ rfl rfl).1 (vF (by decide +kernel)))) (AOK.cons (fun ρ a w hs hz hΓ hp => gp (d_move (hp 1 _ rfl rfl).1)) (AOK.cons (fun ρ a w hs hz hΓ hp => gg (g := 2) (d := 5) hz rfl (hp 2 _ rfl rfl).1 rfl (fun hc => d_move (hΓ 0 rfl))) (AOK.cons (fun ρ a w hs hz hΓ hp => gg (g := 2) (d := 5) hz rfl (hp 2 _ rfl rfl).1 rfl (fun hc => d_fleq ((hp 3 _ rfl rfl).1 hc) (vF (by decide +kernel)))) (AOK.cons (fun ρ a w hs hz hΓ hp => gp (d_pick (hp 2 _ rfl rfl).1 (fun hc => pA hc ((hp 4 _ rfl rfl).1 hc)) (fun hc => pAN hc))) (AOK.cons (fun ρ a w hs hz hΓ hp => gp (d_assign (hp 5 _ rfl rfl).1)) AOK.nil rfl) rfl) rfl) rfl) rfl) rfl) rfl) (fun vs2 => ?_)
  refine T.nil ?_
  refine T.norm ?_
  refine T.ret ?_
  obtain rfl := Option.some.inj hF
  refine T.fin0 fun ρ a w st => ?_
  exact ⟨_, results_one rfl rfl, (st.env 2)⟩

theorem c129 (w : World) (v0 : Value) {σ : Heap} (hσ : σ.le (snap w)) {x0 : Nat} {r : Bool} (hF : impl_arePlain_c1 x0 = some r) (h0 : (TF .f32).val σ v0 x0) :
    Calls Try.prog 129 #[v0] w (Ret [] w σ (TB.sv r) []) := by
  unfold impl_arePlain_c1 at hF
  refine start (args := [v0]) Try.func129 rfl 6 rfl [] [(0, ((TF .f32).sv x0))] [] (sat_start _ hσ) rfl (args1 rfl h0 (args0)) ?_
  refine T.seq ?_
  refine T.region mix 1 [2] [0] [(sp (TB.sv false))] (by kernel_rfl) (AOK.cons (fun ρ a w hs hz hΓ hp => gp (d_assign (vB _))) AOK.nil rfl) (fun vs1 => ?_)
  refine T.nil ?_
  refine T.norm ?_
  refine T.seq ?_
  obtain ⟨x4, e3, hF⟩ := bindS hF
  refine T.region mix 4 [3, 4, 5, 2] [0, 1, 3, 7] [(sp ((TF .f32).sv x0)), (sp (TB.sv x4)), (sp (TB.sv (!x4))), (sp (TB.sv (!x4)))] (by kernel_rfl) (AOK.cons (fun ρ a w hs hz hΓ hp => gp (d_move (hΓ 0 rfl))) (AOK.cons (fun ρ a w hs hz hΓ hp => gp (d_call fn80 hs.le mapA1 (c80 w _ hs.le e3 ((hp 0 _ rfl rfl).1)))) (AOK.cons (fun ρ a w hs hz hΓ hp => gp (d_not (hp 1 _ rfl rfl).1)) (AOK.cons (fun ρ a w hs hz hΓ hp => gp (d_assign (hp 2 _ rfl rfl).1)) AOK.nil rfl) rfl) rfl) rfl) (fun vs2 => ?_)
  refine T.nil ?_
  refine T.norm ?_
  refine T.ret ?_
  obtain rfl := Option.some.inj hF
  refine T.fin0 fun ρ a w st => ?_
  exact ⟨_, results_one rfl rfl, (st.env 2)⟩

theorem c112 (w : World) (v0 : Value) {σ : Heap} (hσ : σ.le (snap w)) {x0 : (List Nat)} {r : Bool} (hF : impl_arePlain x0 = some r) (h0 : Y135.val σ v0 x0) :
    Calls Try.prog 112 #[v0] w (Ret [] w σ (TB.sv r) []) := by
  unfold impl_arePlain at hF
  refine start (args := [v0]) Try.func112 rfl 6 rfl [] [(0, (Y135.sv x0))] [] (sat_start _ hσ) rfl (args1 rfl h0 (args0)) ?_
  refine T.seq ?_
  refine T.region mix 1 [2] [0] [(sp (TB.sv false))] (by kernel_rfl) (AOK.cons (fun ρ a w hs hz hΓ hp => gp (d_assign (vB _))) AOK.nil rfl) (fun vs1 => ?_)
  refine T.nil ?_
  refine T.norm ?_
  refine T.seq ?_
  obtain ⟨x4, e3, hF⟩ := bindS hF
  refine T.region mix 4 [3, 4, 5, 2] [0, 1, 3, 7] [(sp (Y135.sv x0)), (sp (TB.sv x4)), (sp (TB.sv (!x4))), (sp (TB.sv (!x4)))] (by kernel_rfl) (AOK.cons (fun ρ a w hs hz hΓ hp => gp (d_move (hΓ 0 rfl))) (AOK.cons (fun ρ a w hs hz hΓ hp => gp (d_call fn128 hs.le mapA2 (c128 w _ _ hs.le e3 ((hp 0 _ rfl rfl).1) (fv1 fn129 flat_TB (fun w σ u0 x0 y hσ h0 hf => c129 w _  hσ hf h0))))) (AOK.cons (fun ρ a w hs hz hΓ hp => gp (d_not (hp 1 _ rfl rfl).1)) (AOK.cons (fun ρ a w hs hz hΓ hp => gp (d_assign (hp 2 _ rfl rfl).1)) AOK.nil rfl) rfl) rfl) rfl) (fun vs2 => ?_)
  refine T.nil ?_
  refine T.norm ?_
  refine T.ret ?_
  obtain rfl := Option.some.inj hF
  refine T.fin0 fun ρ a w st => ?_
  exact ⟨_, results_one rfl rfl, (st.env 2)⟩

theorem c111 (w : World) (v0 : Value) {σ : Heap} (hσ : σ.le (snap w)) {x0 : (List Nat)} {r : Bool} (hF : impl_areSpots_c1 x0 = some r) (h0 : Y57.val σ v0 x0) :
    Calls Try.prog 111 #[v0] w (Ret [] w σ (TB.sv r) []) := by
  unfold impl_areSpots_c1 at hF
  refine start (args := [v0]) Try.func111 rfl 6 rfl [] [(0, (Y57.sv x0))] [] (sat_start _ hσ) rfl (args1 rfl h0 (args0)) ?_
  refine T.seq ?_
  refine T.region mix 2 [1, 2] [0, 0] [(sp ((TP Y57).sv x0)), (sp (TB.sv false))] (by kernel_rfl) (AOK.cons (fun ρ a w hs hz hΓ hp => gp (d_box hs.le (hΓ 0 rfl))) (AOK.cons (fun ρ a w hs hz hΓ hp => gp (d_assign (vB _))) AOK.nil rfl) rfl) (fun vs1 => ?_)
  refine T.nil ?_
  refine T.norm ?_
  refine T.seq ?_
  obtain ⟨x4, e3, hF⟩ := bindS hF
  refine T.region mix 4 [3, 4, 5, 2] [0, 1, 3, 7] [(sp (Y135.sv x0)), (sp (TB.sv x4)), (sp (TB.sv (!x4))), (sp (TB.sv (!x4)))] (by kernel_rfl) (AOK.cons (fun ρ a w hs hz hΓ hp => gp (d_sliceA u60 y45 rfl (hΓ 1 rfl))) (AOK.cons (fun ρ a w hs hz hΓ hp => gp (d_call fn112 hs.le mapA1 (c112 w _ hs.le e3 ((hp 0 _ rfl rfl).1)))) (AOK.cons (fun ρ a w hs hz hΓ hp => gp (d_not (hp 1 _ rfl rfl).1)) (AOK.cons (fun ρ a w hs hz hΓ hp => gp (d_assign (hp 2 _ rfl rfl).1)) AOK.nil rfl) rfl) rfl) rfl) (fun vs2 => ?_)
  refine T.nil ?_
  refine T.norm ?_
  refine T.ret ?_
  obtain rfl := Option.some.inj hF
  refine T.fin0 fun ρ a w st => ?_
  exact ⟨_, results_one rfl rfl, (st.env 2)⟩

theorem c79 (w : World) (v0 : Value) {σ : Heap} (hσ : σ.le (snap w)) {x0 : (List (List Nat))} {r : Bool} (hF : impl_areSpots x0 = some r) (h0 : Y132.val σ v0 x0) :
    Calls Try.prog 79 #[v0] w (Ret [] w σ (TB.sv r) []) := by
  unfold impl_areSpots at hF
  refine start (args := [v0]) Try.func79 rfl 6 rfl [] [(0, (Y132.sv x0))] [] (sat_start _ hσ) rfl (args1 rfl h0 (args0)) ?_
  refine T.seq ?_
  refine T.region mix 1 [2] [0] [(sp (TB.sv false))] (by kernel_rfl) (AOK.cons (fun ρ a w hs hz hΓ hp => gp (d_assign (vB _))) AOK.nil rfl) (fun vs1 => ?_)
  refine T.nil ?_
  refine T.norm ?_
  refine T.seq ?_
  obtain ⟨x4, e3, hF⟩ := bindS hF
  refine T.region mix 4 [3, 4, 5, 2] [0, 1, 3, 7] [(sp (Y132.sv x0)), (sp (TB.sv x4)), (sp (TB.sv (!x4))), (sp (TB.sv (!x4)))] (by kernel_rfl) (AOK.cons (fun ρ a w hs hz hΓ hp => gp (d_move (hΓ 0 rfl))) (AOK.cons (fun ρ a w hs hz hΓ hp => gp (d_call fn110 hs.le mapA2 (c110 w _ _ hs.le e3 ((hp 0 _ rfl rfl).1) (fv1 fn111 flat_TB (fun w σ u0 x0 y hσ h0 hf => c111 w _  hσ hf h0))))) (AOK.cons (fun ρ a w hs hz hΓ hp => gp (d_not (hp 1 _ rfl rfl).1)) (AOK.cons (fun ρ a w hs hz hΓ hp => gp (d_assign (hp 2 _ rfl rfl).1)) AOK.nil rfl) rfl) rfl) rfl) (fun vs2 => ?_)
  refine T.nil ?_
  refine T.norm ?_
  refine T.ret ?_
  obtain rfl := Option.some.inj hF
  refine T.fin0 fun ρ a w st => ?_
  exact ⟨_, results_one rfl rfl, (st.env 2)⟩

theorem c113 (w : World) (v0 v1 : Value) {σ : Heap} (hσ : σ.le (snap w)) {x0 : Nat} {x1 : Nat} {r : Int} (hF : impl_markOf_c1 x0 x1 = some r) (h0 : (TF .f32).val σ v0 x0) (h1 : (TP (TF .f32)).val σ v1 x1) :
    Calls Try.prog 113 #[v0, v1] w (Ret [] w σ ((TI .i64).sv r) []) := by
  unfold impl_markOf_c1 at hF
  refine start (args := [v0, v1]) Try.func113 rfl 11 rfl [] [(0, ((TF .f32).sv x0)), (1, ((TP (TF .f32)).sv x1))] [] (sat_start _ hσ) rfl (args1 rfl h0 (args1 rfl h1 (args0))) ?_
  refine T.seq ?_
  refine T.region mix 1 [3] [0] [(sp ((TI .i64).sv 0))] (by kernel_rfl) (AOK.cons (fun ρ a w hs hz hΓ hp => gp (d_assign (vI rfl))) AOK.nil rfl) (fun vs1 => ?_)
  refine T.nil ?_
  refine T.norm ?_
  refine T.seq ?_
  obtain ⟨x8, e3, hF⟩ := bindS hF
  obtain ⟨x9, e4, hF⟩ := bindS hF
  obtain ⟨x10, e5, hF⟩ := bindS hF
  refine T.region mix 8 [4, 5, 6, 7, 8, 9, 10, 3] [0, 0, 3, 7, 15, 31, 63, 127] [(sp ((TF .f32).sv x0)), (sp ((TF .f32).sv x1)), (sp ((TF .f32).sv (fmul .f32 x0 x1))), (sp ((TF .f32).sv (fadd .f32 (fmul .f32 x0 x1) 1056964608))), (sp ((TF .f64).sv x8)), (sp ((TF .f64).sv x9)), (sp ((TI .i64).sv x10)), (sp ((TI .i64).sv x10))] (by kernel_rfl) (AOK.cons (fun ρ a w hs hz hΓ hp => gp (d_move (hΓ 0 rfl))) (AOK.cons (fun ρ a w hs hz hΓ hp => gp (d_load y45 hs.le (hΓ 1 rfl))) (AOK.cons (fun ρ a w hs hz hΓ hp => gp (d_fmul (hp 0 _ rfl rfl).1 (hp 1 _ rfl rfl).1)) (AOK.cons (fun ρ a w hs hz hΓ hp => gp (d_fadd (hp 2 _ rfl rfl).1 (vF (by decide +kernel)))) (AOK.cons (fun ρ a w hs hz hΓ hp => gp (d_fconv u45 u109 rfl (hp 3 _ rfl rfl).1 e3)) (AOK.cons (fun ρ a w hs hz hΓ hp => gp (d_call fn114 hs.le mapA1 (c114 w _ hs.le e4 ((hp 4 _ rfl rfl).1)))) (AOK.cons (fun ρ a w hs hz hΓ hp => gp (d_ftoI u109 u2 (hp 5 _ rfl rfl).1 e5)) (AOK.cons (fun ρ a w hs hz hΓ hp => gp (d_assign (hp 6 _ rfl rfl).1)) AOK.nil rfl) rfl) rfl) rfl) rfl) rfl) rfl) rfl) (fun vs2 => ?_)
  refine T.nil ?_
  refine T.norm ?_
  refine T.ret ?_
  obtain rfl := Option.some.inj hF
  refine T.fin0 fun ρ a w st => ?_
  exact ⟨_, results_one rfl rfl, (st.env 3)⟩

theorem c115 (w : World) (v0 : Value) {σ : Heap} (hσ : σ.le (snap w)) {x0 : Int} {r : Int} (hF : impl_markOf_c2 x0 = some r) (h0 : (TI .i64).val σ v0 x0) :
    Calls Try.prog 115 #[v0] w (Ret [] w σ ((TI .i16).sv r) []) := by
  unfold impl_markOf_c2 at hF
  refine start (args := [v0]) Try.func115 rfl 7 rfl [] [(0, ((TI .i64).sv x0))] [] (sat_start _ hσ) rfl (args1 rfl h0 (args0)) ?_
  refine T.seq ?_
  refine T.region mix 1 [2] [0] [(sp ((TI .i16).sv 0))] (by kernel_rfl) (AOK.cons (fun ρ a w hs hz hΓ hp => gp (d_assign (vI rfl))) AOK.nil rfl) (fun vs1 => ?_)
  refine T.nil ?_
  refine T.norm ?_
  refine T.seq ?_
  refine T.region mix 5 [3, 4, 5, 6, 2] [0, 1, 3, 7, 15] [(sp ((TI .i64).sv x0)), (sp ((TI .i64).sv (max x0 (-500)))), (sp ((TI .i64).sv (min (max x0 (-500)) 500))), (sp ((TI .i16).sv (IntKind.i16.wrap (min (max x0 (-500)) 500)))), (sp ((TI .i16).sv (IntKind.i16.wrap (min (max x0 (-500)) 500))))] (by kernel_rfl) (AOK.cons (fun ρ a w hs hz hΓ hp => gp (d_move (hΓ 0 rfl))) (AOK.cons (fun ρ a w hs hz hΓ hp => gp (d_max2 (hp 0 _ rfl rfl).1 (vI rfl))) (AOK.cons (fun ρ a w hs hz hΓ hp => gp (d_min2 (hp 1 _ rfl rfl).1 (vI rfl))) (AOK.cons (fun ρ a w hs hz hΓ hp => gp (d_conv u2 u24 (hp 2 _ rfl rfl).1)) (AOK.cons (fun ρ a w hs hz hΓ hp => gp (d_assign (hp 3 _ rfl rfl).1)) AOK.nil rfl) rfl) rfl) rfl) rfl) (fun vs2 => ?_)
  refine T.nil ?_
  refine T.norm ?_
  refine T.ret ?_
  obtain rfl := Option.some.inj hF
  refine T.fin0 fun ρ a w st => ?_
  exact ⟨_, results_one rfl rfl, (st.env 2)⟩

theorem c81 (w : World) (v0 v1 : Value) {σ : Heap} (hσ : σ.le (snap w)) {x0 : (List Nat)} {x1 : Nat} {r : (List Int)} (hF : impl_markOf x0 x1 = some r) (h0 : Y57.val σ v0 x0) (h1 : (TF .f32).val σ v1 x1) :
    Calls Try.prog 81 #[v0, v1] w (Ret [] w σ (Y25.sv r) []) := by
  unfold impl_markOf at hF
  refine start (args := [v0, v1]) Try.func81 rfl 23 rfl [] [(0, (Y57.sv x0)), (1, ((TF .f32).sv x1))] [] (sat_start _ hσ) rfl (args1 rfl h0 (args1 rfl h1 (args0))) ?_
  refine T.seq ?_
  refine T.region mix 3 [2, 3, 4] [0, 0, 0] [(sp ((TP Y57).sv x0)), (sp ((TP (TF .f32)).sv x1)), (sO SRel.any [(1, (boxR 29 Y25 (List.replicate 2 0)))])] (by kernel_rfl) (AOK.cons (fun ρ a w hs hz hΓ hp => gp (d_box hs.le (hΓ 0 rfl))) (AOK.cons (fun ρ a w hs hz hΓ hp => gp (d_box hs.le (hΓ 1 rfl))) (AOK.cons (fun ρ a w hs hz hΓ hp => g_alloc hs.le z29 zc29) AOK.nil rfl) rfl) rfl) (fun vs1 => ?_)
  refine T.nil ?_
  refine T.norm ?_
  refine T.seq ?_
  refine T.region mix 2 [7, 5] [0, 1] [(sp (fn1 Try.prog (TF .f32) (TI .i64) (fun (a0 : Nat) => impl_markOf_c1 a0 x1))), (sp (fn1 Try.prog (TF .f32) (TI .i64) (fun (a0 : Nat) => impl_markOf_c1 a0 x1)))] (by kernel_rfl) (AOK.cons (fun ρ a w hs hz hΓ hp => gp (d_makeF ⟨113, _, rfl, fn113, fun w σ u0 x0 y hle hσ h0 hf => by rw [mapA1]; exact calls_eq app1_1 (c113 w _ _  (Heap.le_refl _) hf (Ty.val_mono _ hσ h0) (Ty.val_mono _ hle (hΓ 3 rfl)))⟩)) (AOK.cons (fun ρ a w hs hz hΓ hp => gp (d_assign (hp 0 _ rfl rfl).1)) AOK.nil rfl) rfl) (fun vs2 => ?_)
  refine T.nil ?_
  refine T.norm ?_
  refine T.seq ?_
  refine T.region mix 1 [6] [0] [(sp (fn1 Try.prog (TI .i64) (TI .i16) impl_markOf_c2))] (by kernel_rfl) (AOK.cons (fun ρ a w hs hz hΓ hp => gp (d_assign (fv1 fn115 (flat_TI _) (fun w σ u0 x0 y hσ h0 hf => c115 w _  hσ hf h0)))) AOK.nil rfl) (fun vs3 => ?_)
  refine T.nil ?_
  refine T.norm ?_
  refine T.seq ?_
  obtain ⟨x12, e5, hF⟩ := bindS hF
  obtain ⟨x14, e6, hF⟩ := bindS hF
  obtain ⟨x19, e7, hF⟩ := bindS hF
  obtain ⟨x21, e8, hF⟩ := bindS hF
  refine T.region mix 15 [8, 9, 10, 11, 12, 13, 14, 15, 16, 17, 18, 19, 20, 21, 22] [0, 0, 0, 4, 14, 30, 63, 0, 0, 0, 512, 1919, 3967, 8191, 16383, 32767] [(sp (fn1 Try.prog (TI .i64) (TI .i16) impl_markOf_c2)), (sp (fn1 Try.prog (TF .f32) (TI .i64) (fun (a0 : Nat) => impl_markOf_c1 a0 x1))), (sp ((TP (TF .f32)).sv (nth x0 0))), (sp ((TF .f32).sv (nth x0 0))), (sp ((TI .i64).sv x12)), (sp ((TI .i64).sv (IntKind.i64.wrap (32 + x12)))), (sp ((TI .i16).sv x14)), (sp (fn1 Try.prog (TI .i64) (TI .i16) impl_markOf_c2)), (sp (fn1 Try.prog (TF .f32) (TI .i64) (fun (a0 : Nat) => impl_markOf_c1 a0 x1))), (sp ((TP (TF .f32)).sv (nth x0 1))), (sp ((TF .f32).sv (nth x0 1))), (sp ((TI .i64).sv x19)), (sp ((TI .i64).sv (IntKind.i64.wrap (32 - x19)))), (sp ((TI .i16).sv x21)), (sp (Y25.sv ([x14, x21] : (List Int))))] (by kernel_rfl) (AOK.cons (fun ρ a w hs hz hΓ hp => gp (d_move (hΓ 6 rfl))) (AOK.cons (fun ρ a w hs hz hΓ hp => gp (d_move (hΓ 5 rfl))) (AOK.cons (fun ρ a w hs hz hΓ hp => gp (d_idxPc .i64 0 u60 y45 (hΓ 2 rfl) rfl)) (AOK.cons (fun ρ a w hs hz hΓ hp => gp (d_load y45 hs.le (hp 2 _ rfl rfl).1)) (AOK.cons (fun ρ a w hs hz hΓ hp => gp (d_callV1 hs.le (flat_TI _) ((hp 1 _ rfl rfl).1) ((hp 3 _ rfl rfl).1) e5)) (AOK.cons (fun ρ a w hs hz hΓ hp => gp (d_add (vI rfl) (hp 4 _ rfl rfl).1)) (AOK.cons (fun ρ a w hs hz hΓ hp => gp (d_callV1 hs.le (flat_TI _) ((hp 0 _ rfl rfl).1) ((hp 5 _ rfl rfl).1) e6)) (AOK.cons (fun ρ a w hs hz hΓ hp => gp (d_move (hΓ 6 rfl))) (AOK.cons (fun ρ a w hs hz hΓ hp => gp (d_move (hΓ 5 rfl))) (AOK.cons (fun ρ a w hs hz hΓ hp => gp (d_idxPc .i64 1 u60 y45 (hΓ 2 rfl) rfl)) (AOK.cons (fun ρ a w hs hz hΓ hp => gp (d_load y45 hs.le (hp 9 _ rfl rfl).1)) (AOK.cons (fun ρ a w hs hz hΓ hp => gp (d_callV1 hs.le (flat_TI _) ((hp 8 _ rfl rfl).1) ((hp 10 _ rfl rfl).1) e7)) (AOK.cons (fun ρ a w hs hz hΓ hp => gp (d_sub (vI rfl) (hp 11 _ rfl rfl).1)) (AOK.cons (fun ρ a w hs hz hΓ hp => gp (d_callV1 hs.le (flat_TI _) ((hp 7 _ rfl rfl).1) ((hp 12 _ rfl rfl).1) e8)) (AOK.cons (fun ρ a w hs hz hΓ hp => gp (d_buildA u29 y24 z29 zc29 (Fills.part rfl (hp 6 _ rfl rfl).1 (At.nth (At.refl _ _) 0 rfl) (Fills.part rfl (hp 13 _ rfl rfl).1 (At.nth (At.refl _ _) 1 rfl) (Fills.done _))))) AOK.nil rfl) rfl) rfl) rfl) rfl) rfl) rfl) rfl) rfl) rfl) rfl) rfl) rfl) rfl) rfl) (fun vs4 => ?_)
  refine T.store 1 y29 rfl (fun ρ a w st => ⟨.inl ⟨(st.env 4).1, rfl⟩, (st.env 22)⟩) (At.refl Y25 (List.replicate 2 0)) ?_
  refine T.nil ?_
  refine T.norm ?_
  refine T.ret ?_
  obtain rfl := Option.some.inj hF
  refine T.fin0 fun ρ a w st => ?_
  obtain ⟨q0, hr0, hv0⟩ := rv_cell y29 st.sat 1 rfl (st.env 4).1
  exact ⟨_, results_one rfl hr0, hv0⟩

theorem c35 (w : World) (v0 v1 : Value) {σ : Heap} (hσ : σ.le (snap w)) {x0 : (List Nat)} {x1 : Nat} {r : ((List Int) × Int)} (hF : impl_MarkOf x0 x1 = some r) (h0 : Y57.val σ v0 x0) (h1 : (TF .f32).val σ v1 x1) :
    Calls Try.prog 35 #[v0, v1] w (Ret [] w σ (SRel.tup2 (Y25.sv r.1) ((TI .i64).sv r.2)) []) := by
  unfold impl_MarkOf at hF
  refine start (args := [v0, v1]) Try.func35 rfl 19 rfl [] [(0, (Y57.sv x0)), (1, ((TF .f32).sv x1))] [] (sat_start _ hσ) rfl (args1 rfl h0 (args1 rfl h1 (args0))) ?_
  refine T.seq ?_
  refine T.region mix 3 [2, 4, 5] [0, 0, 0] [(sp ((TP Y57).sv x0)), (sO SRel.any [(1, (boxR 29 Y25 (List.replicate 2 0)))]), (sp ((TI .i64).sv 0))] (by kernel_rfl) (AOK.cons (fun ρ a w hs hz hΓ hp => gp (d_box hs.le (hΓ 0 rfl))) (AOK.cons (fun ρ a w hs hz hΓ hp => g_alloc hs.le z29 zc29) (AOK.cons (fun ρ a w hs hz hΓ hp => gp (d_assign (vI rfl))) AOK.nil rfl) rfl) rfl) (fun vs1 => ?_)
  refine T.nil ?_
  refine T.norm ?_
  refine T.seq ?_
  refine T.seq ?_
  obtain ⟨x8, e3, hF⟩ := bindS hF
  obtain ⟨x14, e5, hF⟩ := bindS hF
  obtain ⟨x12, e6⟩ : ∃ (x12 : Bool), (!x8) = false → impl_IsPlain x1 = some x12 ∧ (!x12) = x14 := by
    by_cases hb : (!x8) = false
    · replace e5 := iteF e5 hb
      obtain ⟨x12, e4, e5⟩ := bindS e5
      exact ⟨x12, fun _ => ⟨e4, Option.some.inj e5⟩⟩
    · exact ⟨default, fun h => absurd h hb⟩
  have e7 : (!x8) = true → true = x14 := fun h => Option.some.inj (iteT e5 h)
  refine T.region mix 9 [6, 7, 8, 9, 10, 11, 12, 13, 14] [0, 1, 3, 7, 15, 31, 63, 127, 255] [(sp (Y57.sv x0)), (sp (Y132.sv ([x0] : List (List Nat)))), (sp (TB.sv x8)), (sp (TB.sv (!x8))), (sp (TB.sv (!x8))), (sp (SRel.when ((!x8) = false) ((TF .f32).sv x1))), (sp (SRel.when ((!x8) = false) (TB.sv x12))), (sp (SRel.when ((!x8) = false) (TB.sv (!x12)))), (sp (TB.sv x14))] (by kernel_rfl) (AOK.cons (fun ρ a w hs hz hΓ hp => gp (d_load y60 hs.le (hΓ 2 rfl))) (AOK.cons (fun ρ a w hs hz hΓ hp => gp (d_buildSl hs.le u132 y60 z60 (by decide) (by decide) zc60 (Fills.part rfl (hp 0 _ rfl rfl).1 (At.nth (At.refl _ _) 0 rfl) (Fills.done _)))) (AOK.cons (fun ρ a w hs hz hΓ hp => gp (d_call fn79 hs.le mapA1 (c79 w _ hs.le e3 ((hp 1 _ rfl rfl).1)))) (AOK.cons (fun ρ a w hs hz hΓ hp => gp (d_not (hp 2 _ rfl rfl).1)) (AOK.cons (fun ρ a w hs hz hΓ hp => gp (d_move (hp 3 _ rfl rfl).1)) (AOK.cons (fun ρ a w hs hz hΓ hp => gg (g := 4) (d := 10) hz rfl (hp 4 _ rfl rfl).1 rfl (fun hc => d_move (hΓ 1 rfl))) (AOK.cons (fun ρ a w hs hz hΓ hp => gg (g := 4) (d := 10) hz rfl (hp 4 _ rfl rfl).1 rfl (fun hc => d_call fn80 hs.le mapA1 (c80 w _ hs.le (e6 hc).1 ((hp 5 _ rfl rfl).1 hc)))) (AOK.cons (fun ρ a w hs hz hΓ hp => gg (g := 4) (d := 10) hz rfl (hp 4 _ rfl rfl).1 rfl (fun hc => d_not ((hp 6 _ rfl rfl).1 hc))) (AOK.cons (fun ρ a w hs hz hΓ hp => gp (d_pick (hp 4 _ rfl rfl).1 (fun hc => pC (e7 hc)) (fun hc => (pE ((e6 hc).2) ((hp 7 _ rfl rfl).1 hc))))) AOK.nil rfl) rfl) rfl) rfl) rfl) rfl) rfl) rfl) rfl) (fun vs2 => ?_)
  refine T.nil ?_
  refine T.norm ?_
  refine T.cond (b := x14) (fun _ _ h => h) (fun hc => ?_) (fun hc => ?_)
  · replace hF := iteT hF hc
    refine T.seq ?_
    refine T.region mix 1 [15] [0, 1, 3] [(sp (Y25.sv ((List.replicate 2 0) : (List Int))))] (by kernel_rfl) (AOK.cons (fun ρ a w hs hz hΓ hp => gp (d_buildA u29 y24 z29 zc29 (Fills.done _))) AOK.nil rfl) (fun vs8 => ?_)
    refine T.store 1 y29 rfl (fun ρ a w st => ⟨.inl ⟨(st.env 4).1, rfl⟩, (st.env 15)⟩) (At.refl Y25 (List.replicate 2 0)) ?_
    refine T.does (R := ((TI .i64).sv 1)) rfl (fun ρ a w st => have hs := st.sat; d_assign (vI rfl)) ?_
    refine T.nil ?_
    refine T.norm ?_
    refine T.ret ?_
    obtain rfl := Option.some.inj hF
    refine T.fin0 fun ρ a w st => ?_
    obtain ⟨q0, hr0, hv0⟩ := rv_cell y29 st.sat 1 rfl (st.env 4).1
    exact ⟨_, results_two rfl hr0 rfl, ⟨_, _, rfl, hv0, (st.env 5)⟩⟩
  · replace hF := iteF hF hc
    refine T.skip ?_
    refine T.norm ?_
    refine T.seq ?_
    obtain ⟨x18, e10, hF⟩ := bindS hF
    refine T.region mix 3 [16, 17, 18] [0, 0, 3, 7, 15] [(sp (Y57.sv x0)), (sp ((TF .f32).sv x1)), (sp (Y25.sv x18))] (by kernel_rfl) (AOK.cons (fun ρ a w hs hz hΓ hp => gp (d_load y60 hs.le (hΓ 2 rfl))) (AOK.cons (fun ρ a w hs hz hΓ hp => gp (d_move (hΓ 1 rfl))) (AOK.cons (fun ρ a w hs hz hΓ hp => gp (d_call fn81 hs.le mapA2 (c81 w _ _ hs.le e10 ((hp 0 _ rfl rfl).1) ((hp 1 _ rfl rfl).1)))) AOK.nil rfl) rfl) rfl) (fun vs9 => ?_)
    refine T.store 1 y29 rfl (fun ρ a w st => ⟨.inl ⟨(st.env 4).1, rfl⟩, (st.env 18)⟩) (At.refl Y25 (List.replicate 2 0)) ?_
    refine T.does (R := ((TI .i64).sv 0)) rfl (fun ρ a w st => have hs := st.sat; d_assign (vI rfl)) ?_
    refine T.nil ?_
    refine T.norm ?_
    refine T.ret ?_
    obtain rfl := Option.some.inj hF
    refine T.fin0 fun ρ a w st => ?_
    obtain ⟨q0, hr0, hv0⟩ := rv_cell y29 st.sat 1 rfl (st.env 4).1
    exact ⟨_, results_two rfl hr0 rfl, ⟨_, _, rfl, hv0, (st.env 5)⟩⟩

theorem c36 (w : World) (v0 v1 : Value) {σ : Heap} (hσ : σ.le (snap w)) {x0 : (List Int)} {x1 : (List Int)} {r : Bool} (hF : laws_eqMark x0 x1 = some r) (h0 : Y25.val σ v0 x0) (h1 : Y25.val σ v1 x1) :
    Calls Try.prog 36 #[v0, v1] w (Ret [] w σ (TB.sv r) []) := by
  unfold laws_eqMark at hF
  refine start (args := [v0, v1]) Try.func36 rfl 17 rfl [] [(0, (Y25.sv x0)), (1, (Y25.sv x1))] [] (sat_start _ hσ) rfl (args1 rfl h0 (args1 rfl h1 (args0))) ?_
  refine T.seq ?_
  refine T.region mix 3 [2, 3, 4] [0, 0, 0] [(sp ((TP Y25).sv x0)), (sp ((TP Y25).sv x1)), (sp (TB.sv false))] (by kernel_rfl) (AOK.cons (fun ρ a w hs hz hΓ hp => gp (d_box hs.le (hΓ 0 rfl))) (AOK.cons (fun ρ a w hs hz hΓ hp => gp (d_box hs.le (hΓ 1 rfl))) (AOK.cons (fun ρ a w hs hz hΓ hp => gp (d_assign (vB _))) AOK.nil rfl) rfl) rfl) (fun vs1 => ?_)
  refine T.nil ?_
  refine T.norm ?_
  refine T.seq ?_
  refine T.seq ?_
  refine T.region mix 1 [5] [0] [(sp ((TI .i64).sv 0))] (by kernel_rfl) (AOK.cons (fun ρ a w hs hz hΓ hp => gp (d_assign (vI rfl))) AOK.nil rfl) (fun vs2 => ?_)
  refine T.nil ?_
  refine T.norm ?_
  obtain ⟨yl3, e4, hF⟩ := bindS hF
  refine T.joinD (ι := Int × (Unit)) (fun p => yl3 = .inl p.1) (Γ' := fun p => E []) (H' := fun p => HL []) (fun p hy => ?_) (fun hk => ?_)
  · obtain ⟨o5, _⟩ := p
    cases hy
    refine T.norm ?_
    refine T.seq ?_
    refine T.region mix 1 [4] [0] [(sp (TB.sv true))] (by kernel_rfl) (AOK.cons (fun ρ a w hs hz hΓ hp => gp (d_assign (vB _))) AOK.nil rfl) (fun vs5 => ?_)
    refine T.nil ?_
    refine T.norm ?_
    refine T.ret ?_
    obtain rfl := Option.some.inj hF
    refine T.fin0 fun ρ a w st => ?_
    exact ⟨_, results_one rfl rfl, (st.env 4)⟩
  · skip
    refine T.block ?_
    refine T.loop (f := laws_eqMark_l1 x0 x1) (σ := Int) (Z := Unit) (fun s z => E [(2, ((TP Y25).sv x0)), (3, ((TP Y25).sv x1)), (5, ((TI .i64).sv s))]) (fun s z => HL []) e4 () (fun φ h => T.toh h ⟨fun _ _ h => h, fun _ _ h => h, fun _ _ h => h, trivial⟩ trivial) (fun k s z uu3 hu3 hn3 => ?_)
    obtain ⟨s5, rfl⟩ : ∃ q, q = s := ⟨_, rfl⟩
    dsimp only [laws_eqMark_l1] at hu3
    refine T.seq ?_
    refine T.seq ?_
    refine T.region mix 2 [6, 7] [0, 1] [(sp ((TI .i64).sv s5)), (sp (TB.sv (decide (s5 < 2))))] (by kernel_rfl) (AOK.cons (fun ρ a w hs hz hΓ hp => gp (d_move (hΓ 5 rfl))) (AOK.cons (fun ρ a w hs hz hΓ hp => gp (d_lss (hp 0 _ rfl rfl).1 (vI rfl))) AOK.nil rfl) rfl) (fun vs6 => ?_)
    refine T.nil ?_
    refine T.norm ?_
    refine T.cond (b := (decide (s5 < 2))) (fun _ _ h => h) (fun hc => ?_) (fun hc => ?_)
    · replace hu3 := iteT hu3 hc
      refine T.skip ?_
      refine T.norm ?_
      refine T.seq ?_
      refine T.block ?_
      refine T.seq ?_
      obtain ⟨x11, e8, hu3⟩ := bindS hu3
      obtain ⟨x14, e9, hu3⟩ := bindS hu3
      refine T.region mix 7 [10, 11, 12, 13, 14, 15, 16] [0, 1, 3, 0, 8, 24, 63] [(sp ((TI .i64).sv s5)), (sp ((TP (TI .i16)).sv x11)), (sp ((TI .i16).sv x11)), (sp ((TI .i64).sv s5)), (sp ((TP (TI .i16)).sv x14)), (sp ((TI .i16).sv x14)), (sp (TB.sv (decide (x11 ≠ x14))))] (by kernel_rfl) (AOK.cons (fun ρ a w hs hz hΓ hp => gp (d_move (hΓ 5 rfl))) (AOK.cons (fun ρ a w hs hz hΓ hp => gp (d_idxP u29 y24 (hΓ 2 rfl) (hp 0 _ rfl rfl).1 e8)) (AOK.cons (fun ρ a w hs hz hΓ hp => gp (d_load y24 hs.le (hp 1 _ rfl rfl).1)) (AOK.cons (fun ρ a w hs hz hΓ hp => gp (d_move (hΓ 5 rfl))) (AOK.cons (fun ρ a w hs hz hΓ hp => gp (d_idxP u29 y24 (hΓ 3 rfl) (hp 3 _ rfl rfl).1 e9)) (AOK.cons (fun ρ a w hs hz hΓ hp => gp (d_load y24 hs.le (hp 4 _ rfl rfl).1)) (AOK.cons (fun ρ a w hs hz hΓ hp => gp (d_neq (hp 2 _ rfl rfl).1 (hp 5 _ rfl rfl).1)) AOK.nil rfl) rfl) rfl) rfl) rfl) rfl) rfl) (fun vs7 => ?_)
      refine T.nil ?_
      refine T.norm ?_
      refine T.cond (b := (decide (x11 ≠ x14))) (fun _ _ h => h) (fun hc => ?_) (fun hc => ?_)
      · replace hu3 := iteT hu3 hc
        refine T.seq ?_
        refine T.region mix 1 [4] [0] [(sp (TB.sv false))] (by kernel_rfl) (AOK.cons (fun ρ a w hs hz hΓ hp => gp (d_assign (vB _))) AOK.nil rfl) (fun vs10 => ?_)
        refine T.nil ?_
        refine T.norm ?_
        refine T.ret ?_
        obtain rfl := Option.some.inj hu3
        cases hn3
        obtain rfl := Option.some.inj hF
        refine T.fin0 fun ρ a w st => ?_
        exact ⟨_, results_one rfl rfl, (st.env 4)⟩
      · replace hu3 := iteF hu3 hc
        refine T.skip ?_
        refine T.fallX ?_
        refine T.norm ?_
        refine T.region mix 3 [8, 9, 5] [0, 1, 3] [(sp ((TI .i64).sv s5)), (sp ((TI .i64).sv (IntKind.i64.wrap (s5 + 1)))), (sp ((TI .i64).sv (IntKind.i64.wrap (s5 + 1))))] (by kernel_rfl) (AOK.cons (fun ρ a w hs hz hΓ hp => gp (d_move (hΓ 5 rfl))) (AOK.cons (fun ρ a w hs hz hΓ hp => gp (d_add (hp 0 _ rfl rfl).1 (vI rfl))) (AOK.cons (fun ρ a w hs hz hΓ hp => gp (d_assign (hp 1 _ rfl rfl).1)) AOK.nil rfl) rfl) rfl) (fun vs11 => ?_)
        refine T.nil ?_
        obtain rfl := Option.some.inj hu3
        exact T.again hn3 () (fun φ h => T.toh h ⟨fun _ _ h => h, fun _ _ h => h, fun _ _ h => h, trivial⟩ trivial)
    · replace hu3 := iteF hu3 hc
      refine T.exit ?_
      obtain rfl := Option.some.inj hu3
      repeat (first | refine T.passX ?_ | refine T.inX (by decide) ?_)
      refine T.hereX ?_
      exact T.toh (hk (s5, ()) (Eq.symm hn3)) trivial trivial

theorem c9 (w : World) (v0 v1 : Value) {σ : Heap} (hσ : σ.le (snap w)) {x0 : (List Nat)} {x1 : Nat} {r : Bool} (hF : laws_FnExactMarkOf x0 x1 = some r) (h0 : Y57.val σ v0 x0) (h1 : (TF .f32).val σ v1 x1) :
    Calls Try.prog 9 #[v0, v1] w (Ret [] w σ (TB.sv r) []) := by
  unfold laws_FnExactMarkOf at hF
  refine start (args := [v0, v1]) Try.func9 rfl 32 rfl [] [(0, (Y57.sv x0)), (1, ((TF .f32).sv x1))] [] (sat_start _ hσ) rfl (args1 rfl h0 (args1 rfl h1 (args0))) ?_
  refine T.seq ?_
  refine T.region mix 2 [2, 4] [0, 0] [(sp ((TP Y57).sv x0)), (sp (TB.sv false))] (by kernel_rfl) (AOK.cons (fun ρ a w hs hz hΓ hp => gp (d_box hs.le (hΓ 0 rfl))) (AOK.cons (fun ρ a w hs hz hΓ hp => gp (d_assign (vB _))) AOK.nil rfl) rfl) (fun vs1 => ?_)
  refine T.nil ?_
  refine T.norm ?_
  refine T.seq ?_
  obtain ⟨x11, e3, hF⟩ := bindS hF
  obtain ⟨x13, e4, hF⟩ := bindS hF
  refine T.region mix 8 [10, 11, 12, 13, 9, 14, 15, 5] [0, 1, 0, 7, 15, 31, 31, 0, 191, 511] [(sp (Y57.sv x0)), (sp (Y57.sv x11)), (sp ((TF .f32).sv x1)), (sp (SRel.tup2 (Y25.sv x13.1) ((TI .i64).sv x13.2))), (sp (SRel.tup2 (Y25.sv x13.1) ((TI .i64).sv x13.2))), (sp (Y25.sv x13.1)), (sp ((TI .i64).sv x13.2)), (sO SRel.any [(1, (boxR 29 Y25 (List.replicate 2 0)))])] (by kernel_rfl) (AOK.cons (fun ρ a w hs hz hΓ hp => gp (d_load y57 hs.le (hΓ 2 rfl))) (AOK.cons (fun ρ a w hs hz hΓ hp => gp (d_call fn34 hs.le mapA1 (c34 w _ hs.le e3 ((hp 0 _ rfl rfl).1)))) (AOK.cons (fun ρ a w hs hz hΓ hp => gp (d_move (hΓ 1 rfl))) (AOK.cons (fun ρ a w hs hz hΓ hp => gp (d_call fn33 hs.le mapA2 (c33 w _ _ hs.le e4 ((hp 1 _ rfl rfl).1) ((hp 2 _ rfl rfl).1)))) (AOK.cons (fun ρ a w hs hz hΓ hp => gp (d_move (hp 3 _ rfl rfl).1)) (AOK.cons (fun ρ a w hs hz hΓ hp => gp (d_extract2_0 (hp 4 _ rfl rfl).1)) (AOK.cons (fun ρ a w hs hz hΓ hp => gp (d_extract2_1 (hp 4 _ rfl rfl).1)) (AOK.cons (fun ρ a w hs hz hΓ hp => g_alloc hs.le z29 zc29) AOK.nil rfl) rfl) rfl) rfl) rfl) rfl) rfl) rfl) (fun vs2 => ?_)
  refine T.store 1 y29 rfl (fun ρ a w st => ⟨.inl ⟨(st.env 5).1, rfl⟩, (st.env 14)⟩) (At.refl Y25 (List.replicate 2 0)) ?_
  refine T.does (R := ((TI .i64).sv x13.2)) rfl (fun ρ a w st => have hs := st.sat; d_assign (st.env 15)) ?_
  refine T.nil ?_
  refine T.norm ?_
  refine T.seq ?_
  obtain ⟨x18, e6, hF⟩ := bindS hF
  obtain ⟨x20, e7, hF⟩ := bindS hF
  refine T.region mix 8 [17, 18, 19, 20, 16, 21, 22, 7] [0, 1, 0, 7, 15, 31, 31, 0, 191, 511] [(sp (Y57.sv x0)), (sp (Y57.sv x18)), (sp ((TF .f32).sv x1)), (sp (SRel.tup2 (Y25.sv x20.1) ((TI .i64).sv x20.2))), (sp (SRel.tup2 (Y25.sv x20.1) ((TI .i64).sv x20.2))), (sp (Y25.sv x20.1)), (sp ((TI .i64).sv x20.2)), (sO SRel.any [(2, (boxR 29 Y25 (List.replicate 2 0)))])] (by kernel_rfl) (AOK.cons (fun ρ a w hs hz hΓ hp => gp (d_load y57 hs.le (hΓ 2 rfl))) (AOK.cons (fun ρ a w hs hz hΓ hp => gp (d_call fn34 hs.le mapA1 (c34 w _ hs.le e6 ((hp 0 _ rfl rfl).1)))) (AOK.cons (fun ρ a w hs hz hΓ hp => gp (d_move (hΓ 1 rfl))) (AOK.cons (fun ρ a w hs hz hΓ hp => gp (d_call fn35 hs.le mapA2 (c35 w _ _ hs.le e7 ((hp 1 _ rfl rfl).1) ((hp 2 _ rfl rfl).1)))) (AOK.cons (fun ρ a w hs hz hΓ hp => gp (d_move (hp 3 _ rfl rfl).1)) (AOK.cons (fun ρ a w hs hz hΓ hp => gp (d_extract2_0 (hp 4 _ rfl rfl).1)) (AOK.cons (fun ρ a w hs hz hΓ hp => gp (d_extract2_1 (hp 4 _ rfl rfl).1)) (AOK.cons (fun ρ a w hs hz hΓ hp => g_alloc hs.le z29 zc29) AOK.nil rfl) rfl) rfl) rfl) rfl) rfl) rfl) rfl) (fun vs5 => ?_)
  refine T.store 2 y29 rfl (fun ρ a w st => ⟨.inl ⟨(st.env 7).1, rfl⟩, (st.env 21)⟩) (At.refl Y25 (List.replicate 2 0)) ?_
  refine T.does (R := ((TI .i64).sv x20.2)) rfl (fun ρ a w st => have hs := st.sat; d_assign (st.env 22)) ?_
  refine T.nil ?_
  refine T.norm ?_
  refine T.seq ?_
  refine T.seq ?_
  obtain ⟨x25, e9, hF⟩ := bindS hF
  refine T.region mix 9 [23, 24, 25, 26, 27, 28, 29, 30, 31] [0, 0, 3, 7, 15, 31, 31, 127, 255] [(sp (Y25.sv x20.1)), (sp (Y25.sv x13.1)), (sp (TB.sv x25)), (sp (TB.sv (!x25))), (sp (TB.sv (!x25))), (sp (SRel.when ((!x25) = false) ((TI .i64).sv x20.2))), (sp (SRel.when ((!x25) = false) ((TI .i64).sv x13.2))), (sp (SRel.when ((!x25) = false) (TB.sv (decide (x20.2 ≠ x13.2))))), (sp (TB.sv ((!x25) || (decide (x20.2 ≠ x13.2)))))] (by kernel_rfl) (AOK.cons (fun ρ a w hs hz hΓ hp => gp (d_loadO y29 hs 2 rfl (.inl ⟨(hΓ 7 rfl).1, rfl⟩) (At.refl Y25 x20.1))) (AOK.cons (fun ρ a w hs hz hΓ hp => gp (d_loadO y29 hs 1 rfl (.inl ⟨(hΓ 5 rfl).1, rfl⟩) (At.refl Y25 x13.1))) (AOK.cons (fun ρ a w hs hz hΓ hp => gp (d_call fn36 hs.le mapA2 (c36 w _ _ hs.le e9 ((hp 0 _ rfl rfl).1) ((hp 1 _ rfl rfl).1)))) (AOK.cons (fun ρ a w hs hz hΓ hp => gp (d_not (hp 2 _ rfl rfl).1)) (AOK.cons (fun ρ a w hs hz hΓ hp => gp (d_move (hp 3 _ rfl rfl).1)) (AOK.cons (fun ρ a w hs hz hΓ hp => gg (g := 4) (d := 27) hz rfl (hp 4 _ rfl rfl).1 rfl (fun hc => d_move (hΓ 8 rfl))) (AOK.cons (fun ρ a w hs hz hΓ hp => gg (g := 4) (d := 27) hz rfl (hp 4 _ rfl rfl).1 rfl (fun hc => d_move (hΓ 6 rfl))) (AOK.cons (fun ρ a w hs hz hΓ hp => gg (g := 4) (d := 27) hz rfl (hp 4 _ rfl rfl).1 rfl (fun hc => d_neq ((hp 5 _ rfl rfl).1 hc) ((hp 6 _ rfl rfl).1 hc))) (AOK.cons (fun ρ a w hs hz hΓ hp => gp (d_pick (hp 4 _ rfl rfl).1 (fun hc => pON hc) (fun hc => pO hc ((hp 7 _ rfl rfl).1 hc)))) AOK.nil rfl) rfl) rfl) rfl) rfl) rfl) rfl) rfl) rfl) (fun vs8 => ?_)
  refine T.nil ?_
  refine T.norm ?_
  refine T.cond (b := ((!x25) || (decide (x20.2 ≠ x13.2)))) (fun _ _ h => h) (fun hc => ?_) (fun hc => ?_)
  · replace hF := iteT hF hc
    refine T.seq ?_
    refine T.region mix 1 [4] [0] [(sp (TB.sv false))] (by kernel_rfl) (AOK.cons (fun ρ a w hs hz hΓ hp => gp (d_assign (vB _))) AOK.nil rfl) (fun vs10 => ?_)
    refine T.nil ?_
    refine T.norm ?_
    refine T.ret ?_
    obtain rfl := Option.some.inj hF
    refine T.fin0 fun ρ a w st => ?_
    exact ⟨_, results_one rfl rfl, (st.env 4)⟩
  · replace hF := iteF hF hc
    refine T.skip ?_
    refine T.norm ?_
    refine T.seq ?_
    refine T.region mix 1 [4] [0] [(sp (TB.sv true))] (by kernel_rfl) (AOK.cons (fun ρ a w hs hz hΓ hp => gp (d_assign (vB _))) AOK.nil rfl) (fun vs11 => ?_)
    refine T.nil ?_
    refine T.norm ?_
    refine T.ret ?_
    obtain rfl := Option.some.inj hF
    refine T.fin0 fun ρ a w st => ?_
    exact ⟨_, results_one rfl rfl, (st.env 4)⟩
end Go.Proofs.Ytnpkhhfpgedkoaa
