/-
  The walks: each function comes to what its plain function says.
-/
import Derived.Test.YtjmlfdhddbhlpaaFactsB
import Derived.Test.YtjmlfdhddbhlpaaFB
import Derived.Test.YtjmlfdhddbhlpaaCA
set_option linter.unusedVariables false
set_option maxHeartbeats 1600000
set_option maxRecDepth 100000
namespace Go.Proofs.Ytjmlfdhddbhlpaa
open Go
theorem c23 (w : World) (v0 v1 : Value) {σ : Heap} (hσ : σ.le (snap w)) {x0 : (List (List Int))} {x1 : Int} {r : Int} (hF : laws_szMarkS x0 x1 = some r) (h0 : Y49.val σ v0 x0) (h1 : (TI .i64).val σ v1 x1) :
    Calls Try.prog 23 #[v0, v1] w (Ret [] w σ ((TI .i64).sv r) []) := by
  unfold laws_szMarkS at hF
  refine start (args := [v0, v1]) Try.func23 rfl 12 rfl [] [(0, (Y49.sv x0)), (1, ((TI .i64).sv x1))] [] (sat_start _ hσ) rfl (args1 rfl h0 (args1 rfl h1 (args0))) ?_
  refine T.seq ?_
  refine T.region mix 1 [4] [0] [(sp ((TI .i64).sv 0))] (by kernel_rfl) (AOK.cons (fun ρ a w hs hz hΓ hp => gp (d_assign (vI rfl))) AOK.nil rfl) (fun vs1 => ?_)
  refine T.nil ?_
  refine T.norm ?_
  refine T.seq ?_
  refine T.region mix 5 [5, 6, 7, 8, 1] [0, 0, 2, 7, 15] [(sp ((TI .i64).sv x1)), (sp (Y49.sv x0)), (sp ((TI .i64).sv (x0.length : Int))), (sp ((TI .i64).sv (IntKind.i64.wrap (x1 - (x0.length : Int))))), (sp ((TI .i64).sv (IntKind.i64.wrap (x1 - (x0.length : Int)))))] (by kernel_rfl) (AOK.cons (fun ρ a w hs hz hΓ hp => gp (d_move (hΓ 1 rfl))) (AOK.cons (fun ρ a w hs hz hΓ hp => gp (d_move (hΓ 0 rfl))) (AOK.cons (fun ρ a w hs hz hΓ hp => gp (d_lenR u43 (hp 1 _ rfl rfl).1)) (AOK.cons (fun ρ a w hs hz hΓ hp => gp (d_sub (hp 0 _ rfl rfl).1 (hp 2 _ rfl rfl).1)) (AOK.cons (fun ρ a w hs hz hΓ hp => gp (d_assign (hp 3 _ rfl rfl).1)) AOK.nil rfl) rfl) rfl) rfl) rfl) (fun vs2 => ?_)
  refine T.nil ?_
  refine T.norm ?_
  refine T.seq ?_
  refine T.seq ?_
  refine T.region mix 2 [9, 10] [0, 1] [(sp ((TI .i64).sv (IntKind.i64.wrap (x1 - (x0.length : Int))))), (sp (TB.sv (decide ((IntKind.i64.wrap (x1 - (x0.length : Int))) < 0))))] (by kernel_rfl) (AOK.cons (fun ρ a w hs hz hΓ hp => gp (d_move (hΓ 1 rfl))) (AOK.cons (fun ρ a w hs hz hΓ hp => gp (d_lss (hp 0 _ rfl rfl).1 (vI rfl))) AOK.nil rfl) rfl) (fun vs3 => ?_)
  refine T.nil ?_
  refine T.norm ?_
  refine T.cond (b := (decide ((IntKind.i64.wrap (x1 - (x0.length : Int))) < 0))) (fun _ _ h => h) (fun hc => ?_) (fun hc => ?_)
  · replace hF := iteT hF hc
    refine T.seq ?_
    refine T.region mix 1 [4] [0] [(sp ((TI .i64).sv (-1)))] (by kernel_rfl) (AOK.cons (fun ρ a w hs hz hΓ hp => gp (d_assign (vI rfl))) AOK.nil rfl) (fun vs4 => ?_)
    refine T.nil ?_
    refine T.norm ?_
    refine T.ret ?_
    obtain rfl := Option.some.inj hF
    refine T.fin0 fun ρ a w st => ?_
    exact ⟨_, results_one rfl rfl, (st.env 4)⟩
  · replace hF := iteF hF hc
    refine T.skip ?_
    refine T.norm ?_
    refine T.seq ?_
    refine T.region mix 2 [11, 4] [0, 1] [(sp ((TI .i64).sv (IntKind.i64.wrap (x1 - (x0.length : Int))))), (sp ((TI .i64).sv (IntKind.i64.wrap (x1 - (x0.length : Int)))))] (by kernel_rfl) (AOK.cons (fun ρ a w hs hz hΓ hp => gp (d_move (hΓ 1 rfl))) (AOK.cons (fun ρ a w hs hz hΓ hp => gp (d_assign (hp 0 _ rfl rfl).1)) AOK.nil rfl) rfl) (fun vs5 => ?_)
    refine T.nil ?_
    refine T.norm ?_
    refine T.ret ?_
    obtain rfl := Option.some.inj hF
    refine T.fin0 fun ρ a w st => ?_
    exact ⟨_, results_one rfl rfl, (st.env 4)⟩

theorem c25 (w : World) (v0 : Value) {σ : Heap} (hσ : σ.le (snap w)) {x0 : (List Int)} {r : (List Int)} (hF : laws_toSheet x0 = some r) (h0 : Y42.val σ v0 x0) :
    Calls Try.prog 25 #[v0] w (Ret [] w σ (Y42.sv r) []) := by
  unfold laws_toSheet at hF
  refine start (args := [v0]) Try.func25 rfl 15 rfl [] [(0, (Y42.sv x0))] [] (sat_start _ hσ) rfl (args1 rfl h0 (args0)) ?_
  refine T.seq ?_
  refine T.region mix 2 [1, 2] [0, 0] [(sp ((TP Y42).sv x0)), (sO SRel.any [(1, (boxR 45 Y42 (List.replicate 64 0)))])] (by kernel_rfl) (AOK.cons (fun ρ a w hs hz hΓ hp => gp (d_box hs.le (hΓ 0 rfl))) (AOK.cons (fun ρ a w hs hz hΓ hp => g_alloc hs.le z45 zc45) AOK.nil rfl) rfl) (fun vs1 => ?_)
  refine T.nil ?_
  refine T.norm ?_
  refine T.seq ?_
  refine T.region mix 1 [3] [0] [(sO SRel.any [(2, (boxR 45 Y42 (List.replicate 64 0)))])] (by kernel_rfl) (AOK.cons (fun ρ a w hs hz hΓ hp => g_alloc hs.le z45 zc45) AOK.nil rfl) (fun vs2 => ?_)
  refine T.nil ?_
  refine T.norm ?_
  refine T.seq ?_
  refine T.seq ?_
  refine T.region mix 1 [4] [0] [(sp ((TI .i64).sv 0))] (by kernel_rfl) (AOK.cons (fun ρ a w hs hz hΓ hp => gp (d_assign (vI rfl))) AOK.nil rfl) (fun vs3 => ?_)
  refine T.nil ?_
  refine T.norm ?_
  obtain ⟨yl4, e5, hF⟩ := bindS hF
  refine T.joinD (ι := (Int × (List Int)) × (Unit)) (fun p => yl4 = p.1) (Γ' := fun p => E [(2, (SRel.eq (vs1 1))), (3, (SRel.eq (vs2 0)))]) (H' := fun p => HL [(1, (boxR 45 Y42 (List.replicate 64 0) (vs1 1))), (2, (boxR 45 Y42 p.1.2 (vs2 0)))]) (fun p hy => ?_) (fun hk => ?_)
  · obtain ⟨⟨o4, or2⟩, _⟩ := p
    cases hy
    refine T.norm ?_
    refine T.seq ?_
    refine T.region mix 1 [14] [0, 1] [(sp (Y42.sv or2))] (by kernel_rfl) (AOK.cons (fun ρ a w hs hz hΓ hp => gp (d_loadO y45 hs 2 rfl (.inl ⟨(hΓ 3 rfl), rfl⟩) (At.refl Y42 or2))) AOK.nil rfl) (fun vs6 => ?_)
    refine T.store 1 y45 rfl (fun ρ a w st => ⟨.inl ⟨(st.env 2), rfl⟩, (st.env 14)⟩) (At.refl Y42 (List.replicate 64 0)) ?_
    refine T.nil ?_
    refine T.norm ?_
    refine T.ret ?_
    obtain rfl := Option.some.inj hF
    refine T.fin0 fun ρ a w st => ?_
    obtain ⟨q0, hr0, hv0⟩ := rv_cell y45 st.sat 1 rfl (st.env 2)
    exact ⟨_, results_one rfl hr0, hv0⟩
  · skip
    refine T.block ?_
    refine T.loop (f := laws_toSheet_l1 x0) (σ := (Int × (List Int))) (Z := Unit) (fun s z => E [(1, ((TP Y42).sv x0)), (2, (SRel.eq (vs1 1))), (3, (SRel.eq (vs2 0))), (4, ((TI .i64).sv s.1))]) (fun s z => HL [(1, (boxR 45 Y42 (List.replicate 64 0) (vs1 1))), (2, (boxR 45 Y42 s.2 (vs2 0)))]) e5 () (fun φ h => T.toh h ⟨fun _ _ h => h, fun _ _ h => h.1, fun _ _ h => h.1, fun _ _ h => h, trivial⟩ ⟨rfl, rfl, trivial⟩) (fun k s z uu4 hu4 hn4 => ?_)
    obtain ⟨s4, sr2⟩ := s
    dsimp only [laws_toSheet_l1] at hu4
    refine T.seq ?_
    refine T.seq ?_
    refine T.region mix 2 [5, 6] [0, 1] [(sp ((TI .i64).sv s4)), (sp (TB.sv (decide (s4 < 64))))] (by kernel_rfl) (AOK.cons (fun ρ a w hs hz hΓ hp => gp (d_move (hΓ 4 rfl))) (AOK.cons (fun ρ a w hs hz hΓ hp => gp (d_lss (hp 0 _ rfl rfl).1 (vI rfl))) AOK.nil rfl) rfl) (fun vs7 => ?_)
    refine T.nil ?_
    refine T.norm ?_
    refine T.cond (b := (decide (s4 < 64))) (fun _ _ h => h) (fun hc => ?_) (fun hc => ?_)
    · replace hu4 := iteT hu4 hc
      refine T.skip ?_
      refine T.norm ?_
      refine T.seq ?_
      refine T.block ?_
      obtain ⟨x11, e9, hu4⟩ := bindS hu4
      obtain ⟨x13, e10, hu4⟩ := bindS hu4
      refine T.region mix 5 [9, 10, 11, 12, 13] [0, 0, 2, 6, 15, 31] [(sp ((TI .i64).sv s4)), (sp ((TI .i64).sv s4)), (sp ((TP (TI .u64)).sv x11)), (sp ((TI .u64).sv x11)), (sp (SRel.eq (at_ (vs2 0) (0 + s4.toNat * (TI .u64).n))))] (by kernel_rfl) (AOK.cons (fun ρ a w hs hz hΓ hp => gp (d_move (hΓ 4 rfl))) (AOK.cons (fun ρ a w hs hz hΓ hp => gp (d_move (hΓ 4 rfl))) (AOK.cons (fun ρ a w hs hz hΓ hp => gp (d_idxP u42 y41 (hΓ 1 rfl) (hp 1 _ rfl rfl).1 e9)) (AOK.cons (fun ρ a w hs hz hΓ hp => gp (d_load y41 hs.le (hp 2 _ rfl rfl).1)) (AOK.cons (fun ρ a w hs hz hΓ hp => gp (d_idxO u45 y41 hs 2 rfl (.inl ⟨(hΓ 3 rfl), rfl⟩) (At.refl Y42 sr2) (hp 0 _ rfl rfl).1 e10)) AOK.nil rfl) rfl) rfl) rfl) rfl) (fun vs8 => ?_)
      refine T.store 2 y41 rfl (fun ρ a w st => ⟨.inr (st.env 13), (st.env 12)⟩) (At.elem (At.refl Y42 sr2) (idx_get e10).2) ?_
      refine T.nil ?_
      refine T.fallX ?_
      refine T.norm ?_
      refine T.region mix 3 [7, 8, 4] [0, 1, 3] [(sp ((TI .i64).sv s4)), (sp ((TI .i64).sv (IntKind.i64.wrap (s4 + 1)))), (sp ((TI .i64).sv (IntKind.i64.wrap (s4 + 1))))] (by kernel_rfl) (AOK.cons (fun ρ a w hs hz hΓ hp => gp (d_move (hΓ 4 rfl))) (AOK.cons (fun ρ a w hs hz hΓ hp => gp (d_add (hp 0 _ rfl rfl).1 (vI rfl))) (AOK.cons (fun ρ a w hs hz hΓ hp => gp (d_assign (hp 1 _ rfl rfl).1)) AOK.nil rfl) rfl) rfl) (fun vs11 => ?_)
      refine T.nil ?_
      obtain rfl := Option.some.inj hu4
      exact T.again hn4 () (fun φ h => T.toh h ⟨fun _ _ h => h, fun _ _ h => h, fun _ _ h => h, fun _ _ h => h, trivial⟩ ⟨rfl, rfl, trivial⟩)
    · replace hu4 := iteF hu4 hc
      refine T.exit ?_
      obtain rfl := Option.some.inj hu4
      repeat (first | refine T.passX ?_ | refine T.inX (by decide) ?_)
      refine T.hereX ?_
      exact T.toh (hk ((s4, sr2), ()) (Eq.symm hn4)) ⟨fun _ _ h => h, fun _ _ h => h, trivial⟩ ⟨rfl, rfl, trivial⟩

theorem c26 (w : World) (v0 : Value) {σ : Heap} (hσ : σ.le (snap w)) {x0 : (List (List Int))} {r : (List (List Int))} (hF : laws_toMarkS x0 = some r) (h0 : Y49.val σ v0 x0) :
    Calls Try.prog 26 #[v0] w (Ret [] w σ SRel.any [slR 32 Y24 r]) := by
  unfold laws_toMarkS at hF
  refine start (args := [v0]) Try.func26 rfl 23 rfl [] [(0, (Y49.sv x0))] [] (sat_start _ hσ) rfl (args1 rfl h0 (args0)) ?_
  refine T.seq ?_
  refine T.region mix 1 [2] [0] [(sO SRel.any [(1, (slR 32 Y24 []))])] (by kernel_rfl) (AOK.cons (fun ρ a w hs hz hΓ hp => g_nilSl) AOK.nil rfl) (fun vs1 => ?_)
  refine T.nil ?_
  refine T.norm ?_
  refine T.seq ?_
  obtain ⟨_u7, e3, hF⟩ := bindS hF
  refine T.region mix 4 [5, 6, 7, 3] [0, 1, 3, 7] [(sp (Y49.sv x0)), (sp ((TI .i64).sv (x0.length : Int))), (sO SRel.any [(2, (slR 32 Y24 (List.replicate (x0.length : Int).toNat (List.replicate 2 0))))]), (al 2 (id))] (by kernel_rfl) (AOK.cons (fun ρ a w hs hz hΓ hp => gp (d_move (hΓ 0 rfl))) (AOK.cons (fun ρ a w hs hz hΓ hp => gp (d_lenR u43 (hp 0 _ rfl rfl).1)) (AOK.cons (fun ρ a w hs hz hΓ hp => g_makeSl hs.le u49 i32 rfl zc32 (hp 1 _ rfl rfl).1 (hp 1 _ rfl rfl).1 (need_get e3)) (AOK.cons (fun ρ a w hs hz hΓ hp => al_assign rfl) AOK.nil rfl) rfl) rfl) rfl) (fun vs2 => ?_)
  refine T.nil ?_
  refine T.norm ?_
  refine T.seq ?_
  refine T.seq ?_
  refine T.region mix 1 [4] [0] [(sp ((TI .i64).sv 0))] (by kernel_rfl) (AOK.cons (fun ρ a w hs hz hΓ hp => gp (d_assign (vI rfl))) AOK.nil rfl) (fun vs4 => ?_)
  refine T.nil ?_
  refine T.norm ?_
  obtain ⟨yl5, e6, hF⟩ := bindS hF
  refine T.joinD (ι := (Int × (List (List Int))) × (Unit)) (fun p => yl5 = p.1) (Γ' := fun p => E [(3, (SRel.eq (vs2 2)))]) (H' := fun p => HL [(2, (slR 32 Y24 p.1.2 (vs2 2)))]) (fun p hy => ?_) (fun hk => ?_)
  · obtain ⟨⟨o4, or2⟩, _⟩ := p
    cases hy
    refine T.norm ?_
    refine T.seq ?_
    refine T.region mix 2 [22, 2] [0, 1] [(sp (SRel.eq (vs2 2))), (sp (SRel.eq (vs2 2)))] (by kernel_rfl) (AOK.cons (fun ρ a w hs hz hΓ hp => gp (d_move (hΓ 3 rfl))) (AOK.cons (fun ρ a w hs hz hΓ hp => gp (d_assign (hp 0 _ rfl rfl).1)) AOK.nil rfl) rfl) (fun vs7 => ?_)
    refine T.nil ?_
    refine T.norm ?_
    refine T.ret ?_
    obtain rfl := Option.some.inj hF
    refine T.fin fun ρ a w st => ?_
    exact ⟨_, results_one rfl rfl, trivial, own1 (own_at (id := 2) (st.env 2) rfl), List.pairwise_singleton _ _⟩
  · skip
    refine T.block ?_
    refine T.loop (f := laws_toMarkS_l1 x0) (σ := (Int × (List (List Int)))) (Z := Unit) (fun s z => E [(0, (Y49.sv x0)), (3, (SRel.eq (vs2 2))), (4, ((TI .i64).sv s.1))]) (fun s z => HL [(2, (slR 32 Y24 s.2 (vs2 2)))]) e6 () (fun φ h => T.toh h ⟨fun _ _ h => h, fun _ _ h => h, fun _ _ h => h, trivial⟩ ⟨rfl, trivial⟩) (fun k s z uu5 hu5 hn5 => ?_)
    obtain ⟨s4, sr2⟩ := s
    dsimp only [laws_toMarkS_l1] at hu5
    refine T.seq ?_
    refine T.seq ?_
    refine T.region mix 4 [8, 9, 10, 11] [0, 0, 2, 7] [(sp ((TI .i64).sv s4)), (sp (Y49.sv x0)), (sp ((TI .i64).sv (x0.length : Int))), (sp (TB.sv (decide (s4 < (x0.length : Int)))))] (by kernel_rfl) (AOK.cons (fun ρ a w hs hz hΓ hp => gp (d_move (hΓ 4 rfl))) (AOK.cons (fun ρ a w hs hz hΓ hp => gp (d_move (hΓ 0 rfl))) (AOK.cons (fun ρ a w hs hz hΓ hp => gp (d_lenR u43 (hp 1 _ rfl rfl).1)) (AOK.cons (fun ρ a w hs hz hΓ hp => gp (d_lss (hp 0 _ rfl rfl).1 (hp 2 _ rfl rfl).1)) AOK.nil rfl) rfl) rfl) rfl) (fun vs8 => ?_)
    refine T.nil ?_
    refine T.norm ?_
    refine T.cond (b := (decide (s4 < (x0.length : Int)))) (fun _ _ h => h) (fun hc => ?_) (fun hc => ?_)
    · replace hu5 := iteT hu5 hc
      refine T.skip ?_
      refine T.norm ?_
      refine T.seq ?_
      refine T.block ?_
      obtain ⟨x18, e10, hu5⟩ := bindS hu5
      obtain ⟨x20, e11, hu5⟩ := bindS hu5
      obtain ⟨x21, e12, hu5⟩ := bindS hu5
      refine T.region mix 8 [14, 15, 16, 17, 18, 19, 20, 21] [0, 0, 0, 0, 12, 28, 60, 127, 255] [(sp (SRel.eq (vs2 2))), (sp ((TI .i64).sv s4)), (sp (Y49.sv x0)), (sp ((TI .i64).sv s4)), (sp ((TP Y24).sv x18)), (sp (Y24.sv x18)), (sp (Y24.sv x20)), (sp (SRel.eq (at_ (vs2 2) (s4.toNat * Y24.n + 0))))] (by kernel_rfl) (AOK.cons (fun ρ a w hs hz hΓ hp => gp (d_move (hΓ 3 rfl))) (AOK.cons (fun ρ a w hs hz hΓ hp => gp (d_move (hΓ 4 rfl))) (AOK.cons (fun ρ a w hs hz hΓ hp => gp (d_move (hΓ 0 rfl))) (AOK.cons (fun ρ a w hs hz hΓ hp => gp (d_move (hΓ 4 rfl))) (AOK.cons (fun ρ a w hs hz hΓ hp => gp (d_idxR u43 y24 (hp 2 _ rfl rfl).1 (hp 3 _ rfl rfl).1 e10)) (AOK.cons (fun ρ a w hs hz hΓ hp => gp (d_load y24 hs.le (hp 4 _ rfl rfl).1)) (AOK.cons (fun ρ a w hs hz hΓ hp => gp (d_call fn13 hs.le mapA1 (c13 w _ hs.le e11 ((hp 5 _ rfl rfl).1)))) (AOK.cons (fun ρ a w hs hz hΓ hp => gp (d_idxS u49 y32 hs 2 rfl (hp 0 _ rfl rfl).1 (hp 1 _ rfl rfl).1 e12)) AOK.nil rfl) rfl) rfl) rfl) rfl) rfl) rfl) rfl) (fun vs9 => ?_)
      refine T.storeS 2 y32 rfl (idx_get e12).2 (fun ρ a w st => ⟨(st.env 21), (st.env 20)⟩) (At.refl Y24 x21) ?_
      refine T.nil ?_
      refine T.fallX ?_
      refine T.norm ?_
      refine T.region mix 3 [12, 13, 4] [0, 1, 3] [(sp ((TI .i64).sv s4)), (sp ((TI .i64).sv (IntKind.i64.wrap (s4 + 1)))), (sp ((TI .i64).sv (IntKind.i64.wrap (s4 + 1))))] (by kernel_rfl) (AOK.cons (fun ρ a w hs hz hΓ hp => gp (d_move (hΓ 4 rfl))) (AOK.cons (fun ρ a w hs hz hΓ hp => gp (d_add (hp 0 _ rfl rfl).1 (vI rfl))) (AOK.cons (fun ρ a w hs hz hΓ hp => gp (d_assign (hp 1 _ rfl rfl).1)) AOK.nil rfl) rfl) rfl) (fun vs13 => ?_)
      refine T.nil ?_
      obtain rfl := Option.some.inj hu5
      exact T.again hn5 () (fun φ h => T.toh h ⟨fun _ _ h => h, fun _ _ h => h, fun _ _ h => h, trivial⟩ ⟨rfl, trivial⟩)
    · replace hu5 := iteF hu5 hc
      refine T.exit ?_
      obtain rfl := Option.some.inj hu5
      repeat (first | refine T.passX ?_ | refine T.inX (by decide) ?_)
      refine T.hereX ?_
      exact T.toh (hk ((s4, sr2), ()) (Eq.symm hn5)) ⟨fun _ _ h => h, trivial⟩ ⟨rfl, trivial⟩

theorem c70 (w : World) (v0 v1 : Value) {σ : Heap} (hσ : σ.le (snap w)) {x0 : (List (List Int))} {x1 : Int} {r : Int} (hF : spec_l06Loop x0 x1 = some r) (h0 : Y49.val σ v0 x0) (h1 : (TI .i64).val σ v1 x1) :
    Calls Try.prog 70 #[v0, v1] w (Ret [] w σ ((TI .i64).sv r) []) := by
  unfold spec_l06Loop at hF
  refine start (args := [v0, v1]) Try.func70 rfl 23 rfl [] [(0, (Y49.sv x0)), (1, ((TI .i64).sv x1))] [] (sat_start _ hσ) rfl (args1 rfl h0 (args1 rfl h1 (args0))) ?_
  refine T.seq ?_
  refine T.region mix 1 [4] [0] [(sp ((TI .i64).sv 0))] (by kernel_rfl) (AOK.cons (fun ρ a w hs hz hΓ hp => gp (d_assign (vI rfl))) AOK.nil rfl) (fun vs1 => ?_)
  refine T.nil ?_
  refine T.norm ?_
  refine T.seq ?_
  refine T.seq ?_
  refine T.region mix 1 [5] [0] [(sp ((TI .i64).sv 0))] (by kernel_rfl) (AOK.cons (fun ρ a w hs hz hΓ hp => gp (d_assign (vI rfl))) AOK.nil rfl) (fun vs2 => ?_)
  refine T.nil ?_
  refine T.norm ?_
  obtain ⟨yl3, e4, hF⟩ := bindS hF
  refine T.joinD (ι := Int × (Unit)) (fun p => yl3 = .inl p.1) (Γ' := fun p => E [(0, (Y49.sv x0)), (1, ((TI .i64).sv x1))]) (H' := fun p => HL []) (fun p hy => ?_) (fun hk => ?_)
  · obtain ⟨o5, _⟩ := p
    cases hy
    refine T.norm ?_
    refine T.seq ?_
    refine T.seq ?_
    obtain ⟨x21, e6, hF⟩ := bindS hF
    refine T.region mix 5 [18, 19, 20, 21, 22] [0, 1, 0, 7, 15] [(sp (Y49.sv x0)), (sp ((TI .i64).sv (x0.length : Int))), (sp ((TI .i64).sv x1)), (sp (TB.sv x21)), (sp (TB.sv (!x21)))] (by kernel_rfl) (AOK.cons (fun ρ a w hs hz hΓ hp => gp (d_move (hΓ 0 rfl))) (AOK.cons (fun ρ a w hs hz hΓ hp => gp (d_lenR u49 (hp 0 _ rfl rfl).1)) (AOK.cons (fun ρ a w hs hz hΓ hp => gp (d_move (hΓ 1 rfl))) (AOK.cons (fun ρ a w hs hz hΓ hp => gp (d_call fn85 hs.le mapA3 (c85 w _ _ _ hs.le e6 ((hp 1 _ rfl rfl).1) ((hp 2 _ rfl rfl).1) (vI rfl)))) (AOK.cons (fun ρ a w hs hz hΓ hp => gp (d_not (hp 3 _ rfl rfl).1)) AOK.nil rfl) rfl) rfl) rfl) rfl) (fun vs5 => ?_)
    refine T.nil ?_
    refine T.norm ?_
    refine T.cond (b := (!x21)) (fun _ _ h => h) (fun hc => ?_) (fun hc => ?_)
    · replace hF := iteT hF hc
      refine T.seq ?_
      refine T.region mix 1 [4] [0] [(sp ((TI .i64).sv 2))] (by kernel_rfl) (AOK.cons (fun ρ a w hs hz hΓ hp => gp (d_assign (vI rfl))) AOK.nil rfl) (fun vs7 => ?_)
      refine T.nil ?_
      refine T.norm ?_
      refine T.ret ?_
      obtain rfl := Option.some.inj hF
      refine T.fin0 fun ρ a w st => ?_
      exact ⟨_, results_one rfl rfl, (st.env 4)⟩
    · replace hF := iteF hF hc
      refine T.skip ?_
      refine T.norm ?_
      refine T.seq ?_
      refine T.region mix 1 [4] [0] [(sp ((TI .i64).sv 0))] (by kernel_rfl) (AOK.cons (fun ρ a w hs hz hΓ hp => gp (d_assign (vI rfl))) AOK.nil rfl) (fun vs8 => ?_)
      refine T.nil ?_
      refine T.norm ?_
      refine T.ret ?_
      obtain rfl := Option.some.inj hF
      refine T.fin0 fun ρ a w st => ?_
      exact ⟨_, results_one rfl rfl, (st.env 4)⟩
  · skip
    refine T.block ?_
    refine T.loop (f := spec_l06Loop_l1 x0) (σ := Int) (Z := Unit) (fun s z => E [(0, (Y49.sv x0)), (1, ((TI .i64).sv x1)), (5, ((TI .i64).sv s))]) (fun s z => HL []) e4 () (fun φ h => T.toh h ⟨fun _ _ h => h, fun _ _ h => h, fun _ _ h => h, trivial⟩ trivial) (fun k s z uu3 hu3 hn3 => ?_)
    obtain ⟨s5, rfl⟩ : ∃ q, q = s := ⟨_, rfl⟩
    dsimp only [spec_l06Loop_l1] at hu3
    refine T.seq ?_
    refine T.seq ?_
    refine T.region mix 4 [6, 7, 8, 9] [0, 0, 2, 7] [(sp ((TI .i64).sv s5)), (sp (Y49.sv x0)), (sp ((TI .i64).sv (x0.length : Int))), (sp (TB.sv (decide (s5 < (x0.length : Int)))))] (by kernel_rfl) (AOK.cons (fun ρ a w hs hz hΓ hp => gp (d_move (hΓ 5 rfl))) (AOK.cons (fun ρ a w hs hz hΓ hp => gp (d_move (hΓ 0 rfl))) (AOK.cons (fun ρ a w hs hz hΓ hp => gp (d_lenR u49 (hp 1 _ rfl rfl).1)) (AOK.cons (fun ρ a w hs hz hΓ hp => gp (d_lss (hp 0 _ rfl rfl).1 (hp 2 _ rfl rfl).1)) AOK.nil rfl) rfl) rfl) rfl) (fun vs9 => ?_)
    refine T.nil ?_
    refine T.norm ?_
    refine T.cond (b := (decide (s5 < (x0.length : Int)))) (fun _ _ h => h) (fun hc => ?_) (fun hc => ?_)
    · replace hu3 := iteT hu3 hc
      refine T.skip ?_
      refine T.norm ?_
      refine T.seq ?_
      refine T.block ?_
      refine T.seq ?_
      obtain ⟨x14, e11, hu3⟩ := bindS hu3
      obtain ⟨x16, e12, hu3⟩ := bindS hu3
      refine T.region mix 6 [12, 13, 14, 15, 16, 17] [0, 0, 3, 7, 15, 31] [(sp (Y49.sv x0)), (sp ((TI .i64).sv s5)), (sp ((TP Y24).sv x14)), (sp (Y24.sv x14)), (sp (TB.sv x16)), (sp (TB.sv (!x16)))] (by kernel_rfl) (AOK.cons (fun ρ a w hs hz hΓ hp => gp (d_move (hΓ 0 rfl))) (AOK.cons (fun ρ a w hs hz hΓ hp => gp (d_move (hΓ 5 rfl))) (AOK.cons (fun ρ a w hs hz hΓ hp => gp (d_idxR u49 y32 (hp 0 _ rfl rfl).1 (hp 1 _ rfl rfl).1 e11)) (AOK.cons (fun ρ a w hs hz hΓ hp => gp (d_load y32 hs.le (hp 2 _ rfl rfl).1)) (AOK.cons (fun ρ a w hs hz hΓ hp => gp (d_call fn58 hs.le mapA1 (c58 w _ hs.le e12 ((hp 3 _ rfl rfl).1)))) (AOK.cons (fun ρ a w hs hz hΓ hp => gp (d_not (hp 4 _ rfl rfl).1)) AOK.nil rfl) rfl) rfl) rfl) rfl) rfl) (fun vs10 => ?_)
      refine T.nil ?_
      refine T.norm ?_
      refine T.cond (b := (!x16)) (fun _ _ h => h) (fun hc => ?_) (fun hc => ?_)
      · replace hu3 := iteT hu3 hc
        refine T.seq ?_
        refine T.region mix 1 [4] [0] [(sp ((TI .i64).sv 1))] (by kernel_rfl) (AOK.cons (fun ρ a w hs hz hΓ hp => gp (d_assign (vI rfl))) AOK.nil rfl) (fun vs13 => ?_)
        refine T.nil ?_
        refine T.norm ?_
        refine T.ret ?_
        obtain rfl := Option.some.inj hu3
        cases hn3
        obtain rfl := Option.some.inj hF
        refine T.fin0 fun ρ a w st => ?_
        exact ⟨_, results_one rfl rfl, (st.env 4)⟩
      · replace hu3 := iteF hu3 hc
        refine T.skip ?_
        refine T.fallX ?_
        refine T.norm ?_
        refine T.region mix 3 [10, 11, 5] [0, 1, 3] [(sp ((TI .i64).sv s5)), (sp ((TI .i64).sv (IntKind.i64.wrap (s5 + 1)))), (sp ((TI .i64).sv (IntKind.i64.wrap (s5 + 1))))] (by kernel_rfl) (AOK.cons (fun ρ a w hs hz hΓ hp => gp (d_move (hΓ 5 rfl))) (AOK.cons (fun ρ a w hs hz hΓ hp => gp (d_add (hp 0 _ rfl rfl).1 (vI rfl))) (AOK.cons (fun ρ a w hs hz hΓ hp => gp (d_assign (hp 1 _ rfl rfl).1)) AOK.nil rfl) rfl) rfl) (fun vs14 => ?_)
        refine T.nil ?_
        obtain rfl := Option.some.inj hu3
        exact T.again hn3 () (fun φ h => T.toh h ⟨fun _ _ h => h, fun _ _ h => h, fun _ _ h => h, trivial⟩ trivial)
    · replace hu3 := iteF hu3 hc
      refine T.exit ?_
      obtain rfl := Option.some.inj hu3
      repeat (first | refine T.passX ?_ | refine T.inX (by decide) ?_)
      refine T.hereX ?_
      exact T.toh (hk (s5, ()) (Eq.symm hn3)) ⟨fun _ _ h => h, fun _ _ h => h, trivial⟩ trivial

theorem c117 (w : World) (v0 v1 v2 v3 : Value) {σ : Heap} (hσ : σ.le (snap w)) {x0 : (List Int)} {x1 : (List Int)} {x2 : Int} {x3 : Int} {r : Bool} (hF : spec_l06Crosses x0 x1 x2 x3 = some r) (h0 : Y24.val σ v0 x0) (h1 : Y24.val σ v1 x1) (h2 : (TI .i64).val σ v2 x2) (h3 : (TI .i64).val σ v3 x3) :
    Calls Try.prog 117 #[v0, v1, v2, v3] w (Ret [] w σ (TB.sv r) []) := by
  unfold spec_l06Crosses at hF
  refine start (args := [v0, v1, v2, v3]) Try.func117 rfl 64 rfl [] [(0, (Y24.sv x0)), (1, (Y24.sv x1)), (2, ((TI .i64).sv x2)), (3, ((TI .i64).sv x3))] [] (sat_start _ hσ) rfl (args1 rfl h0 (args1 rfl h1 (args1 rfl h2 (args1 rfl h3 (args0))))) ?_
  refine T.seq ?_
  refine T.region mix 3 [4, 5, 8] [0, 0, 0] [(sp ((TP Y24).sv x0)), (sp ((TP Y24).sv x1)), (sp (TB.sv false))] (by kernel_rfl) (AOK.cons (fun ρ a w hs hz hΓ hp => gp (d_box hs.le (hΓ 0 rfl))) (AOK.cons (fun ρ a w hs hz hΓ hp => gp (d_box hs.le (hΓ 1 rfl))) (AOK.cons (fun ρ a w hs hz hΓ hp => gp (d_assign (vB _))) AOK.nil rfl) rfl) rfl) (fun vs1 => ?_)
  refine T.nil ?_
  refine T.norm ?_
  refine T.seq ?_
  refine T.region mix 4 [14, 15, 16, 9] [0, 1, 3, 7] [(sp ((TP (TI .i16)).sv (nth x0 0))), (sp ((TI .i16).sv (nth x0 0))), (sp ((TI .i64).sv (nth x0 0))), (sp ((TI .i64).sv (nth x0 0)))] (by kernel_rfl) (AOK.cons (fun ρ a w hs hz hΓ hp => gp (d_idxPc .i64 0 u32 y23 (hΓ 4 rfl) rfl)) (AOK.cons (fun ρ a w hs hz hΓ hp => gp (d_load y23 hs.le (hp 0 _ rfl rfl).1)) (AOK.cons (fun ρ a w hs hz hΓ hp => gp (d_widen u23 u2 rfl (hp 1 _ rfl rfl).1)) (AOK.cons (fun ρ a w hs hz hΓ hp => gp (d_assign (hp 2 _ rfl rfl).1)) AOK.nil rfl) rfl) rfl) rfl) (fun vs2 => ?_)
  refine T.nil ?_
  refine T.norm ?_
  refine T.seq ?_
  refine T.region mix 4 [17, 18, 19, 10] [0, 1, 3, 7] [(sp ((TP (TI .i16)).sv (nth x0 1))), (sp ((TI .i16).sv (nth x0 1))), (sp ((TI .i64).sv (nth x0 1))), (sp ((TI .i64).sv (nth x0 1)))] (by kernel_rfl) (AOK.cons (fun ρ a w hs hz hΓ hp => gp (d_idxPc .i64 1 u32 y23 (hΓ 4 rfl) rfl)) (AOK.cons (fun ρ a w hs hz hΓ hp => gp (d_load y23 hs.le (hp 0 _ rfl rfl).1)) (AOK.cons (fun ρ a w hs hz hΓ hp => gp (d_widen u23 u2 rfl (hp 1 _ rfl rfl).1)) (AOK.cons (fun ρ a w hs hz hΓ hp => gp (d_assign (hp 2 _ rfl rfl).1)) AOK.nil rfl) rfl) rfl) rfl) (fun vs3 => ?_)
  refine T.nil ?_
  refine T.norm ?_
  refine T.seq ?_
  refine T.region mix 4 [20, 21, 22, 11] [0, 1, 3, 7] [(sp ((TP (TI .i16)).sv (nth x1 0))), (sp ((TI .i16).sv (nth x1 0))), (sp ((TI .i64).sv (nth x1 0))), (sp ((TI .i64).sv (nth x1 0)))] (by kernel_rfl) (AOK.cons (fun ρ a w hs hz hΓ hp => gp (d_idxPc .i64 0 u32 y23 (hΓ 5 rfl) rfl)) (AOK.cons (fun ρ a w hs hz hΓ hp => gp (d_load y23 hs.le (hp 0 _ rfl rfl).1)) (AOK.cons (fun ρ a w hs hz hΓ hp => gp (d_widen u23 u2 rfl (hp 1 _ rfl rfl).1)) (AOK.cons (fun ρ a w hs hz hΓ hp => gp (d_assign (hp 2 _ rfl rfl).1)) AOK.nil rfl) rfl) rfl) rfl) (fun vs4 => ?_)
  refine T.nil ?_
  refine T.norm ?_
  refine T.seq ?_
  refine T.region mix 4 [23, 24, 25, 12] [0, 1, 3, 7] [(sp ((TP (TI .i16)).sv (nth x1 1))), (sp ((TI .i16).sv (nth x1 1))), (sp ((TI .i64).sv (nth x1 1))), (sp ((TI .i64).sv (nth x1 1)))] (by kernel_rfl) (AOK.cons (fun ρ a w hs hz hΓ hp => gp (d_idxPc .i64 1 u32 y23 (hΓ 5 rfl) rfl)) (AOK.cons (fun ρ a w hs hz hΓ hp => gp (d_load y23 hs.le (hp 0 _ rfl rfl).1)) (AOK.cons (fun ρ a w hs hz hΓ hp => gp (d_widen u23 u2 rfl (hp 1 _ rfl rfl).1)) (AOK.cons (fun ρ a w hs hz hΓ hp => gp (d_assign (hp 2 _ rfl rfl).1)) AOK.nil rfl) rfl) rfl) rfl) (fun vs5 => ?_)
  refine T.nil ?_
  refine T.norm ?_
  refine T.seq ?_
  refine T.seq ?_
  refine T.region mix 7 [26, 27, 28, 29, 30, 31, 32] [0, 0, 3, 0, 0, 24, 63] [(sp ((TI .i64).sv (nth x0 1))), (sp ((TI .i64).sv x3)), (sp (TB.sv (decide ((nth x0 1) ≤ x3)))), (sp ((TI .i64).sv (nth x1 1))), (sp ((TI .i64).sv x3)), (sp (TB.sv (decide ((nth x1 1) ≤ x3)))), (sp (TB.sv ((decide ((nth x0 1) ≤ x3)) == (decide ((nth x1 1) ≤ x3)))))] (by kernel_rfl) (AOK.cons (fun ρ a w hs hz hΓ hp => gp (d_move (hΓ 10 rfl))) (AOK.cons (fun ρ a w hs hz hΓ hp => gp (d_move (hΓ 3 rfl))) (AOK.cons (fun ρ a w hs hz hΓ hp => gp (d_leq (hp 0 _ rfl rfl).1 (hp 1 _ rfl rfl).1)) (AOK.cons (fun ρ a w hs hz hΓ hp => gp (d_move (hΓ 12 rfl))) (AOK.cons (fun ρ a w hs hz hΓ hp => gp (d_move (hΓ 3 rfl))) (AOK.cons (fun ρ a w hs hz hΓ hp => gp (d_leq (hp 3 _ rfl rfl).1 (hp 4 _ rfl rfl).1)) (AOK.cons (fun ρ a w hs hz hΓ hp => gp (d_eqlB u4 (hp 2 _ rfl rfl).1 (hp 5 _ rfl rfl).1)) AOK.nil rfl) rfl) rfl) rfl) rfl) rfl) rfl) (fun vs6 => ?_)
  refine T.nil ?_
  refine T.norm ?_
  refine T.cond (b := ((decide ((nth x0 1) ≤ x3)) == (decide ((nth x1 1) ≤ x3)))) (fun _ _ h => h) (fun hc => ?_) (fun hc => ?_)
  · replace hF := iteT hF hc
    refine T.seq ?_
    refine T.region mix 1 [8] [0] [(sp (TB.sv false))] (by kernel_rfl) (AOK.cons (fun ρ a w hs hz hΓ hp => gp (d_assign (vB _))) AOK.nil rfl) (fun vs7 => ?_)
    refine T.nil ?_
    refine T.norm ?_
    refine T.ret ?_
    obtain rfl := Option.some.inj hF
    refine T.fin0 fun ρ a w st => ?_
    exact ⟨_, results_one rfl rfl, (st.env 8)⟩
  · replace hF := iteF hF hc
    refine T.skip ?_
    refine T.norm ?_
    refine T.seq ?_
    refine T.region mix 16 [33, 34, 35, 36, 37, 38, 39, 40, 41, 42, 43, 44, 45, 46, 47, 13] [0, 0, 3, 0, 0, 24, 63, 0, 0, 384, 0, 0, 3072, 8064, 16383, 32767] [(sp ((TI .i64).sv (nth x1 0))), (sp ((TI .i64).sv (nth x0 0))), (sp ((TI .i64).sv (IntKind.i64.wrap ((nth x1 0) - (nth x0 0))))), (sp ((TI .i64).sv x3)), (sp ((TI .i64).sv (nth x0 1))), (sp ((TI .i64).sv (IntKind.i64.wrap (x3 - (nth x0 1))))), (sp ((TI .i64).sv (IntKind.i64.wrap ((IntKind.i64.wrap ((nth x1 0) - (nth x0 0))) * (IntKind.i64.wrap (x3 - (nth x0 1))))))), (sp ((TI .i64).sv x2)), (sp ((TI .i64).sv (nth x0 0))), (sp ((TI .i64).sv (IntKind.i64.wrap (x2 - (nth x0 0))))), (sp ((TI .i64).sv (nth x1 1))), (sp ((TI .i64).sv (nth x0 1))), (sp ((TI .i64).sv (IntKind.i64.wrap ((nth x1 1) - (nth x0 1))))), (sp ((TI .i64).sv (IntKind.i64.wrap ((IntKind.i64.wrap (x2 - (nth x0 0))) * (IntKind.i64.wrap ((nth x1 1) - (nth x0 1))))))), (sp ((TI .i64).sv (IntKind.i64.wrap ((IntKind.i64.wrap ((IntKind.i64.wrap ((nth x1 0) - (nth x0 0))) * (IntKind.i64.wrap (x3 - (nth x0 1))))) - (IntKind.i64.wrap ((IntKind.i64.wrap (x2 - (nth x0 0))) * (IntKind.i64.wrap ((nth x1 1) - (nth x0 1))))))))), (sp ((TI .i64).sv (IntKind.i64.wrap ((IntKind.i64.wrap ((IntKind.i64.wrap ((nth x1 0) - (nth x0 0))) * (IntKind.i64.wrap (x3 - (nth x0 1))))) - (IntKind.i64.wrap ((IntKind.i64.wrap (x2 - (nth x0 0))) * (IntKind.i64.wrap ((nth x1 1) - (nth x0 1)))))))))] (by kernel_rfl) (AOK.cons (fun ρ a w hs hz hΓ hp => gp (d_move (hΓ 11 rfl))) (AOK.cons (fun ρ a w hs hz hΓ hp => gp (d_move (hΓ 9 rfl))) (AOK.cons (fun ρ a w hs hz hΓ hp => gp (d_sub (hp 0 _ rfl rfl).1 (hp 1 _ rfl rfl).1)) (AOK.cons (fun ρ a w hs hz hΓ hp => gp (d_move (hΓ 3 rfl))) (AOK.cons (fun ρ a w hs hz hΓ hp => gp (d_move (hΓ 10 rfl))) (AOK.cons (fun ρ a w hs hz hΓ hp => gp (d_sub (hp 3 _ rfl rfl).1 (hp 4 _ rfl rfl).1)) (AOK.cons (fun ρ a w hs hz hΓ hp => gp (d_mul (hp 2 _ rfl rfl).1 (hp 5 _ rfl rfl).1)) (AOK.cons (fun ρ a w hs hz hΓ hp => gp (d_move (hΓ 2 rfl))) (AOK.cons (fun ρ a w hs hz hΓ hp => gp (d_move (hΓ 9 rfl))) (AOK.cons (fun ρ a w hs hz hΓ hp => gp (d_sub (hp 7 _ rfl rfl).1 (hp 8 _ rfl rfl).1)) (AOK.cons (fun ρ a w hs hz hΓ hp => gp (d_move (hΓ 12 rfl))) (AOK.cons (fun ρ a w hs hz hΓ hp => gp (d_move (hΓ 10 rfl))) (AOK.cons (fun ρ a w hs hz hΓ hp => gp (d_sub (hp 10 _ rfl rfl).1 (hp 11 _ rfl rfl).1)) (AOK.cons (fun ρ a w hs hz hΓ hp => gp (d_mul (hp 9 _ rfl rfl).1 (hp 12 _ rfl rfl).1)) (AOK.cons (fun ρ a w hs hz hΓ hp => gp (d_sub (hp 6 _ rfl rfl).1 (hp 13 _ rfl rfl).1)) (AOK.cons (fun ρ a w hs hz hΓ hp => gp (d_assign (hp 14 _ rfl rfl).1)) AOK.nil rfl) rfl) rfl) rfl) rfl) rfl) rfl) rfl) rfl) rfl) rfl) rfl) rfl) rfl) rfl) rfl) (fun vs8 => ?_)
    refine T.nil ?_
    refine T.norm ?_
    refine T.seq ?_
    refine T.region mix 17 [48, 49, 50, 51, 52, 53, 54, 55, 56, 57, 58, 59, 60, 61, 62, 63, 8] [0, 1, 3, 7, 7, 31, 63, 127, 255, 511, 1023, 2047, 2047, 8191, 16383, 32767, 65535] [(sp ((TI .i64).sv (IntKind.i64.wrap ((IntKind.i64.wrap ((IntKind.i64.wrap ((nth x1 0) - (nth x0 0))) * (IntKind.i64.wrap (x3 - (nth x0 1))))) - (IntKind.i64.wrap ((IntKind.i64.wrap (x2 - (nth x0 0))) * (IntKind.i64.wrap ((nth x1 1) - (nth x0 1))))))))), (sp (TB.sv (decide (0 < (IntKind.i64.wrap ((IntKind.i64.wrap ((IntKind.i64.wrap ((nth x1 0) - (nth x0 0))) * (IntKind.i64.wrap (x3 - (nth x0 1))))) - (IntKind.i64.wrap ((IntKind.i64.wrap (x2 - (nth x0 0))) * (IntKind.i64.wrap ((nth x1 1) - (nth x0 1))))))))))), (sp (TB.sv (decide (0 < (IntKind.i64.wrap ((IntKind.i64.wrap ((IntKind.i64.wrap ((nth x1 0) - (nth x0 0))) * (IntKind.i64.wrap (x3 - (nth x0 1))))) - (IntKind.i64.wrap ((IntKind.i64.wrap (x2 - (nth x0 0))) * (IntKind.i64.wrap ((nth x1 1) - (nth x0 1))))))))))), (sp (SRel.when ((decide (0 < (IntKind.i64.wrap ((IntKind.i64.wrap ((IntKind.i64.wrap ((nth x1 0) - (nth x0 0))) * (IntKind.i64.wrap (x3 - (nth x0 1))))) - (IntKind.i64.wrap ((IntKind.i64.wrap (x2 - (nth x0 0))) * (IntKind.i64.wrap ((nth x1 1) - (nth x0 1))))))))) = true) ((TI .i64).sv (nth x1 1)))), (sp (SRel.when ((decide (0 < (IntKind.i64.wrap ((IntKind.i64.wrap ((IntKind.i64.wrap ((nth x1 0) - (nth x0 0))) * (IntKind.i64.wrap (x3 - (nth x0 1))))) - (IntKind.i64.wrap ((IntKind.i64.wrap (x2 - (nth x0 0))) * (IntKind.i64.wrap ((nth x1 1) - (nth x0 1))))))))) = true) ((TI .i64).sv (nth x0 1)))), (sp (SRel.when ((decide (0 < (IntKind.i64.wrap ((IntKind.i64.wrap ((IntKind.i64.wrap ((nth x1 0) - (nth x0 0))) * (IntKind.i64.wrap (x3 - (nth x0 1))))) - (IntKind.i64.wrap ((IntKind.i64.wrap (x2 - (nth x0 0))) * (IntKind.i64.wrap ((nth x1 1) - (nth x0 1))))))))) = true) (TB.sv (decide ((nth x0 1) < (nth x1 1)))))), (sp (TB.sv ((decide (0 < (IntKind.i64.wrap ((IntKind.i64.wrap ((IntKind.i64.wrap ((nth x1 0) - (nth x0 0))) * (IntKind.i64.wrap (x3 - (nth x0 1))))) - (IntKind.i64.wrap ((IntKind.i64.wrap (x2 - (nth x0 0))) * (IntKind.i64.wrap ((nth x1 1) - (nth x0 1))))))))) && (decide ((nth x0 1) < (nth x1 1)))))), (sp (TB.sv ((decide (0 < (IntKind.i64.wrap ((IntKind.i64.wrap ((IntKind.i64.wrap ((nth x1 0) - (nth x0 0))) * (IntKind.i64.wrap (x3 - (nth x0 1))))) - (IntKind.i64.wrap ((IntKind.i64.wrap (x2 - (nth x0 0))) * (IntKind.i64.wrap ((nth x1 1) - (nth x0 1))))))))) && (decide ((nth x0 1) < (nth x1 1)))))), (sp (SRel.opt (((decide (0 < (IntKind.i64.wrap ((IntKind.i64.wrap ((IntKind.i64.wrap ((nth x1 0) - (nth x0 0))) * (IntKind.i64.wrap (x3 - (nth x0 1))))) - (IntKind.i64.wrap ((IntKind.i64.wrap (x2 - (nth x0 0))) * (IntKind.i64.wrap ((nth x1 1) - (nth x0 1))))))))) && (decide ((nth x0 1) < (nth x1 1)))) = false) ((TI .i64).sv (IntKind.i64.wrap ((IntKind.i64.wrap ((IntKind.i64.wrap ((nth x1 0) - (nth x0 0))) * (IntKind.i64.wrap (x3 - (nth x0 1))))) - (IntKind.i64.wrap ((IntKind.i64.wrap (x2 - (nth x0 0))) * (IntKind.i64.wrap ((nth x1 1) - (nth x0 1)))))))))), (sp (SRel.opt (((decide (0 < (IntKind.i64.wrap ((IntKind.i64.wrap ((IntKind.i64.wrap ((nth x1 0) - (nth x0 0))) * (IntKind.i64.wrap (x3 - (nth x0 1))))) - (IntKind.i64.wrap ((IntKind.i64.wrap (x2 - (nth x0 0))) * (IntKind.i64.wrap ((nth x1 1) - (nth x0 1))))))))) && (decide ((nth x0 1) < (nth x1 1)))) = false) (TB.sv (decide ((IntKind.i64.wrap ((IntKind.i64.wrap ((IntKind.i64.wrap ((nth x1 0) - (nth x0 0))) * (IntKind.i64.wrap (x3 - (nth x0 1))))) - (IntKind.i64.wrap ((IntKind.i64.wrap (x2 - (nth x0 0))) * (IntKind.i64.wrap ((nth x1 1) - (nth x0 1))))))) < 0))))), (sp (SRel.opt (((decide (0 < (IntKind.i64.wrap ((IntKind.i64.wrap ((IntKind.i64.wrap ((nth x1 0) - (nth x0 0))) * (IntKind.i64.wrap (x3 - (nth x0 1))))) - (IntKind.i64.wrap ((IntKind.i64.wrap (x2 - (nth x0 0))) * (IntKind.i64.wrap ((nth x1 1) - (nth x0 1))))))))) && (decide ((nth x0 1) < (nth x1 1)))) = false) (TB.sv (decide ((IntKind.i64.wrap ((IntKind.i64.wrap ((IntKind.i64.wrap ((nth x1 0) - (nth x0 0))) * (IntKind.i64.wrap (x3 - (nth x0 1))))) - (IntKind.i64.wrap ((IntKind.i64.wrap (x2 - (nth x0 0))) * (IntKind.i64.wrap ((nth x1 1) - (nth x0 1))))))) < 0))))), (sp (SRel.opt ((((decide (0 < (IntKind.i64.wrap ((IntKind.i64.wrap ((IntKind.i64.wrap ((nth x1 0) - (nth x0 0))) * (IntKind.i64.wrap (x3 - (nth x0 1))))) - (IntKind.i64.wrap ((IntKind.i64.wrap (x2 - (nth x0 0))) * (IntKind.i64.wrap ((nth x1 1) - (nth x0 1))))))))) && (decide ((nth x0 1) < (nth x1 1)))) = false ∧ (decide ((IntKind.i64.wrap ((IntKind.i64.wrap ((IntKind.i64.wrap ((nth x1 0) - (nth x0 0))) * (IntKind.i64.wrap (x3 - (nth x0 1))))) - (IntKind.i64.wrap ((IntKind.i64.wrap (x2 - (nth x0 0))) * (IntKind.i64.wrap ((nth x1 1) - (nth x0 1))))))) < 0)) = true)) ((TI .i64).sv (nth x1 1)))), (sp (SRel.opt ((((decide (0 < (IntKind.i64.wrap ((IntKind.i64.wrap ((IntKind.i64.wrap ((nth x1 0) - (nth x0 0))) * (IntKind.i64.wrap (x3 - (nth x0 1))))) - (IntKind.i64.wrap ((IntKind.i64.wrap (x2 - (nth x0 0))) * (IntKind.i64.wrap ((nth x1 1) - (nth x0 1))))))))) && (decide ((nth x0 1) < (nth x1 1)))) = false ∧ (decide ((IntKind.i64.wrap ((IntKind.i64.wrap ((IntKind.i64.wrap ((nth x1 0) - (nth x0 0))) * (IntKind.i64.wrap (x3 - (nth x0 1))))) - (IntKind.i64.wrap ((IntKind.i64.wrap (x2 - (nth x0 0))) * (IntKind.i64.wrap ((nth x1 1) - (nth x0 1))))))) < 0)) = true)) ((TI .i64).sv (nth x0 1)))), (sp (SRel.opt ((((decide (0 < (IntKind.i64.wrap ((IntKind.i64.wrap ((IntKind.i64.wrap ((nth x1 0) - (nth x0 0))) * (IntKind.i64.wrap (x3 - (nth x0 1))))) - (IntKind.i64.wrap ((IntKind.i64.wrap (x2 - (nth x0 0))) * (IntKind.i64.wrap ((nth x1 1) - (nth x0 1))))))))) && (decide ((nth x0 1) < (nth x1 1)))) = false ∧ (decide ((IntKind.i64.wrap ((IntKind.i64.wrap ((IntKind.i64.wrap ((nth x1 0) - (nth x0 0))) * (IntKind.i64.wrap (x3 - (nth x0 1))))) - (IntKind.i64.wrap ((IntKind.i64.wrap (x2 - (nth x0 0))) * (IntKind.i64.wrap ((nth x1 1) - (nth x0 1))))))) < 0)) = true)) (TB.sv (decide ((nth x1 1) < (nth x0 1)))))), (sp (SRel.opt (((decide (0 < (IntKind.i64.wrap ((IntKind.i64.wrap ((IntKind.i64.wrap ((nth x1 0) - (nth x0 0))) * (IntKind.i64.wrap (x3 - (nth x0 1))))) - (IntKind.i64.wrap ((IntKind.i64.wrap (x2 - (nth x0 0))) * (IntKind.i64.wrap ((nth x1 1) - (nth x0 1))))))))) && (decide ((nth x0 1) < (nth x1 1)))) = false) (TB.sv ((decide ((IntKind.i64.wrap ((IntKind.i64.wrap ((IntKind.i64.wrap ((nth x1 0) - (nth x0 0))) * (IntKind.i64.wrap (x3 - (nth x0 1))))) - (IntKind.i64.wrap ((IntKind.i64.wrap (x2 - (nth x0 0))) * (IntKind.i64.wrap ((nth x1 1) - (nth x0 1))))))) < 0)) && (decide ((nth x1 1) < (nth x0 1))))))), (sp (TB.sv (((decide (0 < (IntKind.i64.wrap ((IntKind.i64.wrap ((IntKind.i64.wrap ((nth x1 0) - (nth x0 0))) * (IntKind.i64.wrap (x3 - (nth x0 1))))) - (IntKind.i64.wrap ((IntKind.i64.wrap (x2 - (nth x0 0))) * (IntKind.i64.wrap ((nth x1 1) - (nth x0 1))))))))) && (decide ((nth x0 1) < (nth x1 1)))) || ((decide ((IntKind.i64.wrap ((IntKind.i64.wrap ((IntKind.i64.wrap ((nth x1 0) - (nth x0 0))) * (IntKind.i64.wrap (x3 - (nth x0 1))))) - (IntKind.i64.wrap ((IntKind.i64.wrap (x2 - (nth x0 0))) * (IntKind.i64.wrap ((nth x1 1) - (nth x0 1))))))) < 0)) && (decide ((nth x1 1) < (nth x0 1))))))), (sp (TB.sv (((decide (0 < (IntKind.i64.wrap ((IntKind.i64.wrap ((IntKind.i64.wrap ((nth x1 0) - (nth x0 0))) * (IntKind.i64.wrap (x3 - (nth x0 1))))) - (IntKind.i64.wrap ((IntKind.i64.wrap (x2 - (nth x0 0))) * (IntKind.i64.wrap ((nth x1 1) - (nth x0 1))))))))) && (decide ((nth x0 1) < (nth x1 1)))) || ((decide ((IntKind.i64.wrap ((IntKind.i64.wrap ((IntKind.i64.wrap ((nth x1 0) - (nth x0 0))) * (IntKind.i64.wrap (x3 - (nth x0 1))))) - (IntKind.i64.wrap ((IntKind.i64.wrap (x2 - (nth x0 0))) * (IntKind.i64.wrap ((nth x1 1) - (nth x0 1))))))) < 0)) && (decide ((nth x1 1) < (nth x0 1)))))))] (by kernel_rfl) (AOK.cons (fun ρ a w hs hz hΓ hp => gp (d_move (hΓ 13 rfl))) (AOK.cons (fun ρ a w hs hz hΓ hp => gp (d_gtr (hp 0 _ rfl rfl).1 (vI rfl))) (AOK.cons (fun ρ a w hs hz hΓ hp => gp (d_move (hp 1 _ rfl rfl).1)) (AOK.cons (fun ρ a w hs hz hΓ hp => gg (g := 2) (d := 50) hz rfl (hp 2 _ rfl rfl).1 rfl (fun hc => d_move (hΓ 12 rfl))) (AOK.cons (fun ρ a w hs hz hΓ hp => gg (g := 2) (d := 50) hz rfl (hp 2 _ rfl rfl).1 rfl (fun hc => d_move (hΓ 10 rfl))) (AOK.cons (fun ρ a w hs hz hΓ hp => gg (g := 2) (d := 50) hz rfl (hp 2 _ rfl rfl).1 rfl (fun hc => d_gtr ((hp 3 _ rfl rfl).1 hc) ((hp 4 _ rfl rfl).1 hc))) (AOK.cons (fun ρ a w hs hz hΓ hp => gp (d_pick (hp 2 _ rfl rfl).1 (fun hc => pA hc ((hp 5 _ rfl rfl).1 hc)) (fun hc => pAN hc))) (AOK.cons (fun ρ a w hs hz hΓ hp => gp (d_move (hp 6 _ rfl rfl).1)) (AOK.cons (fun ρ a w hs hz hΓ hp => gg1 (g := 7) (d := 55) hz rfl (hp 7 _ rfl rfl).1 rfl (fun hc => d_move (hΓ 13 rfl))) (AOK.cons (fun ρ a w hs hz hΓ hp => gg1 (g := 7) (d := 55) hz rfl (hp 7 _ rfl rfl).1 rfl (fun hc => d_lss ((hp 8 _ rfl rfl).1.1 hc) (vI rfl))) (AOK.cons (fun ρ a w hs hz hΓ hp => gg1 (g := 7) (d := 55) hz rfl (hp 7 _ rfl rfl).1 rfl (fun hc => d_move ((hp 9 _ rfl rfl).1.1 hc))) (AOK.cons (fun ρ a w hs hz hΓ hp => gn (g := 10) (d := 58) hz rfl (hp 10 _ rfl rfl).1 rfl (fun hc => d_move (hΓ 12 rfl))) (AOK.cons (fun ρ a w hs hz hΓ hp => gn (g := 10) (d := 58) hz rfl (hp 10 _ rfl rfl).1 rfl (fun hc => d_move (hΓ 10 rfl))) (AOK.cons (fun ρ a w hs hz hΓ hp => gn (g := 10) (d := 58) hz rfl (hp 10 _ rfl rfl).1 rfl (fun hc => d_lss ((hp 11 _ rfl rfl).1.1 hc) ((hp 12 _ rfl rfl).1.1 hc))) (AOK.cons (fun ρ a w hs hz hΓ hp => gg1 (g := 7) (d := 55) hz rfl (hp 7 _ rfl rfl).1 rfl (fun hc => d_pick ((hp 10 _ rfl rfl).1.1 hc) (fun hc2 => (pA hc2 ((hp 13 _ rfl rfl).1.1 ⟨hc, hc2⟩))) (fun hc2 => (pAN hc2)))) (AOK.cons (fun ρ a w hs hz hΓ hp => gp (d_pick (hp 7 _ rfl rfl).1 (fun hc2 => (pON hc2)) (fun hc2 => (pO hc2 ((hp 14 _ rfl rfl).1.1 hc2))))) (AOK.cons (fun ρ a w hs hz hΓ hp => gp (d_assign (hp 15 _ rfl rfl).1)) AOK.nil rfl) rfl) rfl) rfl) rfl) rfl) rfl) rfl) rfl) rfl) rfl) rfl) rfl) rfl) rfl) rfl) rfl) (fun vs9 => ?_)
    refine T.nil ?_
    refine T.norm ?_
    refine T.ret ?_
    obtain rfl := Option.some.inj hF
    refine T.fin0 fun ρ a w st => ?_
    exact ⟨_, results_one rfl rfl, (st.env 8)⟩

theorem c143 (w : World) (v0 : Value) {σ : Heap} (hσ : σ.le (snap w)) {x0 : (List Int)} {r : Bool} (hF : spec_l06On x0 = some r) (h0 : Y24.val σ v0 x0) :
    Calls Try.prog 143 #[v0] w (Ret [] w σ (TB.sv r) []) := by
  unfold spec_l06On at hF
  refine start (args := [v0]) Try.func143 rfl 21 rfl [] [(0, (Y24.sv x0))] [] (sat_start _ hσ) rfl (args1 rfl h0 (args0)) ?_
  refine T.seq ?_
  refine T.region mix 2 [1, 2] [0, 0] [(sp ((TP Y24).sv x0)), (sp (TB.sv false))] (by kernel_rfl) (AOK.cons (fun ρ a w hs hz hΓ hp => gp (d_box hs.le (hΓ 0 rfl))) (AOK.cons (fun ρ a w hs hz hΓ hp => gp (d_assign (vB _))) AOK.nil rfl) rfl) (fun vs1 => ?_)
  refine T.nil ?_
  refine T.norm ?_
  refine T.seq ?_
  refine T.region mix 19 [3, 4, 5, 6, 7, 8, 9, 10, 11, 12, 13, 14, 15, 16, 17, 18, 19, 20, 2] [0, 1, 3, 7, 15, 31, 63, 127, 255, 511, 1023, 2047, 4095, 8191, 16383, 32767, 65535, 131071, 262143] [(sp ((TP (TI .i16)).sv (nth x0 0))), (sp ((TI .i16).sv (nth x0 0))), (sp (TB.sv (decide (0 ≤ (nth x0 0))))), (sp (TB.sv (decide (0 ≤ (nth x0 0))))), (sp (SRel.when ((decide (0 ≤ (nth x0 0))) = true) ((TP (TI .i16)).sv (nth x0 0)))), (sp (SRel.when ((decide (0 ≤ (nth x0 0))) = true) ((TI .i16).sv (nth x0 0)))), (sp (SRel.when ((decide (0 ≤ (nth x0 0))) = true) (TB.sv (decide ((nth x0 0) < 64))))), (sp (TB.sv ((decide (0 ≤ (nth x0 0))) && (decide ((nth x0 0) < 64))))), (sp (TB.sv ((decide (0 ≤ (nth x0 0))) && (decide ((nth x0 0) < 64))))), (sp (SRel.when (((decide (0 ≤ (nth x0 0))) && (decide ((nth x0 0) < 64))) = true) ((TP (TI .i16)).sv (nth x0 1)))), (sp (SRel.when (((decide (0 ≤ (nth x0 0))) && (decide ((nth x0 0) < 64))) = true) ((TI .i16).sv (nth x0 1)))), (sp (SRel.when (((decide (0 ≤ (nth x0 0))) && (decide ((nth x0 0) < 64))) = true) (TB.sv (decide (0 ≤ (nth x0 1)))))), (sp (TB.sv (((decide (0 ≤ (nth x0 0))) && (decide ((nth x0 0) < 64))) && (decide (0 ≤ (nth x0 1)))))), (sp (TB.sv (((decide (0 ≤ (nth x0 0))) && (decide ((nth x0 0) < 64))) && (decide (0 ≤ (nth x0 1)))))), (sp (SRel.when ((((decide (0 ≤ (nth x0 0))) && (decide ((nth x0 0) < 64))) && (decide (0 ≤ (nth x0 1)))) = true) ((TP (TI .i16)).sv (nth x0 1)))), (sp (SRel.when ((((decide (0 ≤ (nth x0 0))) && (decide ((nth x0 0) < 64))) && (decide (0 ≤ (nth x0 1)))) = true) ((TI .i16).sv (nth x0 1)))), (sp (SRel.when ((((decide (0 ≤ (nth x0 0))) && (decide ((nth x0 0) < 64))) && (decide (0 ≤ (nth x0 1)))) = true) (TB.sv (decide ((nth x0 1) < 64))))), (sp (TB.sv ((((decide (0 ≤ (nth x0 0))) && (decide ((nth x0 0) < 64))) && (decide (0 ≤ (nth x0 1)))) && (decide ((nth x0 1) < 64))))), (sp (TB.sv ((((decide (0 ≤ (nth x0 0))) && (decide ((nth x0 0) < 64))) && (decide (0 ≤ (nth x0 1)))) && (decide ((nth x0 1) < 64)))))] (by kernel_rfl) (AOK.cons (fun ρ a w hs hz hΓ hp => gp (d_idxPc .i64 0 u32 y23 (hΓ 1 rfl) rfl)) (AOK.cons (fun ρ a w hs hz hΓ hp => gp (d_load y23 hs.le (hp 0 _ rfl rfl).1)) (AOK.cons (fun ρ a w hs hz hΓ hp => gp (d_geq (hp 1 _ rfl rfl).1 (vI rfl))) (AOK.cons (fun ρ a w hs hz hΓ hp => gp (d_move (hp 2 _ rfl rfl).1)) (AOK.cons (fun ρ a w hs hz hΓ hp => gg (g := 3) (d := 6) hz rfl (hp 3 _ rfl rfl).1 rfl (fun hc => d_idxPc .i64 0 u32 y23 (hΓ 1 rfl) rfl)) (AOK.cons (fun ρ a w hs hz hΓ hp => gg (g := 3) (d := 6) hz rfl (hp 3 _ rfl rfl).1 rfl (fun hc => d_load y23 hs.le ((hp 4 _ rfl rfl).1 hc))) (AOK.cons (fun ρ a w hs hz hΓ hp => gg (g := 3) (d := 6) hz rfl (hp 3 _ rfl rfl).1 rfl (fun hc => d_lss ((hp 5 _ rfl rfl).1 hc) (vI rfl))) (AOK.cons (fun ρ a w hs hz hΓ hp => gp (d_pick (hp 3 _ rfl rfl).1 (fun hc => pA hc ((hp 6 _ rfl rfl).1 hc)) (fun hc => pAN hc))) (AOK.cons (fun ρ a w hs hz hΓ hp => gp (d_move (hp 7 _ rfl rfl).1)) (AOK.cons (fun ρ a w hs hz hΓ hp => gg (g := 8) (d := 11) hz rfl (hp 8 _ rfl rfl).1 rfl (fun hc => d_idxPc .i64 1 u32 y23 (hΓ 1 rfl) rfl)) (AOK.cons (fun ρ a w hs hz hΓ hp => gg (g := 8) (d := 11) hz rfl (hp 8 _ rfl rfl).1 rfl (fun hc => d_load y23 hs.le ((hp 9 _ rfl rfl).1 hc))) (AOK.cons (fun ρ a w hs hz hΓ hp => gg (g := 8) (d := 11) hz rfl (hp 8 _ rfl rfl).1 rfl (fun hc => d_geq ((hp 10 _ rfl rfl).1 hc) (vI rfl))) (AOK.cons (fun ρ a w hs hz hΓ hp => gp (d_pick (hp 8 _ rfl rfl).1 (fun hc => pA hc ((hp 11 _ rfl rfl).1 hc)) (fun hc => pAN hc))) (AOK.cons (fun ρ a w hs hz hΓ hp => gp (d_move (hp 12 _ rfl rfl).1)) (AOK.cons (fun ρ a w hs hz hΓ hp => gg (g := 13) (d := 16) hz rfl (hp 13 _ rfl rfl).1 rfl (fun hc => d_idxPc .i64 1 u32 y23 (hΓ 1 rfl) rfl)) (AOK.cons (fun ρ a w hs hz hΓ hp => gg (g := 13) (d := 16) hz rfl (hp 13 _ rfl rfl).1 rfl (fun hc => d_load y23 hs.le ((hp 14 _ rfl rfl).1 hc))) (AOK.cons (fun ρ a w hs hz hΓ hp => gg (g := 13) (d := 16) hz rfl (hp 13 _ rfl rfl).1 rfl (fun hc => d_lss ((hp 15 _ rfl rfl).1 hc) (vI rfl))) (AOK.cons (fun ρ a w hs hz hΓ hp => gp (d_pick (hp 13 _ rfl rfl).1 (fun hc => pA hc ((hp 16 _ rfl rfl).1 hc)) (fun hc => pAN hc))) (AOK.cons (fun ρ a w hs hz hΓ hp => gp (d_assign (hp 17 _ rfl rfl).1)) AOK.nil rfl) rfl) rfl) rfl) rfl) rfl) rfl) rfl) rfl) rfl) rfl) rfl) rfl) rfl) rfl) rfl) rfl) rfl) rfl) (fun vs2 => ?_)
  refine T.nil ?_
  refine T.norm ?_
  refine T.ret ?_
  obtain rfl := Option.some.inj hF
  refine T.fin0 fun ρ a w st => ?_
  exact ⟨_, results_one rfl rfl, (st.env 2)⟩

theorem c118 (w : World) (v0 v1 v2 : Value) {x0 : (List Int)} {x1 : (List Int)} {x2 : Bool} {r : (List Int)} (hF : spec_l06Put x0 x1 x2 = some r) (hm : (boxR 45 Y42 x0 v0).holds (snapX (blkOf v0).toList w) w) (h1 : Y24.val (snapX (blkOf v0).toList w) v1 x1) (h2 : TB.val (snapX (blkOf v0).toList w) v2 x2) :
    Calls Try.prog 118 #[v0, v1, v2] w (RetM (blkOf v0).toList w SRel.any (boxR 45 Y42 r v0)) := by
  unfold spec_l06Put at hF
  refine start (args := [v0, v1, v2]) Try.func118 rfl 36 rfl (blkOf v0).toList [(0, (SRel.eq v0)), (1, (Y24.sv x1)), (2, (TB.sv x2))] [(1, (boxR 45 Y42 x0 v0))] (sat_mut (r := (boxR 45 Y42 x0 v0)) 1 hm) rfl (args1 rfl rfl (args1 rfl h1 (args1 rfl h2 (args0)))) ?_
  refine T.seq ?_
  refine T.region mix 1 [4] [0] [(sp ((TP Y24).sv x1))] (by kernel_rfl) (AOK.cons (fun ρ a w hs hz hΓ hp => gp (d_box hs.le (hΓ 1 rfl))) AOK.nil rfl) (fun vs1 => ?_)
  refine T.nil ?_
  refine T.norm ?_
  refine T.seq ?_
  refine T.seq ?_
  obtain ⟨x8, e3, hF⟩ := bindS hF
  refine T.region mix 3 [7, 8, 9] [0, 1, 3] [(sp (Y24.sv x1)), (sp (TB.sv x8)), (sp (TB.sv (!x8)))] (by kernel_rfl) (AOK.cons (fun ρ a w hs hz hΓ hp => gp (d_load y32 hs.le (hΓ 4 rfl))) (AOK.cons (fun ρ a w hs hz hΓ hp => gp (d_call fn143 hs.le mapA1 (c143 w _ hs.le e3 ((hp 0 _ rfl rfl).1)))) (AOK.cons (fun ρ a w hs hz hΓ hp => gp (d_not (hp 1 _ rfl rfl).1)) AOK.nil rfl) rfl) rfl) (fun vs2 => ?_)
  refine T.nil ?_
  refine T.norm ?_
  refine T.cond (b := (!x8)) (fun _ _ h => h) (fun hc => ?_) (fun hc => ?_)
  · replace hF := iteT hF hc
    refine T.ret ?_
    obtain rfl := Option.some.inj hF
    refine T.finM fun ρ a w st => ?_
    exact ⟨_, results_no rfl, fun σ => trivial, mut_on st.sat 1 rfl (loose_boxR (flat_TArr (flat_TI _))) rfl⟩
  · replace hF := iteF hF hc
    refine T.skip ?_
    refine T.norm ?_
    refine T.seq ?_
    refine T.region mix 5 [10, 11, 12, 13, 6] [0, 1, 3, 7, 15] [(sp ((TP (TI .i16)).sv (nth x1 0))), (sp ((TI .i16).sv (nth x1 0))), (sp ((TI .u64).sv (IntKind.u64.wrap (nth x1 0)))), (sp ((TI .u64).sv (IntKind.u64.wrap (1 * 2 ^ (min (IntKind.u64.wrap (nth x1 0)).toNat IntKind.u64.bits))))), (sp ((TI .u64).sv (IntKind.u64.wrap (1 * 2 ^ (min (IntKind.u64.wrap (nth x1 0)).toNat IntKind.u64.bits)))))] (by kernel_rfl) (AOK.cons (fun ρ a w hs hz hΓ hp => gp (d_idxPc .i64 0 u32 y23 (hΓ 4 rfl) rfl)) (AOK.cons (fun ρ a w hs hz hΓ hp => gp (d_load y23 hs.le (hp 0 _ rfl rfl).1)) (AOK.cons (fun ρ a w hs hz hΓ hp => gp (d_conv u23 u179 (hp 1 _ rfl rfl).1)) (AOK.cons (fun ρ a w hs hz hΓ hp => gp (d_shl (vI rfl) (hp 2 _ rfl rfl).1 (rng_nn (by decide) (hp 2 _ rfl rfl).1))) (AOK.cons (fun ρ a w hs hz hΓ hp => gp (d_assign (hp 3 _ rfl rfl).1)) AOK.nil rfl) rfl) rfl) rfl) rfl) (fun vs4 => ?_)
    refine T.nil ?_
    refine T.norm ?_
    refine T.seq ?_
    obtain ⟨x18, e6, hF⟩ := bindS hF
    obtain ⟨x23, e7, hF⟩ := bindS hF
    refine T.region mix 10 [14, 15, 16, 17, 18, 19, 20, 21, 22, 23] [0, 0, 2, 1, 15, 31, 0, 127, 1, 511, 1023] [(sp (SRel.eq v0)), (sp ((TP (TI .i16)).sv (nth x1 1))), (sp ((TI .i16).sv (nth x1 1))), (sp (SRel.eq v0)), (sp (SRel.eq (at_ v0 (0 + (nth x1 1).toNat * (TI .u64).n)))), (sp ((TI .u64).sv x18)), (sp ((TI .u64).sv (IntKind.u64.wrap (1 * 2 ^ (min (IntKind.u64.wrap (nth x1 0)).toNat IntKind.u64.bits))))), (sp ((TI .u64).sv (bitop .or .u64 x18 (IntKind.u64.wrap (1 * 2 ^ (min (IntKind.u64.wrap (nth x1 0)).toNat IntKind.u64.bits)))))), (sp (SRel.eq v0)), (sp (SRel.eq (at_ v0 (0 + (nth x1 1).toNat * (TI .u64).n))))] (by kernel_rfl) (AOK.cons (fun ρ a w hs hz hΓ hp => gp (d_move (hΓ 0 rfl))) (AOK.cons (fun ρ a w hs hz hΓ hp => gp (d_idxPc .i64 1 u32 y23 (hΓ 4 rfl) rfl)) (AOK.cons (fun ρ a w hs hz hΓ hp => gp (d_load y23 hs.le (hp 1 _ rfl rfl).1)) (AOK.cons (fun ρ a w hs hz hΓ hp => gp (d_nilCheckB hs 1 rfl (hp 0 _ rfl rfl).1)) (AOK.cons (fun ρ a w hs hz hΓ hp => gp (d_idxO u45 y41 hs 1 rfl (.inl ⟨(hp 3 _ rfl rfl).1, rfl⟩) (At.refl Y42 x0) (hp 2 _ rfl rfl).1 e6)) (AOK.cons (fun ρ a w hs hz hΓ hp => gp (d_loadO y41 hs 1 rfl (.inr (hp 4 _ rfl rfl).1) (At.elem (At.refl Y42 x0) (idx_get e6).2))) (AOK.cons (fun ρ a w hs hz hΓ hp => gp (d_move (hΓ 6 rfl))) (AOK.cons (fun ρ a w hs hz hΓ hp => gp (d_or (hp 5 _ rfl rfl).1 (hp 6 _ rfl rfl).1)) (AOK.cons (fun ρ a w hs hz hΓ hp => gp (d_nilCheckB hs 1 rfl (hp 0 _ rfl rfl).1)) (AOK.cons (fun ρ a w hs hz hΓ hp => gp (d_idxO u45 y41 hs 1 rfl (.inl ⟨(hp 8 _ rfl rfl).1, rfl⟩) (At.refl Y42 x0) (hp 2 _ rfl rfl).1 e7)) AOK.nil rfl) rfl) rfl) rfl) rfl) rfl) rfl) rfl) rfl) rfl) (fun vs5 => ?_)
    refine T.store 1 y41 rfl (fun ρ a w st => ⟨.inr (st.env 23), (st.env 21)⟩) (At.elem (At.refl Y42 x0) (idx_get e7).2) ?_
    refine T.nil ?_
    refine T.norm ?_
    refine T.seq ?_
    refine T.region mix 2 [24, 25] [0, 1] [(sp (TB.sv x2)), (sp (TB.sv (!x2)))] (by kernel_rfl) (AOK.cons (fun ρ a w hs hz hΓ hp => gp (d_move (hΓ 2 rfl))) (AOK.cons (fun ρ a w hs hz hΓ hp => gp (d_not (hp 0 _ rfl rfl).1)) AOK.nil rfl) rfl) (fun vs8 => ?_)
    refine T.nil ?_
    refine T.norm ?_
    obtain ⟨r1, e9, hF⟩ := bindS hF
    refine T.joinS (Γ' := fun (z : Unit) => E []) (H' := fun (z : Unit) => HL [(1, (boxR 45 Y42 r1 v0))]) (fun zz => ?_) (fun hk => ?_)
    · skip
      refine T.atEnd ?_
      obtain rfl := Option.some.inj hF
      refine T.finM fun ρ a w st => ?_
      exact ⟨_, results_no rfl, fun σ => trivial, mut_on st.sat 1 rfl (loose_boxR (flat_TArr (flat_TI _))) rfl⟩
    · refine T.cond (b := (!x2)) (fun _ _ h => h) (fun hc => ?_) (fun hc => ?_)
      · replace e9 := iteT e9 hc
        obtain ⟨x30, e11, e9⟩ := bindS e9
        obtain ⟨x35, e12, e9⟩ := bindS e9
        refine T.region mix 10 [26, 27, 28, 29, 30, 31, 32, 33, 34, 35] [0, 0, 2, 1, 15, 31, 0, 127, 1, 511, 1023] [(sp (SRel.eq v0)), (sp ((TP (TI .i16)).sv (nth x1 1))), (sp ((TI .i16).sv (nth x1 1))), (sp (SRel.eq v0)), (sp (SRel.eq (at_ v0 (0 + (nth x1 1).toNat * (TI .u64).n)))), (sp ((TI .u64).sv x30)), (sp ((TI .u64).sv (IntKind.u64.wrap (1 * 2 ^ (min (IntKind.u64.wrap (nth x1 0)).toNat IntKind.u64.bits))))), (sp ((TI .u64).sv (bitop .xor .u64 x30 (IntKind.u64.wrap (1 * 2 ^ (min (IntKind.u64.wrap (nth x1 0)).toNat IntKind.u64.bits)))))), (sp (SRel.eq v0)), (sp (SRel.eq (at_ v0 (0 + (nth x1 1).toNat * (TI .u64).n))))] (by kernel_rfl) (AOK.cons (fun ρ a w hs hz hΓ hp => gp (d_move (hΓ 0 rfl))) (AOK.cons (fun ρ a w hs hz hΓ hp => gp (d_idxPc .i64 1 u32 y23 (hΓ 4 rfl) rfl)) (AOK.cons (fun ρ a w hs hz hΓ hp => gp (d_load y23 hs.le (hp 1 _ rfl rfl).1)) (AOK.cons (fun ρ a w hs hz hΓ hp => gp (d_nilCheckB hs 1 rfl (hp 0 _ rfl rfl).1)) (AOK.cons (fun ρ a w hs hz hΓ hp => gp (d_idxO u45 y41 hs 1 rfl (.inl ⟨(hp 3 _ rfl rfl).1, rfl⟩) (At.refl Y42 (x0.set (nth x1 1).toNat (bitop .or .u64 x18 (IntKind.u64.wrap (1 * 2 ^ (min (IntKind.u64.wrap (nth x1 0)).toNat IntKind.u64.bits)))))) (hp 2 _ rfl rfl).1 e11)) (AOK.cons (fun ρ a w hs hz hΓ hp => gp (d_loadO y41 hs 1 rfl (.inr (hp 4 _ rfl rfl).1) (At.elem (At.refl Y42 (x0.set (nth x1 1).toNat (bitop .or .u64 x18 (IntKind.u64.wrap (1 * 2 ^ (min (IntKind.u64.wrap (nth x1 0)).toNat IntKind.u64.bits)))))) (idx_get e11).2))) (AOK.cons (fun ρ a w hs hz hΓ hp => gp (d_move (hΓ 6 rfl))) (AOK.cons (fun ρ a w hs hz hΓ hp => gp (d_xor (hp 5 _ rfl rfl).1 (hp 6 _ rfl rfl).1)) (AOK.cons (fun ρ a w hs hz hΓ hp => gp (d_nilCheckB hs 1 rfl (hp 0 _ rfl rfl).1)) (AOK.cons (fun ρ a w hs hz hΓ hp => gp (d_idxO u45 y41 hs 1 rfl (.inl ⟨(hp 8 _ rfl rfl).1, rfl⟩) (At.refl Y42 (x0.set (nth x1 1).toNat (bitop .or .u64 x18 (IntKind.u64.wrap (1 * 2 ^ (min (IntKind.u64.wrap (nth x1 0)).toNat IntKind.u64.bits)))))) (hp 2 _ rfl rfl).1 e12)) AOK.nil rfl) rfl) rfl) rfl) rfl) rfl) rfl) rfl) rfl) rfl) (fun vs10 => ?_)
        refine T.store 1 y41 rfl (fun ρ a w st => ⟨.inr (st.env 35), (st.env 33)⟩) (At.elem (At.refl Y42 (x0.set (nth x1 1).toNat (bitop .or .u64 x18 (IntKind.u64.wrap (1 * 2 ^ (min (IntKind.u64.wrap (nth x1 0)).toNat IntKind.u64.bits)))))) (idx_get e12).2) ?_
        refine T.nil ?_
        cases e9
        exact T.toh (hk ()) trivial ⟨rfl, trivial⟩
      · replace e9 := iteF e9 hc
        refine T.skip ?_
        cases e9
        exact T.toh (hk ()) trivial ⟨rfl, trivial⟩

theorem c99 (w : World) (v0 v1 : Value) {σ : Heap} (hσ : σ.le (snap w)) {x0 : Int} {x1 : Int} {r : Int} (hF : spec_l06Near x0 x1 = some r) (h0 : (TI .i64).val σ v0 x0) (h1 : (TI .i64).val σ v1 x1) :
    Calls Try.prog 99 #[v0, v1] w (Ret [] w σ ((TI .i64).sv r) []) := by
  unfold spec_l06Near at hF
  refine start (args := [v0, v1]) Try.func99 rfl 23 rfl [] [(0, ((TI .i64).sv x0)), (1, ((TI .i64).sv x1))] [] (sat_start _ hσ) rfl (args1 rfl h0 (args1 rfl h1 (args0))) ?_
  refine T.seq ?_
  refine T.region mix 1 [4] [0] [(sp ((TI .i64).sv 0))] (by kernel_rfl) (AOK.cons (fun ρ a w hs hz hΓ hp => gp (d_assign (vI rfl))) AOK.nil rfl) (fun vs1 => ?_)
  refine T.nil ?_
  refine T.norm ?_
  refine T.seq ?_
  refine T.region mix 5 [7, 8, 9, 10, 5] [0, 1, 0, 7, 15] [(sp ((TI .i64).sv x0)), (sp ((TI .i64).sv (IntKind.i64.wrap (2 * x0)))), (sp ((TI .i64).sv x1)), (sp ((TI .i64).sv (IntKind.i64.wrap ((IntKind.i64.wrap (2 * x0)) + x1)))), (sp ((TI .i64).sv (IntKind.i64.wrap ((IntKind.i64.wrap (2 * x0)) + x1))))] (by kernel_rfl) (AOK.cons (fun ρ a w hs hz hΓ hp => gp (d_move (hΓ 0 rfl))) (AOK.cons (fun ρ a w hs hz hΓ hp => gp (d_mul (vI rfl) (hp 0 _ rfl rfl).1)) (AOK.cons (fun ρ a w hs hz hΓ hp => gp (d_move (hΓ 1 rfl))) (AOK.cons (fun ρ a w hs hz hΓ hp => gp (d_add (hp 1 _ rfl rfl).1 (hp 2 _ rfl rfl).1)) (AOK.cons (fun ρ a w hs hz hΓ hp => gp (d_assign (hp 3 _ rfl rfl).1)) AOK.nil rfl) rfl) rfl) rfl) rfl) (fun vs2 => ?_)
  refine T.nil ?_
  refine T.norm ?_
  refine T.seq ?_
  obtain ⟨_u14, e4, hF⟩ := bindS hF
  refine T.region mix 5 [11, 12, 13, 14, 6] [0, 0, 2, 7, 15] [(sp ((TI .i64).sv (IntKind.i64.wrap ((IntKind.i64.wrap (2 * x0)) + x1)))), (sp ((TI .i64).sv x1)), (sp ((TI .i64).sv (IntKind.i64.wrap (2 * x1)))), (sp ((TI .i64).sv (IntKind.i64.wrap (Int.tdiv (IntKind.i64.wrap ((IntKind.i64.wrap (2 * x0)) + x1)) (IntKind.i64.wrap (2 * x1)))))), (sp ((TI .i64).sv (IntKind.i64.wrap (Int.tdiv (IntKind.i64.wrap ((IntKind.i64.wrap (2 * x0)) + x1)) (IntKind.i64.wrap (2 * x1))))))] (by kernel_rfl) (AOK.cons (fun ρ a w hs hz hΓ hp => gp (d_move (hΓ 5 rfl))) (AOK.cons (fun ρ a w hs hz hΓ hp => gp (d_move (hΓ 1 rfl))) (AOK.cons (fun ρ a w hs hz hΓ hp => gp (d_mul (vI rfl) (hp 1 _ rfl rfl).1)) (AOK.cons (fun ρ a w hs hz hΓ hp => gp (d_quo (hp 0 _ rfl rfl).1 (hp 2 _ rfl rfl).1 (of_decide_eq_true (need_get e4)))) (AOK.cons (fun ρ a w hs hz hΓ hp => gp (d_assign (hp 3 _ rfl rfl).1)) AOK.nil rfl) rfl) rfl) rfl) rfl) (fun vs3 => ?_)
  refine T.nil ?_
  refine T.norm ?_
  refine T.seq ?_
  refine T.seq ?_
  obtain ⟨_u18, e6, hF⟩ := bindS hF
  refine T.region mix 5 [15, 16, 17, 18, 19] [0, 0, 2, 7, 15] [(sp ((TI .i64).sv (IntKind.i64.wrap ((IntKind.i64.wrap (2 * x0)) + x1)))), (sp ((TI .i64).sv x1)), (sp ((TI .i64).sv (IntKind.i64.wrap (2 * x1)))), (sp ((TI .i64).sv (Int.tmod (IntKind.i64.wrap ((IntKind.i64.wrap (2 * x0)) + x1)) (IntKind.i64.wrap (2 * x1))))), (sp (TB.sv (decide ((Int.tmod (IntKind.i64.wrap ((IntKind.i64.wrap (2 * x0)) + x1)) (IntKind.i64.wrap (2 * x1))) < 0))))] (by kernel_rfl) (AOK.cons (fun ρ a w hs hz hΓ hp => gp (d_move (hΓ 5 rfl))) (AOK.cons (fun ρ a w hs hz hΓ hp => gp (d_move (hΓ 1 rfl))) (AOK.cons (fun ρ a w hs hz hΓ hp => gp (d_mul (vI rfl) (hp 1 _ rfl rfl).1)) (AOK.cons (fun ρ a w hs hz hΓ hp => gp (d_rem (hp 0 _ rfl rfl).1 (hp 2 _ rfl rfl).1 (of_decide_eq_true (need_get e6)))) (AOK.cons (fun ρ a w hs hz hΓ hp => gp (d_lss (hp 3 _ rfl rfl).1 (vI rfl))) AOK.nil rfl) rfl) rfl) rfl) rfl) (fun vs5 => ?_)
  refine T.nil ?_
  refine T.norm ?_
  obtain ⟨y6, e7, hF⟩ := bindS hF
  refine T.joinS (Γ' := fun (z : Unit) => E [(6, ((TI .i64).sv y6))]) (H' := fun (z : Unit) => HL []) (fun zz => ?_) (fun hk => ?_)
  · skip
    refine T.norm ?_
    refine T.seq ?_
    refine T.region mix 2 [22, 4] [0, 1] [(sp ((TI .i64).sv y6)), (sp ((TI .i64).sv y6))] (by kernel_rfl) (AOK.cons (fun ρ a w hs hz hΓ hp => gp (d_move (hΓ 6 rfl))) (AOK.cons (fun ρ a w hs hz hΓ hp => gp (d_assign (hp 0 _ rfl rfl).1)) AOK.nil rfl) rfl) (fun vs8 => ?_)
    refine T.nil ?_
    refine T.norm ?_
    refine T.ret ?_
    obtain rfl := Option.some.inj hF
    refine T.fin0 fun ρ a w st => ?_
    exact ⟨_, results_one rfl rfl, (st.env 4)⟩
  · refine T.cond (b := (decide ((Int.tmod (IntKind.i64.wrap ((IntKind.i64.wrap (2 * x0)) + x1)) (IntKind.i64.wrap (2 * x1))) < 0))) (fun _ _ h => h) (fun hc => ?_) (fun hc => ?_)
    · replace e7 := iteT e7 hc
      refine T.region mix 3 [20, 21, 6] [0, 1, 3] [(sp ((TI .i64).sv (IntKind.i64.wrap (Int.tdiv (IntKind.i64.wrap ((IntKind.i64.wrap (2 * x0)) + x1)) (IntKind.i64.wrap (2 * x1)))))), (sp ((TI .i64).sv (IntKind.i64.wrap ((IntKind.i64.wrap (Int.tdiv (IntKind.i64.wrap ((IntKind.i64.wrap (2 * x0)) + x1)) (IntKind.i64.wrap (2 * x1)))) - 1)))), (sp ((TI .i64).sv (IntKind.i64.wrap ((IntKind.i64.wrap (Int.tdiv (IntKind.i64.wrap ((IntKind.i64.wrap (2 * x0)) + x1)) (IntKind.i64.wrap (2 * x1)))) - 1))))] (by kernel_rfl) (AOK.cons (fun ρ a w hs hz hΓ hp => gp (d_move (hΓ 6 rfl))) (AOK.cons (fun ρ a w hs hz hΓ hp => gp (d_sub (hp 0 _ rfl rfl).1 (vI rfl))) (AOK.cons (fun ρ a w hs hz hΓ hp => gp (d_assign (hp 1 _ rfl rfl).1)) AOK.nil rfl) rfl) rfl) (fun vs9 => ?_)
      refine T.nil ?_
      cases e7
      exact T.toh (hk ()) ⟨fun _ _ h => h, trivial⟩ trivial
    · replace e7 := iteF e7 hc
      refine T.skip ?_
      cases e7
      exact T.toh (hk ()) ⟨fun _ _ h => h, trivial⟩ trivial

theorem c144 (w : World) (v0 v1 : Value) {σ : Heap} (hσ : σ.le (snap w)) {x0 : (List Int)} {x1 : (List Int)} {r : (List (List Int))} (hF : spec_l06Marks x0 x1 = some r) (h0 : Y24.val σ v0 x0) (h1 : Y24.val σ v1 x1) :
    Calls Try.prog 144 #[v0, v1] w (Ret [] w σ SRel.any [slR 32 Y24 r]) := by
  unfold spec_l06Marks at hF
  refine start (args := [v0, v1]) Try.func144 rfl 54 rfl [] [(0, (Y24.sv x0)), (1, (Y24.sv x1))] [] (sat_start _ hσ) rfl (args1 rfl h0 (args1 rfl h1 (args0))) ?_
  refine T.seq ?_
  refine T.region mix 3 [2, 3, 4] [0, 0, 0] [(sp ((TP Y24).sv x0)), (sp ((TP Y24).sv x1)), (sO SRel.any [(1, (slR 32 Y24 []))])] (by kernel_rfl) (AOK.cons (fun ρ a w hs hz hΓ hp => gp (d_box hs.le (hΓ 0 rfl))) (AOK.cons (fun ρ a w hs hz hΓ hp => gp (d_box hs.le (hΓ 1 rfl))) (AOK.cons (fun ρ a w hs hz hΓ hp => g_nilSl) AOK.nil rfl) rfl) rfl) (fun vs1 => ?_)
  refine T.nil ?_
  refine T.norm ?_
  refine T.seq ?_
  obtain ⟨x12, e3, hF⟩ := bindS hF
  refine T.region mix 4 [10, 11, 12, 5] [0, 0, 3, 7] [(sp (Y24.sv x0)), (sp (Y24.sv x1)), (sp ((TI .i64).sv x12)), (sp ((TI .i64).sv x12))] (by kernel_rfl) (AOK.cons (fun ρ a w hs hz hΓ hp => gp (d_load y32 hs.le (hΓ 2 rfl))) (AOK.cons (fun ρ a w hs hz hΓ hp => gp (d_load y32 hs.le (hΓ 3 rfl))) (AOK.cons (fun ρ a w hs hz hΓ hp => gp (d_call fn59 hs.le mapA2 (c59 w _ _ hs.le e3 ((hp 0 _ rfl rfl).1) ((hp 1 _ rfl rfl).1)))) (AOK.cons (fun ρ a w hs hz hΓ hp => gp (d_assign (hp 2 _ rfl rfl).1)) AOK.nil rfl) rfl) rfl) rfl) (fun vs2 => ?_)
  refine T.nil ?_
  refine T.norm ?_
  refine T.seq ?_
  refine T.seq ?_
  refine T.region mix 2 [13, 14] [0, 1] [(sp ((TI .i64).sv x12)), (sp (TB.sv (decide (x12 = 0))))] (by kernel_rfl) (AOK.cons (fun ρ a w hs hz hΓ hp => gp (d_move (hΓ 5 rfl))) (AOK.cons (fun ρ a w hs hz hΓ hp => gp (d_eql (hp 0 _ rfl rfl).1 (vI rfl))) AOK.nil rfl) rfl) (fun vs4 => ?_)
  refine T.nil ?_
  refine T.norm ?_
  refine T.cond (b := (decide (x12 = 0))) (fun _ _ h => h) (fun hc => ?_) (fun hc => ?_)
  · replace hF := iteT hF hc
    refine T.seq ?_
    refine T.region mix 3 [15, 16, 4] [0, 1, 3] [(sp (Y24.sv x0)), (sO SRel.any [(2, (slR 32 Y24 ([x0] : List (List Int))))]), (al 1 (id))] (by kernel_rfl) (AOK.cons (fun ρ a w hs hz hΓ hp => gp (d_load y32 hs.le (hΓ 2 rfl))) (AOK.cons (fun ρ a w hs hz hΓ hp => g_buildSl hs.le u49 y32 z32 (by decide) (by decide) zc32 (Fills.part rfl (hp 0 _ rfl rfl).1 (At.nth (At.refl _ _) 0 rfl) (Fills.done _))) (AOK.cons (fun ρ a w hs hz hΓ hp => al_assign rfl) AOK.nil rfl) rfl) rfl) (fun vs5 => ?_)
    refine T.nil ?_
    refine T.norm ?_
    refine T.ret ?_
    obtain rfl := Option.some.inj hF
    refine T.fin fun ρ a w st => ?_
    exact ⟨_, results_one rfl rfl, trivial, own1 (own_at (id := 2) (st.env 4) rfl), List.pairwise_singleton _ _⟩
  · replace hF := iteF hF hc
    refine T.skip ?_
    refine T.norm ?_
    refine T.seq ?_
    refine T.region mix 2 [17, 6] [0, 1] [(sO SRel.any [(3, (slR 32 Y24 ([] : List (List Int))))]), (al 0 (id))] (by kernel_rfl) (AOK.cons (fun ρ a w hs hz hΓ hp => g_buildSl hs.le u49 y32 z32 (by decide) (by decide) zc32 (Fills.done _)) (AOK.cons (fun ρ a w hs hz hΓ hp => al_assign rfl) AOK.nil rfl) rfl) (fun vs6 => ?_)
    refine T.nil ?_
    refine T.norm ?_
    refine T.seq ?_
    refine T.seq ?_
    refine T.region mix 1 [7] [0] [(sp ((TI .i64).sv 0))] (by kernel_rfl) (AOK.cons (fun ρ a w hs hz hΓ hp => gp (d_assign (vI rfl))) AOK.nil rfl) (fun vs7 => ?_)
    refine T.nil ?_
    refine T.norm ?_
    obtain ⟨yl8, e9, hF⟩ := bindS hF
    refine T.joinD (ι := (Int × (List (List Int))) × (Value)) (fun p => yl8 = p.1) (Γ' := fun p => E [(6, (SRel.eq p.2))]) (H' := fun p => HL [(3, (slR 32 Y24 p.1.2 p.2))]) (fun p hy => ?_) (fun hk => ?_)
    · obtain ⟨⟨o7, or3⟩, z3_10⟩ := p
      cases hy
      refine T.norm ?_
      refine T.seq ?_
      refine T.region mix 2 [53, 4] [0, 1] [(sp (SRel.eq z3_10)), (sp (SRel.eq z3_10))] (by kernel_rfl) (AOK.cons (fun ρ a w hs hz hΓ hp => gp (d_move (hΓ 6 rfl))) (AOK.cons (fun ρ a w hs hz hΓ hp => gp (d_assign (hp 0 _ rfl rfl).1)) AOK.nil rfl) rfl) (fun vs11 => ?_)
      refine T.nil ?_
      refine T.norm ?_
      refine T.ret ?_
      obtain rfl := Option.some.inj hF
      refine T.fin fun ρ a w st => ?_
      exact ⟨_, results_one rfl rfl, trivial, own1 (own_at (id := 3) (st.env 4) rfl), List.pairwise_singleton _ _⟩
    · skip
      refine T.block ?_
      refine T.loop (f := spec_l06Marks_l1 x0 x1 x12) (σ := (Int × (List (List Int)))) (Z := Value) (fun s z => E [(2, ((TP Y24).sv x0)), (3, ((TP Y24).sv x1)), (5, ((TI .i64).sv x12)), (6, (SRel.eq z)), (7, ((TI .i64).sv s.1))]) (fun s z => HL [(3, (slR 32 Y24 s.2 z))]) e9 (vs6 0) (fun φ h => T.toh h ⟨fun _ _ h => h, fun _ _ h => h, fun _ _ h => h, fun _ _ h => h, fun _ _ h => h, trivial⟩ ⟨rfl, trivial⟩) (fun k s z uu8 hu8 hn8 => ?_)
      obtain ⟨s7, sr3⟩ := s
      obtain ⟨z3, rfl⟩ : ∃ q, q = z := ⟨_, rfl⟩
      dsimp only [spec_l06Marks_l1] at hu8
      refine T.seq ?_
      refine T.seq ?_
      refine T.region mix 3 [18, 19, 20] [0, 0, 3] [(sp ((TI .i64).sv s7)), (sp ((TI .i64).sv x12)), (sp (TB.sv (decide (s7 ≤ x12))))] (by kernel_rfl) (AOK.cons (fun ρ a w hs hz hΓ hp => gp (d_move (hΓ 7 rfl))) (AOK.cons (fun ρ a w hs hz hΓ hp => gp (d_move (hΓ 5 rfl))) (AOK.cons (fun ρ a w hs hz hΓ hp => gp (d_leq (hp 0 _ rfl rfl).1 (hp 1 _ rfl rfl).1)) AOK.nil rfl) rfl) rfl) (fun vs12 => ?_)
      refine T.nil ?_
      refine T.norm ?_
      refine T.cond (b := (decide (s7 ≤ x12))) (fun _ _ h => h) (fun hc => ?_) (fun hc => ?_)
      · replace hu8 := iteT hu8 hc
        refine T.skip ?_
        refine T.norm ?_
        refine T.seq ?_
        refine T.block ?_
        refine T.seq ?_
        refine T.region mix 2 [23, 8] [0, 0, 3] [(sp (Y24.sv ((List.replicate 2 0) : (List Int)))), (sO SRel.any [(4, (boxR 32 Y24 (List.replicate 2 0)))])] (by kernel_rfl) (AOK.cons (fun ρ a w hs hz hΓ hp => gp (d_buildA u32 y23 z32 zc32 (Fills.done _))) (AOK.cons (fun ρ a w hs hz hΓ hp => g_alloc hs.le z32 zc32) AOK.nil rfl) rfl) (fun vs13 => ?_)
        refine T.store 4 y32 rfl (fun ρ a w st => ⟨.inl ⟨(st.env 8).1, rfl⟩, (st.env 23)⟩) (At.refl Y24 (List.replicate 2 0)) ?_
        refine T.nil ?_
        refine T.norm ?_
        refine T.seq ?_
        refine T.seq ?_
        refine T.region mix 1 [9] [0] [(sp ((TI .i64).sv 0))] (by kernel_rfl) (AOK.cons (fun ρ a w hs hz hΓ hp => gp (d_assign (vI rfl))) AOK.nil rfl) (fun vs14 => ?_)
        refine T.nil ?_
        refine T.norm ?_
        obtain ⟨yl15, e16, hu8⟩ := bindS hu8
        refine T.joinD (ι := (Int × (List Int)) × (Unit)) (fun p => yl15 = p.1) (Γ' := fun p => E [(2, ((TP Y24).sv x0)), (3, ((TP Y24).sv x1)), (5, ((TI .i64).sv x12)), (6, (SRel.eq z3)), (7, ((TI .i64).sv s7)), (8, (SRel.eq (vs13 1)))]) (H' := fun p => HL [(3, (slR 32 Y24 sr3 z3)), (4, (boxR 32 Y24 p.1.2 (vs13 1)))]) (fun p hy => ?_) (fun hk => ?_)
        · obtain ⟨⟨o9, or4⟩, _⟩ := p
          cases hy
          refine T.norm ?_
          refine T.region mix 3 [49, 50, 51] [0, 0, 2, 7, 15] [(sp (SRel.eq z3)), (sp (Y24.sv or4)), (sp (Y49.sv ([or4] : List (List Int))))] (by kernel_rfl) (AOK.cons (fun ρ a w hs hz hΓ hp => gp (d_move (hΓ 6 rfl))) (AOK.cons (fun ρ a w hs hz hΓ hp => gp (d_loadO y32 hs 4 rfl (.inl ⟨(hΓ 8 rfl), rfl⟩) (At.refl Y24 or4))) (AOK.cons (fun ρ a w hs hz hΓ hp => gp (d_buildSl hs.le u49 y32 z32 (by decide) (by decide) zc32 (Fills.part rfl (hp 1 _ rfl rfl).1 (At.nth (At.refl _ _) 0 rfl) (Fills.done _)))) AOK.nil rfl) rfl) rfl) (fun vs17 => ?_)
          obtain ⟨x52, e18, hu8⟩ := bindS hu8
          obtain ⟨e18l, rfl⟩ := app_get e18
          refine T.append 3 rfl u49 i32 rfl rfl (fun ρ a w st => ⟨(st.env 49), (cells_ro (by decide) st.sat.le (st.env 51))⟩) e18l (fun v52 => ?_)
          refine T.does (R := (SRel.eq v52)) rfl (fun ρ a w st => have hs := st.sat; d_assign (st.env 52)) ?_
          refine T.nil ?_
          refine T.fallX ?_
          refine T.norm ?_
          refine T.region mix 3 [21, 22, 7] [0, 1, 3] [(sp ((TI .i64).sv s7)), (sp ((TI .i64).sv (IntKind.i64.wrap (s7 + 1)))), (sp ((TI .i64).sv (IntKind.i64.wrap (s7 + 1))))] (by kernel_rfl) (AOK.cons (fun ρ a w hs hz hΓ hp => gp (d_move (hΓ 7 rfl))) (AOK.cons (fun ρ a w hs hz hΓ hp => gp (d_add (hp 0 _ rfl rfl).1 (vI rfl))) (AOK.cons (fun ρ a w hs hz hΓ hp => gp (d_assign (hp 1 _ rfl rfl).1)) AOK.nil rfl) rfl) rfl) (fun vs19 => ?_)
          refine T.nil ?_
          obtain rfl := Option.some.inj hu8
          exact T.again hn8 v52 (fun φ h => T.toh h ⟨fun _ _ h => h, fun _ _ h => h, fun _ _ h => h, fun _ _ h => h, fun _ _ h => h, trivial⟩ ⟨rfl, trivial⟩)
        · skip
          refine T.block ?_
          refine T.loop (f := spec_l06Marks_l2 x0 x1 x12 s7) (σ := (Int × (List Int))) (Z := Unit) (fun s z => E [(2, ((TP Y24).sv x0)), (3, ((TP Y24).sv x1)), (5, ((TI .i64).sv x12)), (6, (SRel.eq z3)), (7, ((TI .i64).sv s7)), (8, (SRel.eq (vs13 1))), (9, ((TI .i64).sv s.1))]) (fun s z => HL [(3, (slR 32 Y24 sr3 z3)), (4, (boxR 32 Y24 s.2 (vs13 1)))]) e16 () (fun φ h => T.toh h ⟨fun _ _ h => h, fun _ _ h => h, fun _ _ h => h, fun _ _ h => h, fun _ _ h => h, fun _ _ h => h.1, fun _ _ h => h, trivial⟩ ⟨rfl, rfl, trivial⟩) (fun k s z uu15 hu15 hn15 => ?_)
          obtain ⟨s9, sr4⟩ := s
          dsimp only [spec_l06Marks_l2] at hu15
          refine T.seq ?_
          refine T.seq ?_
          refine T.region mix 2 [24, 25] [0, 1] [(sp ((TI .i64).sv s9)), (sp (TB.sv (decide (s9 < 2))))] (by kernel_rfl) (AOK.cons (fun ρ a w hs hz hΓ hp => gp (d_move (hΓ 9 rfl))) (AOK.cons (fun ρ a w hs hz hΓ hp => gp (d_lss (hp 0 _ rfl rfl).1 (vI rfl))) AOK.nil rfl) rfl) (fun vs20 => ?_)
          refine T.nil ?_
          refine T.norm ?_
          refine T.cond (b := (decide (s9 < 2))) (fun _ _ h => h) (fun hc => ?_) (fun hc => ?_)
          · replace hu15 := iteT hu15 hc
            refine T.skip ?_
            refine T.norm ?_
            refine T.seq ?_
            refine T.block ?_
            obtain ⟨x30, e22, hu15⟩ := bindS hu15
            obtain ⟨x35, e23, hu15⟩ := bindS hu15
            obtain ⟨x39, e24, hu15⟩ := bindS hu15
            obtain ⟨x45, e25, hu15⟩ := bindS hu15
            obtain ⟨x48, e26, hu15⟩ := bindS hu15
            refine T.region mix 21 [28, 29, 30, 31, 32, 33, 34, 35, 36, 37, 38, 39, 40, 41, 42, 43, 44, 45, 46, 47, 48] [0, 0, 2, 6, 14, 0, 0, 64, 192, 448, 0, 1024, 3072, 7168, 16320, 32736, 0, 131040, 262142, 524286, 1048575, 2097151] [(sp ((TI .i64).sv s9)), (sp ((TI .i64).sv s9)), (sp ((TP (TI .i16)).sv x30)), (sp ((TI .i16).sv x30)), (sp ((TI .i64).sv x30)), (sp ((TI .i64).sv s7)), (sp ((TI .i64).sv s9)), (sp ((TP (TI .i16)).sv x35)), (sp ((TI .i16).sv x35)), (sp ((TI .i64).sv x35)), (sp ((TI .i64).sv s9)), (sp ((TP (TI .i16)).sv x39)), (sp ((TI .i16).sv x39)), (sp ((TI .i64).sv x39)), (sp ((TI .i64).sv (IntKind.i64.wrap (x35 - x39)))), (sp ((TI .i64).sv (IntKind.i64.wrap (s7 * (IntKind.i64.wrap (x35 - x39)))))), (sp ((TI .i64).sv x12)), (sp ((TI .i64).sv x45)), (sp ((TI .i64).sv (IntKind.i64.wrap (x30 + x45)))), (sp ((TI .i16).sv (IntKind.i16.wrap (IntKind.i64.wrap (x30 + x45))))), (sp (SRel.eq (at_ (vs13 1) (0 + s9.toNat * (TI .i16).n))))] (by kernel_rfl) (AOK.cons (fun ρ a w hs hz hΓ hp => gp (d_move (hΓ 9 rfl))) (AOK.cons (fun ρ a w hs hz hΓ hp => gp (d_move (hΓ 9 rfl))) (AOK.cons (fun ρ a w hs hz hΓ hp => gp (d_idxP u32 y23 (hΓ 2 rfl) (hp 1 _ rfl rfl).1 e22)) (AOK.cons (fun ρ a w hs hz hΓ hp => gp (d_load y23 hs.le (hp 2 _ rfl rfl).1)) (AOK.cons (fun ρ a w hs hz hΓ hp => gp (d_widen u23 u2 rfl (hp 3 _ rfl rfl).1)) (AOK.cons (fun ρ a w hs hz hΓ hp => gp (d_move (hΓ 7 rfl))) (AOK.cons (fun ρ a w hs hz hΓ hp => gp (d_move (hΓ 9 rfl))) (AOK.cons (fun ρ a w hs hz hΓ hp => gp (d_idxP u32 y23 (hΓ 3 rfl) (hp 6 _ rfl rfl).1 e23)) (AOK.cons (fun ρ a w hs hz hΓ hp => gp (d_load y23 hs.le (hp 7 _ rfl rfl).1)) (AOK.cons (fun ρ a w hs hz hΓ hp => gp (d_widen u23 u2 rfl (hp 8 _ rfl rfl).1)) (AOK.cons (fun ρ a w hs hz hΓ hp => gp (d_move (hΓ 9 rfl))) (AOK.cons (fun ρ a w hs hz hΓ hp => gp (d_idxP u32 y23 (hΓ 2 rfl) (hp 10 _ rfl rfl).1 e24)) (AOK.cons (fun ρ a w hs hz hΓ hp => gp (d_load y23 hs.le (hp 11 _ rfl rfl).1)) (AOK.cons (fun ρ a w hs hz hΓ hp => gp (d_widen u23 u2 rfl (hp 12 _ rfl rfl).1)) (AOK.cons (fun ρ a w hs hz hΓ hp => gp (d_sub (hp 9 _ rfl rfl).1 (hp 13 _ rfl rfl).1)) (AOK.cons (fun ρ a w hs hz hΓ hp => gp (d_mul (hp 5 _ rfl rfl).1 (hp 14 _ rfl rfl).1)) (AOK.cons (fun ρ a w hs hz hΓ hp => gp (d_move (hΓ 5 rfl))) (AOK.cons (fun ρ a w hs hz hΓ hp => gp (d_call fn99 hs.le mapA2 (c99 w _ _ hs.le e25 ((hp 15 _ rfl rfl).1) ((hp 16 _ rfl rfl).1)))) (AOK.cons (fun ρ a w hs hz hΓ hp => gp (d_add (hp 4 _ rfl rfl).1 (hp 17 _ rfl rfl).1)) (AOK.cons (fun ρ a w hs hz hΓ hp => gp (d_conv u2 u23 (hp 18 _ rfl rfl).1)) (AOK.cons (fun ρ a w hs hz hΓ hp => gp (d_idxO u32 y23 hs 4 rfl (.inl ⟨(hΓ 8 rfl), rfl⟩) (At.refl Y24 sr4) (hp 0 _ rfl rfl).1 e26)) AOK.nil rfl) rfl) rfl) rfl) rfl) rfl) rfl) rfl) rfl) rfl) rfl) rfl) rfl) rfl) rfl) rfl) rfl) rfl) rfl) rfl) rfl) (fun vs21 => ?_)
            refine T.store 4 y23 rfl (fun ρ a w st => ⟨.inr (st.env 48), (st.env 47)⟩) (At.elem (At.refl Y24 sr4) (idx_get e26).2) ?_
            refine T.nil ?_
            refine T.fallX ?_
            refine T.norm ?_
            refine T.region mix 3 [26, 27, 9] [0, 1, 3] [(sp ((TI .i64).sv s9)), (sp ((TI .i64).sv (IntKind.i64.wrap (s9 + 1)))), (sp ((TI .i64).sv (IntKind.i64.wrap (s9 + 1))))] (by kernel_rfl) (AOK.cons (fun ρ a w hs hz hΓ hp => gp (d_move (hΓ 9 rfl))) (AOK.cons (fun ρ a w hs hz hΓ hp => gp (d_add (hp 0 _ rfl rfl).1 (vI rfl))) (AOK.cons (fun ρ a w hs hz hΓ hp => gp (d_assign (hp 1 _ rfl rfl).1)) AOK.nil rfl) rfl) rfl) (fun vs27 => ?_)
            refine T.nil ?_
            obtain rfl := Option.some.inj hu15
            exact T.again hn15 () (fun φ h => T.toh h ⟨fun _ _ h => h, fun _ _ h => h, fun _ _ h => h, fun _ _ h => h, fun _ _ h => h, fun _ _ h => h, fun _ _ h => h, trivial⟩ ⟨rfl, rfl, trivial⟩)
          · replace hu15 := iteF hu15 hc
            refine T.exit ?_
            obtain rfl := Option.some.inj hu15
            repeat (first | refine T.passX ?_ | refine T.inX (by decide) ?_)
            refine T.hereX ?_
            exact T.toh (hk ((s9, sr4), ()) (Eq.symm hn15)) ⟨fun _ _ h => h, fun _ _ h => h, fun _ _ h => h, fun _ _ h => h, fun _ _ h => h, fun _ _ h => h, trivial⟩ ⟨rfl, rfl, trivial⟩
      · replace hu8 := iteF hu8 hc
        refine T.exit ?_
        obtain rfl := Option.some.inj hu8
        repeat (first | refine T.passX ?_ | refine T.inX (by decide) ?_)
        refine T.hereX ?_
        exact T.toh (hk ((s7, sr3), z3) (Eq.symm hn8)) ⟨fun _ _ h => h, trivial⟩ ⟨rfl, trivial⟩

theorem c119 (w : World) (v0 v1 v2 : Value) {x0 : (List Int)} {x1 : (List (List Int))} {x2 : Bool} {r : (List Int)} (hF : spec_l06Sides x0 x1 x2 = some r) (hm : (boxR 45 Y42 x0 v0).holds (snapX (blkOf v0).toList w) w) (h1 : Y49.val (snapX (blkOf v0).toList w) v1 x1) (h2 : TB.val (snapX (blkOf v0).toList w) v2 x2) :
    Calls Try.prog 119 #[v0, v1, v2] w (RetM (blkOf v0).toList w SRel.any (boxR 45 Y42 r v0)) := by
  unfold spec_l06Sides at hF
  refine start (args := [v0, v1, v2]) Try.func119 rfl 41 rfl (blkOf v0).toList [(0, (SRel.eq v0)), (1, (Y49.sv x1)), (2, (TB.sv x2))] [(1, (boxR 45 Y42 x0 v0))] (sat_mut (r := (boxR 45 Y42 x0 v0)) 1 hm) rfl (args1 rfl rfl (args1 rfl h1 (args1 rfl h2 (args0)))) ?_
  refine T.seq ?_
  refine T.region mix 1 [6] [0] [(sp ((TI .i64).sv 0))] (by kernel_rfl) (AOK.cons (fun ρ a w hs hz hΓ hp => gp (d_assign (vI rfl))) AOK.nil rfl) (fun vs1 => ?_)
  refine T.nil ?_
  refine T.norm ?_
  obtain ⟨yl2, e3, hF⟩ := bindS hF
  refine T.joinD (ι := (Int × (List Int)) × (Unit)) (fun p => yl2 = p.1) (Γ' := fun p => E []) (H' := fun p => HL [(1, (boxR 45 Y42 p.1.2 v0))]) (fun p hy => ?_) (fun hk => ?_)
  · obtain ⟨⟨o6, or1⟩, _⟩ := p
    cases hy
    refine T.atEnd ?_
    obtain rfl := Option.some.inj hF
    refine T.finM fun ρ a w st => ?_
    exact ⟨_, results_no rfl, fun σ => trivial, mut_on st.sat 1 rfl (loose_boxR (flat_TArr (flat_TI _))) rfl⟩
  · skip
    refine T.block ?_
    refine T.loop (f := spec_l06Sides_l1 x1 x2) (σ := (Int × (List Int))) (Z := Unit) (fun s z => E [(0, (SRel.eq v0)), (1, (Y49.sv x1)), (2, (TB.sv x2)), (6, ((TI .i64).sv s.1))]) (fun s z => HL [(1, (boxR 45 Y42 s.2 v0))]) e3 () (fun φ h => T.toh h ⟨fun _ _ h => h, fun _ _ h => h, fun _ _ h => h, fun _ _ h => h, trivial⟩ ⟨rfl, trivial⟩) (fun k s z uu2 hu2 hn2 => ?_)
    obtain ⟨s6, sr1⟩ := s
    dsimp only [spec_l06Sides_l1] at hu2
    refine T.seq ?_
    refine T.seq ?_
    refine T.region mix 4 [9, 10, 11, 12] [0, 0, 2, 7] [(sp ((TI .i64).sv s6)), (sp (Y49.sv x1)), (sp ((TI .i64).sv (x1.length : Int))), (sp (TB.sv (decide (s6 < (x1.length : Int)))))] (by kernel_rfl) (AOK.cons (fun ρ a w hs hz hΓ hp => gp (d_move (hΓ 6 rfl))) (AOK.cons (fun ρ a w hs hz hΓ hp => gp (d_move (hΓ 1 rfl))) (AOK.cons (fun ρ a w hs hz hΓ hp => gp (d_lenR u49 (hp 1 _ rfl rfl).1)) (AOK.cons (fun ρ a w hs hz hΓ hp => gp (d_lss (hp 0 _ rfl rfl).1 (hp 2 _ rfl rfl).1)) AOK.nil rfl) rfl) rfl) rfl) (fun vs4 => ?_)
    refine T.nil ?_
    refine T.norm ?_
    refine T.cond (b := (decide (s6 < (x1.length : Int)))) (fun _ _ h => h) (fun hc => ?_) (fun hc => ?_)
    · replace hu2 := iteT hu2 hc
      refine T.skip ?_
      refine T.norm ?_
      refine T.seq ?_
      refine T.block ?_
      refine T.seq ?_
      obtain ⟨x17, e6, hu2⟩ := bindS hu2
      obtain ⟨_u24, e7, hu2⟩ := bindS hu2
      obtain ⟨x25, e8, hu2⟩ := bindS hu2
      obtain ⟨x27, e9, hu2⟩ := bindS hu2
      refine T.region mix 14 [15, 16, 17, 18, 19, 20, 21, 22, 23, 24, 25, 26, 27, 7] [0, 0, 3, 7, 0, 0, 32, 0, 128, 480, 1008, 2032, 4095, 8191] [(sp (Y49.sv x1)), (sp ((TI .i64).sv s6)), (sp ((TP Y24).sv x17)), (sp (Y24.sv x17)), (sp (Y49.sv x1)), (sp ((TI .i64).sv s6)), (sp ((TI .i64).sv (IntKind.i64.wrap (s6 + 1)))), (sp (Y49.sv x1)), (sp ((TI .i64).sv (x1.length : Int))), (sp ((TI .i64).sv (Int.tmod (IntKind.i64.wrap (s6 + 1)) (x1.length : Int)))), (sp ((TP Y24).sv x25)), (sp (Y24.sv x25)), (sp (Y49.sv x27)), (sp (Y49.sv x27))] (by kernel_rfl) (AOK.cons (fun ρ a w hs hz hΓ hp => gp (d_move (hΓ 1 rfl))) (AOK.cons (fun ρ a w hs hz hΓ hp => gp (d_move (hΓ 6 rfl))) (AOK.cons (fun ρ a w hs hz hΓ hp => gp (d_idxR u49 y32 (hp 0 _ rfl rfl).1 (hp 1 _ rfl rfl).1 e6)) (AOK.cons (fun ρ a w hs hz hΓ hp => gp (d_load y32 hs.le (hp 2 _ rfl rfl).1)) (AOK.cons (fun ρ a w hs hz hΓ hp => gp (d_move (hΓ 1 rfl))) (AOK.cons (fun ρ a w hs hz hΓ hp => gp (d_move (hΓ 6 rfl))) (AOK.cons (fun ρ a w hs hz hΓ hp => gp (d_add (hp 5 _ rfl rfl).1 (vI rfl))) (AOK.cons (fun ρ a w hs hz hΓ hp => gp (d_move (hΓ 1 rfl))) (AOK.cons (fun ρ a w hs hz hΓ hp => gp (d_lenR u49 (hp 7 _ rfl rfl).1)) (AOK.cons (fun ρ a w hs hz hΓ hp => gp (d_rem (hp 6 _ rfl rfl).1 (hp 8 _ rfl rfl).1 (of_decide_eq_true (need_get e7)))) (AOK.cons (fun ρ a w hs hz hΓ hp => gp (d_idxR u49 y32 (hp 4 _ rfl rfl).1 (hp 9 _ rfl rfl).1 e8)) (AOK.cons (fun ρ a w hs hz hΓ hp => gp (d_load y32 hs.le (hp 10 _ rfl rfl).1)) (AOK.cons (fun ρ a w hs hz hΓ hp => gp (d_callR fn144 hs.le mapA2 (c144 w _ _ hs.le e9 ((hp 3 _ rfl rfl).1) ((hp 11 _ rfl rfl).1)))) (AOK.cons (fun ρ a w hs hz hΓ hp => gp (d_assign (hp 12 _ rfl rfl).1)) AOK.nil rfl) rfl) rfl) rfl) rfl) rfl) rfl) rfl) rfl) rfl) rfl) rfl) rfl) rfl) (fun vs5 => ?_)
      refine T.nil ?_
      refine T.norm ?_
      refine T.seq ?_
      refine T.region mix 1 [8] [0] [(sp ((TI .i64).sv 0))] (by kernel_rfl) (AOK.cons (fun ρ a w hs hz hΓ hp => gp (d_assign (vI rfl))) AOK.nil rfl) (fun vs10 => ?_)
      refine T.nil ?_
      refine T.norm ?_
      obtain ⟨yl11, e12, hu2⟩ := bindS hu2
      refine T.joinD (ι := (Int × (List Int)) × (Unit)) (fun p => yl11 = p.1) (Γ' := fun p => E [(0, (SRel.eq v0)), (1, (Y49.sv x1)), (2, (TB.sv x2)), (6, ((TI .i64).sv s6))]) (H' := fun p => HL [(1, (boxR 45 Y42 p.1.2 v0))]) (fun p hy => ?_) (fun hk => ?_)
      · obtain ⟨⟨o8, or1_14⟩, _⟩ := p
        cases hy
        refine T.fallX ?_
        refine T.norm ?_
        refine T.region mix 3 [13, 14, 6] [0, 1, 3] [(sp ((TI .i64).sv s6)), (sp ((TI .i64).sv (IntKind.i64.wrap (s6 + 1)))), (sp ((TI .i64).sv (IntKind.i64.wrap (s6 + 1))))] (by kernel_rfl) (AOK.cons (fun ρ a w hs hz hΓ hp => gp (d_move (hΓ 6 rfl))) (AOK.cons (fun ρ a w hs hz hΓ hp => gp (d_add (hp 0 _ rfl rfl).1 (vI rfl))) (AOK.cons (fun ρ a w hs hz hΓ hp => gp (d_assign (hp 1 _ rfl rfl).1)) AOK.nil rfl) rfl) rfl) (fun vs15 => ?_)
        refine T.nil ?_
        obtain rfl := Option.some.inj hu2
        exact T.again hn2 () (fun φ h => T.toh h ⟨fun _ _ h => h, fun _ _ h => h, fun _ _ h => h, fun _ _ h => h, trivial⟩ ⟨rfl, trivial⟩)
      · skip
        refine T.block ?_
        refine T.loop (f := spec_l06Sides_l2 x2 x27) (σ := (Int × (List Int))) (Z := Unit) (fun s z => E [(0, (SRel.eq v0)), (1, (Y49.sv x1)), (2, (TB.sv x2)), (6, ((TI .i64).sv s6)), (7, (Y49.sv x27)), (8, ((TI .i64).sv s.1))]) (fun s z => HL [(1, (boxR 45 Y42 s.2 v0))]) e12 () (fun φ h => T.toh h ⟨fun _ _ h => h, fun _ _ h => h, fun _ _ h => h, fun _ _ h => h, fun _ _ h => h, fun _ _ h => h, trivial⟩ ⟨rfl, trivial⟩) (fun k s z uu11 hu11 hn11 => ?_)
        obtain ⟨s8, sr1_13⟩ := s
        dsimp only [spec_l06Sides_l2] at hu11
        refine T.seq ?_
        refine T.seq ?_
        refine T.region mix 4 [28, 29, 30, 31] [0, 0, 2, 7] [(sp ((TI .i64).sv s8)), (sp (Y49.sv x27)), (sp ((TI .i64).sv (x27.length : Int))), (sp (TB.sv (decide (s8 < (x27.length : Int)))))] (by kernel_rfl) (AOK.cons (fun ρ a w hs hz hΓ hp => gp (d_move (hΓ 8 rfl))) (AOK.cons (fun ρ a w hs hz hΓ hp => gp (d_move (hΓ 7 rfl))) (AOK.cons (fun ρ a w hs hz hΓ hp => gp (d_lenR u49 (hp 1 _ rfl rfl).1)) (AOK.cons (fun ρ a w hs hz hΓ hp => gp (d_lss (hp 0 _ rfl rfl).1 (hp 2 _ rfl rfl).1)) AOK.nil rfl) rfl) rfl) rfl) (fun vs16 => ?_)
        refine T.nil ?_
        refine T.norm ?_
        refine T.cond (b := (decide (s8 < (x27.length : Int)))) (fun _ _ h => h) (fun hc => ?_) (fun hc => ?_)
        · replace hu11 := iteT hu11 hc
          refine T.skip ?_
          refine T.norm ?_
          refine T.seq ?_
          refine T.block ?_
          obtain ⟨x37, e18, hu11⟩ := bindS hu11
          refine T.region mix 6 [34, 35, 36, 37, 38, 39] [0, 0, 0, 6, 14, 0, 63] [(sp (SRel.eq v0)), (sp (Y49.sv x27)), (sp ((TI .i64).sv s8)), (sp ((TP Y24).sv x37)), (sp (Y24.sv x37)), (sp (TB.sv x2))] (by kernel_rfl) (AOK.cons (fun ρ a w hs hz hΓ hp => gp (d_move (hΓ 0 rfl))) (AOK.cons (fun ρ a w hs hz hΓ hp => gp (d_move (hΓ 7 rfl))) (AOK.cons (fun ρ a w hs hz hΓ hp => gp (d_move (hΓ 8 rfl))) (AOK.cons (fun ρ a w hs hz hΓ hp => gp (d_idxR u49 y32 (hp 1 _ rfl rfl).1 (hp 2 _ rfl rfl).1 e18)) (AOK.cons (fun ρ a w hs hz hΓ hp => gp (d_load y32 hs.le (hp 3 _ rfl rfl).1)) (AOK.cons (fun ρ a w hs hz hΓ hp => gp (d_move (hΓ 2 rfl))) AOK.nil rfl) rfl) rfl) rfl) rfl) rfl) (fun vs17 => ?_)
          obtain ⟨x40, e19, hu11⟩ := bindS hu11
          refine T.callB (R := SRel.any) (r := (boxR 45 Y42 sr1_13 v0)) (r' := (boxR 45 Y42 x40 v0)) 1 fn118 rfl rfl (loose_boxR (flat_TArr (flat_TI _))) (loose_boxR (flat_TArr (flat_TI _))) rfl (fun ρ a w st hle hm => ?_) ?_
          · rw [mapA3]; exact call_at (r := boxR 45 Y42 x40) (st.env 34) (c118 w _ _ _  e19 (hm_at (r := boxR 45 Y42 sr1_13) (st.env 34) hm) (Ty.val_mono _ (le_at (st.env 34) hle) (st.env 38)) (Ty.val_mono _ (le_at (st.env 34) hle) (st.env 39)))
          refine T.nil ?_
          refine T.fallX ?_
          refine T.norm ?_
          refine T.region mix 3 [32, 33, 8] [0, 1, 3] [(sp ((TI .i64).sv s8)), (sp ((TI .i64).sv (IntKind.i64.wrap (s8 + 1)))), (sp ((TI .i64).sv (IntKind.i64.wrap (s8 + 1))))] (by kernel_rfl) (AOK.cons (fun ρ a w hs hz hΓ hp => gp (d_move (hΓ 8 rfl))) (AOK.cons (fun ρ a w hs hz hΓ hp => gp (d_add (hp 0 _ rfl rfl).1 (vI rfl))) (AOK.cons (fun ρ a w hs hz hΓ hp => gp (d_assign (hp 1 _ rfl rfl).1)) AOK.nil rfl) rfl) rfl) (fun vs20 => ?_)
          refine T.nil ?_
          obtain rfl := Option.some.inj hu11
          exact T.again hn11 () (fun φ h => T.toh h ⟨fun _ _ h => h, fun _ _ h => h, fun _ _ h => h, fun _ _ h => h, fun _ _ h => h, fun _ _ h => h, trivial⟩ ⟨rfl, trivial⟩)
        · replace hu11 := iteF hu11 hc
          refine T.exit ?_
          obtain rfl := Option.some.inj hu11
          repeat (first | refine T.passX ?_ | refine T.inX (by decide) ?_)
          refine T.hereX ?_
          exact T.toh (hk ((s8, sr1_13), ()) (Eq.symm hn11)) ⟨fun _ _ h => h, fun _ _ h => h, fun _ _ h => h, fun _ _ h => h, trivial⟩ ⟨rfl, trivial⟩
    · replace hu2 := iteF hu2 hc
      refine T.exit ?_
      obtain rfl := Option.some.inj hu2
      repeat (first | refine T.passX ?_ | refine T.inX (by decide) ?_)
      refine T.hereX ?_
      exact T.toh (hk ((s6, sr1), ()) (Eq.symm hn2)) trivial ⟨rfl, trivial⟩

theorem c71 (w : World) (v0 v1 v2 : Value) {x0 : (List Int)} {x1 : (List (List Int))} {x2 : Bool} {r : (List Int)} (hF : spec_l06Fill x0 x1 x2 = some r) (hm : (boxR 45 Y42 x0 v0).holds (snapX (blkOf v0).toList w) w) (h1 : Y49.val (snapX (blkOf v0).toList w) v1 x1) (h2 : TB.val (snapX (blkOf v0).toList w) v2 x2) :
    Calls Try.prog 71 #[v0, v1, v2] w (RetM (blkOf v0).toList w SRel.any (boxR 45 Y42 r v0)) := by
  unfold spec_l06Fill at hF
  refine start (args := [v0, v1, v2]) Try.func71 rfl 54 rfl (blkOf v0).toList [(0, (SRel.eq v0)), (1, (Y49.sv x1)), (2, (TB.sv x2))] [(1, (boxR 45 Y42 x0 v0))] (sat_mut (r := (boxR 45 Y42 x0 v0)) 1 hm) rfl (args1 rfl rfl (args1 rfl h1 (args1 rfl h2 (args0)))) ?_
  refine T.seq ?_
  refine T.seq ?_
  refine T.region mix 1 [6] [0] [(sp ((TI .i64).sv 0))] (by kernel_rfl) (AOK.cons (fun ρ a w hs hz hΓ hp => gp (d_assign (vI rfl))) AOK.nil rfl) (fun vs1 => ?_)
  refine T.nil ?_
  refine T.norm ?_
  obtain ⟨yl2, e3, hF⟩ := bindS hF
  refine T.joinD (ι := (Int × (List Int)) × (Unit)) (fun p => yl2 = p.1) (Γ' := fun p => E [(0, (SRel.eq v0)), (1, (Y49.sv x1)), (2, (TB.sv x2))]) (H' := fun p => HL [(1, (boxR 45 Y42 p.1.2 v0))]) (fun p hy => ?_) (fun hk => ?_)
  · obtain ⟨⟨o6, or1⟩, _⟩ := p
    cases hy
    refine T.norm ?_
    refine T.region mix 3 [50, 51, 52] [0, 0, 0, 7] [(sp (SRel.eq v0)), (sp (Y49.sv x1)), (sp (TB.sv x2))] (by kernel_rfl) (AOK.cons (fun ρ a w hs hz hΓ hp => gp (d_move (hΓ 0 rfl))) (AOK.cons (fun ρ a w hs hz hΓ hp => gp (d_move (hΓ 1 rfl))) (AOK.cons (fun ρ a w hs hz hΓ hp => gp (d_move (hΓ 2 rfl))) AOK.nil rfl) rfl) rfl) (fun vs4 => ?_)
    obtain ⟨x53, e5, hF⟩ := bindS hF
    refine T.callB (R := SRel.any) (r := (boxR 45 Y42 or1 v0)) (r' := (boxR 45 Y42 x53 v0)) 1 fn119 rfl rfl (loose_boxR (flat_TArr (flat_TI _))) (loose_boxR (flat_TArr (flat_TI _))) rfl (fun ρ a w st hle hm => ?_) ?_
    · rw [mapA3]; exact call_at (r := boxR 45 Y42 x53) (st.env 50) (c119 w _ _ _  e5 (hm_at (r := boxR 45 Y42 or1) (st.env 50) hm) (Ty.val_mono _ (le_at (st.env 50) hle) (st.env 51)) (Ty.val_mono _ (le_at (st.env 50) hle) (st.env 52)))
    refine T.nil ?_
    refine T.atEnd ?_
    obtain rfl := Option.some.inj hF
    refine T.finM fun ρ a w st => ?_
    exact ⟨_, results_no rfl, fun σ => trivial, mut_on st.sat 1 rfl (loose_boxR (flat_TArr (flat_TI _))) rfl⟩
  · skip
    refine T.block ?_
    refine T.loop (f := spec_l06Fill_l1 x1 x2) (σ := (Int × (List Int))) (Z := Unit) (fun s z => E [(0, (SRel.eq v0)), (1, (Y49.sv x1)), (2, (TB.sv x2)), (6, ((TI .i64).sv s.1))]) (fun s z => HL [(1, (boxR 45 Y42 s.2 v0))]) e3 () (fun φ h => T.toh h ⟨fun _ _ h => h, fun _ _ h => h, fun _ _ h => h, fun _ _ h => h, trivial⟩ ⟨rfl, trivial⟩) (fun k s z uu2 hu2 hn2 => ?_)
    obtain ⟨s6, sr1⟩ := s
    dsimp only [spec_l06Fill_l1] at hu2
    refine T.seq ?_
    refine T.seq ?_
    refine T.region mix 2 [10, 11] [0, 1] [(sp ((TI .i64).sv s6)), (sp (TB.sv (decide (s6 < 64))))] (by kernel_rfl) (AOK.cons (fun ρ a w hs hz hΓ hp => gp (d_move (hΓ 6 rfl))) (AOK.cons (fun ρ a w hs hz hΓ hp => gp (d_lss (hp 0 _ rfl rfl).1 (vI rfl))) AOK.nil rfl) rfl) (fun vs6 => ?_)
    refine T.nil ?_
    refine T.norm ?_
    refine T.cond (b := (decide (s6 < 64))) (fun _ _ h => h) (fun hc => ?_) (fun hc => ?_)
    · replace hu2 := iteT hu2 hc
      refine T.skip ?_
      refine T.norm ?_
      refine T.seq ?_
      refine T.block ?_
      refine T.seq ?_
      refine T.region mix 1 [7] [0] [(sp ((TI .i64).sv 0))] (by kernel_rfl) (AOK.cons (fun ρ a w hs hz hΓ hp => gp (d_assign (vI rfl))) AOK.nil rfl) (fun vs7 => ?_)
      refine T.nil ?_
      refine T.norm ?_
      obtain ⟨yl8, e9, hu2⟩ := bindS hu2
      refine T.joinD (ι := (Int × (List Int)) × (Unit)) (fun p => yl8 = p.1) (Γ' := fun p => E [(0, (SRel.eq v0)), (1, (Y49.sv x1)), (2, (TB.sv x2)), (6, ((TI .i64).sv s6))]) (H' := fun p => HL [(1, (boxR 45 Y42 p.1.2 v0))]) (fun p hy => ?_) (fun hk => ?_)
      · obtain ⟨⟨o7, or1_11⟩, _⟩ := p
        cases hy
        refine T.fallX ?_
        refine T.norm ?_
        refine T.region mix 3 [12, 13, 6] [0, 1, 3] [(sp ((TI .i64).sv s6)), (sp ((TI .i64).sv (IntKind.i64.wrap (s6 + 1)))), (sp ((TI .i64).sv (IntKind.i64.wrap (s6 + 1))))] (by kernel_rfl) (AOK.cons (fun ρ a w hs hz hΓ hp => gp (d_move (hΓ 6 rfl))) (AOK.cons (fun ρ a w hs hz hΓ hp => gp (d_add (hp 0 _ rfl rfl).1 (vI rfl))) (AOK.cons (fun ρ a w hs hz hΓ hp => gp (d_assign (hp 1 _ rfl rfl).1)) AOK.nil rfl) rfl) rfl) (fun vs12 => ?_)
        refine T.nil ?_
        obtain rfl := Option.some.inj hu2
        exact T.again hn2 () (fun φ h => T.toh h ⟨fun _ _ h => h, fun _ _ h => h, fun _ _ h => h, fun _ _ h => h, trivial⟩ ⟨rfl, trivial⟩)
      · skip
        refine T.block ?_
        refine T.loop (f := spec_l06Fill_l2 x1 x2 s6) (σ := (Int × (List Int))) (Z := Unit) (fun s z => E [(0, (SRel.eq v0)), (1, (Y49.sv x1)), (2, (TB.sv x2)), (6, ((TI .i64).sv s6)), (7, ((TI .i64).sv s.1))]) (fun s z => HL [(1, (boxR 45 Y42 s.2 v0))]) e9 () (fun φ h => T.toh h ⟨fun _ _ h => h, fun _ _ h => h, fun _ _ h => h, fun _ _ h => h, fun _ _ h => h, trivial⟩ ⟨rfl, trivial⟩) (fun k s z uu8 hu8 hn8 => ?_)
        obtain ⟨s7, sr1_10⟩ := s
        dsimp only [spec_l06Fill_l2] at hu8
        refine T.seq ?_
        refine T.seq ?_
        refine T.region mix 2 [14, 15] [0, 1] [(sp ((TI .i64).sv s7)), (sp (TB.sv (decide (s7 < 64))))] (by kernel_rfl) (AOK.cons (fun ρ a w hs hz hΓ hp => gp (d_move (hΓ 7 rfl))) (AOK.cons (fun ρ a w hs hz hΓ hp => gp (d_lss (hp 0 _ rfl rfl).1 (vI rfl))) AOK.nil rfl) rfl) (fun vs13 => ?_)
        refine T.nil ?_
        refine T.norm ?_
        refine T.cond (b := (decide (s7 < 64))) (fun _ _ h => h) (fun hc => ?_) (fun hc => ?_)
        · replace hu8 := iteT hu8 hc
          refine T.skip ?_
          refine T.norm ?_
          refine T.seq ?_
          refine T.block ?_
          refine T.seq ?_
          refine T.region mix 1 [8] [0] [(sp (TB.sv false))] (by kernel_rfl) (AOK.cons (fun ρ a w hs hz hΓ hp => gp (d_assign (vB _))) AOK.nil rfl) (fun vs14 => ?_)
          refine T.nil ?_
          refine T.norm ?_
          refine T.seq ?_
          refine T.seq ?_
          refine T.region mix 1 [9] [0] [(sp ((TI .i64).sv 0))] (by kernel_rfl) (AOK.cons (fun ρ a w hs hz hΓ hp => gp (d_assign (vI rfl))) AOK.nil rfl) (fun vs15 => ?_)
          refine T.nil ?_
          refine T.norm ?_
          obtain ⟨yl16, e17, hu8⟩ := bindS hu8
          refine T.joinD (ι := (Bool × Int) × (Unit)) (fun p => yl16 = p.1) (Γ' := fun p => E [(0, (SRel.eq v0)), (1, (Y49.sv x1)), (2, (TB.sv x2)), (6, ((TI .i64).sv s6)), (7, ((TI .i64).sv s7)), (8, (TB.sv p.1.1))]) (H' := fun p => HL [(1, (boxR 45 Y42 sr1_10 v0))]) (fun p hy => ?_) (fun hk => ?_)
          · obtain ⟨⟨o8, o9⟩, _⟩ := p
            cases hy
            refine T.norm ?_
            refine T.seq ?_
            refine T.region mix 1 [41] [0] [(sp (TB.sv o8))] (by kernel_rfl) (AOK.cons (fun ρ a w hs hz hΓ hp => gp (d_move (hΓ 8 rfl))) AOK.nil rfl) (fun vs18 => ?_)
            refine T.nil ?_
            refine T.norm ?_
            obtain ⟨r1, e19, hu8⟩ := bindS hu8
            refine T.joinS (Γ' := fun (z : Unit) => E [(0, (SRel.eq v0)), (1, (Y49.sv x1)), (2, (TB.sv x2)), (6, ((TI .i64).sv s6)), (7, ((TI .i64).sv s7))]) (H' := fun (z : Unit) => HL [(1, (boxR 45 Y42 r1 v0))]) (fun zz => ?_) (fun hk => ?_)
            · skip
              refine T.fallX ?_
              refine T.norm ?_
              refine T.region mix 3 [16, 17, 7] [0, 1, 3] [(sp ((TI .i64).sv s7)), (sp ((TI .i64).sv (IntKind.i64.wrap (s7 + 1)))), (sp ((TI .i64).sv (IntKind.i64.wrap (s7 + 1))))] (by kernel_rfl) (AOK.cons (fun ρ a w hs hz hΓ hp => gp (d_move (hΓ 7 rfl))) (AOK.cons (fun ρ a w hs hz hΓ hp => gp (d_add (hp 0 _ rfl rfl).1 (vI rfl))) (AOK.cons (fun ρ a w hs hz hΓ hp => gp (d_assign (hp 1 _ rfl rfl).1)) AOK.nil rfl) rfl) rfl) (fun vs20 => ?_)
              refine T.nil ?_
              obtain rfl := Option.some.inj hu8
              exact T.again hn8 () (fun φ h => T.toh h ⟨fun _ _ h => h, fun _ _ h => h, fun _ _ h => h, fun _ _ h => h, fun _ _ h => h, trivial⟩ ⟨rfl, trivial⟩)
            · refine T.cond (b := o8) (fun _ _ h => h) (fun hc => ?_) (fun hc => ?_)
              · replace e19 := iteT e19 hc
                refine T.region mix 7 [42, 43, 44, 45, 46, 47, 48] [0, 0, 2, 0, 8, 30, 0, 127] [(sp (SRel.eq v0)), (sp ((TI .i64).sv s7)), (sp ((TI .i16).sv (IntKind.i16.wrap s7))), (sp ((TI .i64).sv s6)), (sp ((TI .i16).sv (IntKind.i16.wrap s6))), (sp (Y24.sv ([(IntKind.i16.wrap s7), (IntKind.i16.wrap s6)] : (List Int)))), (sp (TB.sv x2))] (by kernel_rfl) (AOK.cons (fun ρ a w hs hz hΓ hp => gp (d_move (hΓ 0 rfl))) (AOK.cons (fun ρ a w hs hz hΓ hp => gp (d_move (hΓ 7 rfl))) (AOK.cons (fun ρ a w hs hz hΓ hp => gp (d_conv u2 u23 (hp 1 _ rfl rfl).1)) (AOK.cons (fun ρ a w hs hz hΓ hp => gp (d_move (hΓ 6 rfl))) (AOK.cons (fun ρ a w hs hz hΓ hp => gp (d_conv u2 u23 (hp 3 _ rfl rfl).1)) (AOK.cons (fun ρ a w hs hz hΓ hp => gp (d_buildA u32 y23 z32 zc32 (Fills.part rfl (hp 2 _ rfl rfl).1 (At.nth (At.refl _ _) 0 rfl) (Fills.part rfl (hp 4 _ rfl rfl).1 (At.nth (At.refl _ _) 1 rfl) (Fills.done _))))) (AOK.cons (fun ρ a w hs hz hΓ hp => gp (d_move (hΓ 2 rfl))) AOK.nil rfl) rfl) rfl) rfl) rfl) rfl) rfl) (fun vs21 => ?_)
                obtain ⟨x49, e22, e19⟩ := bindS e19
                refine T.callB (R := SRel.any) (r := (boxR 45 Y42 sr1_10 v0)) (r' := (boxR 45 Y42 x49 v0)) 1 fn118 rfl rfl (loose_boxR (flat_TArr (flat_TI _))) (loose_boxR (flat_TArr (flat_TI _))) rfl (fun ρ a w st hle hm => ?_) ?_
                · rw [mapA3]; exact call_at (r := boxR 45 Y42 x49) (st.env 42) (c118 w _ _ _  e22 (hm_at (r := boxR 45 Y42 sr1_10) (st.env 42) hm) (Ty.val_mono _ (le_at (st.env 42) hle) (st.env 47)) (Ty.val_mono _ (le_at (st.env 42) hle) (st.env 48)))
                refine T.nil ?_
                cases e19
                exact T.toh (hk ()) ⟨fun _ _ h => h, fun _ _ h => h, fun _ _ h => h, fun _ _ h => h, fun _ _ h => h, trivial⟩ ⟨rfl, trivial⟩
              · replace e19 := iteF e19 hc
                refine T.skip ?_
                cases e19
                exact T.toh (hk ()) ⟨fun _ _ h => h, fun _ _ h => h, fun _ _ h => h, fun _ _ h => h, fun _ _ h => h, trivial⟩ ⟨rfl, trivial⟩
          · skip
            refine T.block ?_
            refine T.loop (f := spec_l06Fill_l3 x1 s6 s7) (σ := (Bool × Int)) (Z := Unit) (fun s z => E [(0, (SRel.eq v0)), (1, (Y49.sv x1)), (2, (TB.sv x2)), (6, ((TI .i64).sv s6)), (7, ((TI .i64).sv s7)), (8, (TB.sv s.1)), (9, ((TI .i64).sv s.2))]) (fun s z => HL [(1, (boxR 45 Y42 sr1_10 v0))]) e17 () (fun φ h => T.toh h ⟨fun _ _ h => h, fun _ _ h => h, fun _ _ h => h, fun _ _ h => h, fun _ _ h => h, fun _ _ h => h, fun _ _ h => h, trivial⟩ ⟨rfl, trivial⟩) (fun k s z uu16 hu16 hn16 => ?_)
            obtain ⟨s8, s9⟩ := s
            dsimp only [spec_l06Fill_l3] at hu16
            refine T.seq ?_
            refine T.seq ?_
            refine T.region mix 4 [18, 19, 20, 21] [0, 0, 2, 7] [(sp ((TI .i64).sv s9)), (sp (Y49.sv x1)), (sp ((TI .i64).sv (x1.length : Int))), (sp (TB.sv (decide (s9 < (x1.length : Int)))))] (by kernel_rfl) (AOK.cons (fun ρ a w hs hz hΓ hp => gp (d_move (hΓ 9 rfl))) (AOK.cons (fun ρ a w hs hz hΓ hp => gp (d_move (hΓ 1 rfl))) (AOK.cons (fun ρ a w hs hz hΓ hp => gp (d_lenR u49 (hp 1 _ rfl rfl).1)) (AOK.cons (fun ρ a w hs hz hΓ hp => gp (d_lss (hp 0 _ rfl rfl).1 (hp 2 _ rfl rfl).1)) AOK.nil rfl) rfl) rfl) rfl) (fun vs23 => ?_)
            refine T.nil ?_
            refine T.norm ?_
            refine T.cond (b := (decide (s9 < (x1.length : Int)))) (fun _ _ h => h) (fun hc => ?_) (fun hc => ?_)
            · replace hu16 := iteT hu16 hc
              refine T.skip ?_
              refine T.norm ?_
              refine T.seq ?_
              refine T.block ?_
              refine T.seq ?_
              obtain ⟨x26, e25, hu16⟩ := bindS hu16
              obtain ⟨_u33, e26, hu16⟩ := bindS hu16
              obtain ⟨x34, e27, hu16⟩ := bindS hu16
              obtain ⟨x38, e28, hu16⟩ := bindS hu16
              refine T.region mix 15 [24, 25, 26, 27, 28, 29, 30, 31, 32, 33, 34, 35, 36, 37, 38] [0, 0, 3, 7, 0, 0, 32, 0, 128, 480, 1008, 2032, 0, 0, 16383] [(sp (Y49.sv x1)), (sp ((TI .i64).sv s9)), (sp ((TP Y24).sv x26)), (sp (Y24.sv x26)), (sp (Y49.sv x1)), (sp ((TI .i64).sv s9)), (sp ((TI .i64).sv (IntKind.i64.wrap (s9 + 1)))), (sp (Y49.sv x1)), (sp ((TI .i64).sv (x1.length : Int))), (sp ((TI .i64).sv (Int.tmod (IntKind.i64.wrap (s9 + 1)) (x1.length : Int)))), (sp ((TP Y24).sv x34)), (sp (Y24.sv x34)), (sp ((TI .i64).sv s7)), (sp ((TI .i64).sv s6)), (sp (TB.sv x38))] (by kernel_rfl) (AOK.cons (fun ρ a w hs hz hΓ hp => gp (d_move (hΓ 1 rfl))) (AOK.cons (fun ρ a w hs hz hΓ hp => gp (d_move (hΓ 9 rfl))) (AOK.cons (fun ρ a w hs hz hΓ hp => gp (d_idxR u49 y32 (hp 0 _ rfl rfl).1 (hp 1 _ rfl rfl).1 e25)) (AOK.cons (fun ρ a w hs hz hΓ hp => gp (d_load y32 hs.le (hp 2 _ rfl rfl).1)) (AOK.cons (fun ρ a w hs hz hΓ hp => gp (d_move (hΓ 1 rfl))) (AOK.cons (fun ρ a w hs hz hΓ hp => gp (d_move (hΓ 9 rfl))) (AOK.cons (fun ρ a w hs hz hΓ hp => gp (d_add (hp 5 _ rfl rfl).1 (vI rfl))) (AOK.cons (fun ρ a w hs hz hΓ hp => gp (d_move (hΓ 1 rfl))) (AOK.cons (fun ρ a w hs hz hΓ hp => gp (d_lenR u49 (hp 7 _ rfl rfl).1)) (AOK.cons (fun ρ a w hs hz hΓ hp => gp (d_rem (hp 6 _ rfl rfl).1 (hp 8 _ rfl rfl).1 (of_decide_eq_true (need_get e26)))) (AOK.cons (fun ρ a w hs hz hΓ hp => gp (d_idxR u49 y32 (hp 4 _ rfl rfl).1 (hp 9 _ rfl rfl).1 e27)) (AOK.cons (fun ρ a w hs hz hΓ hp => gp (d_load y32 hs.le (hp 10 _ rfl rfl).1)) (AOK.cons (fun ρ a w hs hz hΓ hp => gp (d_move (hΓ 7 rfl))) (AOK.cons (fun ρ a w hs hz hΓ hp => gp (d_move (hΓ 6 rfl))) (AOK.cons (fun ρ a w hs hz hΓ hp => gp (d_call fn117 hs.le mapA4 (c117 w _ _ _ _ hs.le e28 ((hp 3 _ rfl rfl).1) ((hp 11 _ rfl rfl).1) ((hp 12 _ rfl rfl).1) ((hp 13 _ rfl rfl).1)))) AOK.nil rfl) rfl) rfl) rfl) rfl) rfl) rfl) rfl) rfl) rfl) rfl) rfl) rfl) rfl) rfl) (fun vs24 => ?_)
              refine T.nil ?_
              refine T.norm ?_
              obtain ⟨y8, e29, hu16⟩ := bindS hu16
              refine T.joinS (Γ' := fun (z : Unit) => E [(0, (SRel.eq v0)), (1, (Y49.sv x1)), (2, (TB.sv x2)), (6, ((TI .i64).sv s6)), (7, ((TI .i64).sv s7)), (8, (TB.sv y8)), (9, ((TI .i64).sv s9))]) (H' := fun (z : Unit) => HL [(1, (boxR 45 Y42 sr1_10 v0))]) (fun zz => ?_) (fun hk => ?_)
              · skip
                refine T.fallX ?_
                refine T.norm ?_
                refine T.region mix 3 [22, 23, 9] [0, 1, 3] [(sp ((TI .i64).sv s9)), (sp ((TI .i64).sv (IntKind.i64.wrap (s9 + 1)))), (sp ((TI .i64).sv (IntKind.i64.wrap (s9 + 1))))] (by kernel_rfl) (AOK.cons (fun ρ a w hs hz hΓ hp => gp (d_move (hΓ 9 rfl))) (AOK.cons (fun ρ a w hs hz hΓ hp => gp (d_add (hp 0 _ rfl rfl).1 (vI rfl))) (AOK.cons (fun ρ a w hs hz hΓ hp => gp (d_assign (hp 1 _ rfl rfl).1)) AOK.nil rfl) rfl) rfl) (fun vs30 => ?_)
                refine T.nil ?_
                obtain rfl := Option.some.inj hu16
                exact T.again hn16 () (fun φ h => T.toh h ⟨fun _ _ h => h, fun _ _ h => h, fun _ _ h => h, fun _ _ h => h, fun _ _ h => h, fun _ _ h => h, fun _ _ h => h, trivial⟩ ⟨rfl, trivial⟩)
              · refine T.cond (b := x38) (fun _ _ h => h) (fun hc => ?_) (fun hc => ?_)
                · replace e29 := iteT e29 hc
                  refine T.region mix 3 [39, 40, 8] [0, 1, 3] [(sp (TB.sv s8)), (sp (TB.sv (!s8))), (sp (TB.sv (!s8)))] (by kernel_rfl) (AOK.cons (fun ρ a w hs hz hΓ hp => gp (d_move (hΓ 8 rfl))) (AOK.cons (fun ρ a w hs hz hΓ hp => gp (d_not (hp 0 _ rfl rfl).1)) (AOK.cons (fun ρ a w hs hz hΓ hp => gp (d_assign (hp 1 _ rfl rfl).1)) AOK.nil rfl) rfl) rfl) (fun vs31 => ?_)
                  refine T.nil ?_
                  cases e29
                  exact T.toh (hk ()) ⟨fun _ _ h => h, fun _ _ h => h, fun _ _ h => h, fun _ _ h => h, fun _ _ h => h, fun _ _ h => h, fun _ _ h => h, trivial⟩ ⟨rfl, trivial⟩
                · replace e29 := iteF e29 hc
                  refine T.skip ?_
                  cases e29
                  exact T.toh (hk ()) ⟨fun _ _ h => h, fun _ _ h => h, fun _ _ h => h, fun _ _ h => h, fun _ _ h => h, fun _ _ h => h, fun _ _ h => h, trivial⟩ ⟨rfl, trivial⟩
            · replace hu16 := iteF hu16 hc
              refine T.exit ?_
              obtain rfl := Option.some.inj hu16
              repeat (first | refine T.passX ?_ | refine T.inX (by decide) ?_)
              refine T.hereX ?_
              exact T.toh (hk ((s8, s9), ()) (Eq.symm hn16)) ⟨fun _ _ h => h, fun _ _ h => h, fun _ _ h => h, fun _ _ h => h, fun _ _ h => h, fun _ _ h => h, trivial⟩ ⟨rfl, trivial⟩
        · replace hu8 := iteF hu8 hc
          refine T.exit ?_
          obtain rfl := Option.some.inj hu8
          repeat (first | refine T.passX ?_ | refine T.inX (by decide) ?_)
          refine T.hereX ?_
          exact T.toh (hk ((s7, sr1_10), ()) (Eq.symm hn8)) ⟨fun _ _ h => h, fun _ _ h => h, fun _ _ h => h, fun _ _ h => h, trivial⟩ ⟨rfl, trivial⟩
    · replace hu2 := iteF hu2 hc
      refine T.exit ?_
      obtain rfl := Option.some.inj hu2
      repeat (first | refine T.passX ?_ | refine T.inX (by decide) ?_)
      refine T.hereX ?_
      exact T.toh (hk ((s6, sr1), ()) (Eq.symm hn2)) ⟨fun _ _ h => h, fun _ _ h => h, fun _ _ h => h, trivial⟩ ⟨rfl, trivial⟩

theorem c24 (w : World) (v0 v1 v2 : Value) {σ : Heap} (hσ : σ.le (snap w)) {x0 : (List Int)} {x1 : (List (List Int))} {x2 : Bool} {r : ((List Int) × Int)} (hF : spec_FillLoop x0 x1 x2 = some r) (h0 : Y42.val σ v0 x0) (h1 : Y49.val σ v1 x1) (h2 : TB.val σ v2 x2) :
    Calls Try.prog 24 #[v0, v1, v2] w (Ret [] w σ (SRel.tup2 (Y42.sv r.1) ((TI .i64).sv r.2)) []) := by
  unfold spec_FillLoop at hF
  refine start (args := [v0, v1, v2]) Try.func24 rfl 19 rfl [] [(0, (Y42.sv x0)), (1, (Y49.sv x1)), (2, (TB.sv x2))] [] (sat_start _ hσ) rfl (args1 rfl h0 (args1 rfl h1 (args1 rfl h2 (args0)))) ?_
  refine T.seq ?_
  refine T.region mix 3 [3, 6, 7] [0, 0, 0] [(sO SRel.any [(1, (boxR 45 Y42 x0))]), (sO SRel.any [(2, (boxR 45 Y42 (List.replicate 64 0)))]), (sp ((TI .i64).sv 0))] (by kernel_rfl) (AOK.cons (fun ρ a w hs hz hΓ hp => g_box hs.le (hΓ 0 rfl)) (AOK.cons (fun ρ a w hs hz hΓ hp => g_alloc hs.le z45 zc45) (AOK.cons (fun ρ a w hs hz hΓ hp => gp (d_assign (vI rfl))) AOK.nil rfl) rfl) rfl) (fun vs1 => ?_)
  refine T.nil ?_
  refine T.norm ?_
  refine T.seq ?_
  refine T.seq ?_
  obtain ⟨x10, e3, hF⟩ := bindS hF
  refine T.region mix 3 [9, 10, 8] [0, 1, 3] [(sp (Y49.sv x1)), (sp ((TI .i64).sv x10)), (sp ((TI .i64).sv x10))] (by kernel_rfl) (AOK.cons (fun ρ a w hs hz hΓ hp => gp (d_move (hΓ 1 rfl))) (AOK.cons (fun ρ a w hs hz hΓ hp => gp (d_call fn70 hs.le mapA2 (c70 w _ _ hs.le e3 ((hp 0 _ rfl rfl).1) (vI rfl)))) (AOK.cons (fun ρ a w hs hz hΓ hp => gp (d_assign (hp 1 _ rfl rfl).1)) AOK.nil rfl) rfl) rfl) (fun vs2 => ?_)
  refine T.nil ?_
  refine T.norm ?_
  refine T.seq ?_
  refine T.region mix 2 [11, 12] [0, 1] [(sp ((TI .i64).sv x10)), (sp (TB.sv (decide (x10 ≠ 0))))] (by kernel_rfl) (AOK.cons (fun ρ a w hs hz hΓ hp => gp (d_move (hΓ 8 rfl))) (AOK.cons (fun ρ a w hs hz hΓ hp => gp (d_neq (hp 0 _ rfl rfl).1 (vI rfl))) AOK.nil rfl) rfl) (fun vs4 => ?_)
  refine T.nil ?_
  refine T.norm ?_
  refine T.cond (b := (decide (x10 ≠ 0))) (fun _ _ h => h) (fun hc => ?_) (fun hc => ?_)
  · replace hF := iteT hF hc
    refine T.seq ?_
    refine T.region mix 2 [13, 14] [0, 0, 1, 7] [(sp (Y42.sv ((List.replicate 64 0) : (List Int)))), (sp ((TI .i64).sv x10))] (by kernel_rfl) (AOK.cons (fun ρ a w hs hz hΓ hp => gp (d_buildA u45 y41 z45 zc45 (Fills.done _))) (AOK.cons (fun ρ a w hs hz hΓ hp => gp (d_move (hΓ 8 rfl))) AOK.nil rfl) rfl) (fun vs5 => ?_)
    refine T.store 2 y45 rfl (fun ρ a w st => ⟨.inl ⟨(st.env 6).1, rfl⟩, (st.env 13)⟩) (At.refl Y42 (List.replicate 64 0)) ?_
    refine T.does (R := ((TI .i64).sv x10)) rfl (fun ρ a w st => have hs := st.sat; d_assign (st.env 14)) ?_
    refine T.nil ?_
    refine T.norm ?_
    refine T.ret ?_
    obtain rfl := Option.some.inj hF
    refine T.fin0 fun ρ a w st => ?_
    obtain ⟨q0, hr0, hv0⟩ := rv_cell y45 st.sat 2 rfl (st.env 6).1
    exact ⟨_, results_two rfl hr0 rfl, ⟨_, _, rfl, hv0, (st.env 7)⟩⟩
  · replace hF := iteF hF hc
    refine T.skip ?_
    refine T.norm ?_
    refine T.seq ?_
    refine T.region mix 2 [15, 16] [0, 0, 3] [(sp (Y49.sv x1)), (sp (TB.sv x2))] (by kernel_rfl) (AOK.cons (fun ρ a w hs hz hΓ hp => gp (d_move (hΓ 1 rfl))) (AOK.cons (fun ρ a w hs hz hΓ hp => gp (d_move (hΓ 2 rfl))) AOK.nil rfl) rfl) (fun vs6 => ?_)
    obtain ⟨x17, e7, hF⟩ := bindS hF
    refine T.callB (R := SRel.any) (r := (boxR 45 Y42 x0 (vs1 0))) (r' := (boxR 45 Y42 x17 (vs1 0))) 1 fn71 rfl rfl (loose_boxR (flat_TArr (flat_TI _))) (loose_boxR (flat_TArr (flat_TI _))) rfl (fun ρ a w st hle hm => ?_) ?_
    · rw [mapA3]; exact call_at (r := boxR 45 Y42 x17) (st.env 3).1 (c71 w _ _ _  e7 (hm_at (r := boxR 45 Y42 x0) (st.env 3).1 hm) (Ty.val_mono _ (le_at (st.env 3).1 hle) (st.env 15)) (Ty.val_mono _ (le_at (st.env 3).1 hle) (st.env 16)))
    refine T.nil ?_
    refine T.norm ?_
    refine T.seq ?_
    refine T.region mix 1 [18] [0, 1, 3] [(sp (Y42.sv x17))] (by kernel_rfl) (AOK.cons (fun ρ a w hs hz hΓ hp => gp (d_loadO y45 hs 1 rfl (.inl ⟨(hΓ 3 rfl).1, rfl⟩) (At.refl Y42 x17))) AOK.nil rfl) (fun vs8 => ?_)
    refine T.store 2 y45 rfl (fun ρ a w st => ⟨.inl ⟨(st.env 6).1, rfl⟩, (st.env 18)⟩) (At.refl Y42 (List.replicate 64 0)) ?_
    refine T.does (R := ((TI .i64).sv 0)) rfl (fun ρ a w st => have hs := st.sat; d_assign (vI rfl)) ?_
    refine T.nil ?_
    refine T.norm ?_
    refine T.ret ?_
    obtain rfl := Option.some.inj hF
    refine T.fin0 fun ρ a w st => ?_
    obtain ⟨q0, hr0, hv0⟩ := rv_cell y45 st.sat 2 rfl (st.env 6).1
    exact ⟨_, results_two rfl hr0 rfl, ⟨_, _, rfl, hv0, (st.env 7)⟩⟩

theorem c102 (w : World) (v0 : Value) {σ : Heap} (hσ : σ.le (snap w)) {x0 : (List (List Int))} {r : (List ((List Int) × (List Int) × Int))} (hF : impl_sidesOf x0 = some r) (h0 : Y49.val σ v0 x0) :
    Calls Try.prog 102 #[v0] w (Ret [] w σ SRel.any [slR 84 Y104 r]) := by
  unfold impl_sidesOf at hF
  refine start (args := [v0]) Try.func102 rfl 29 rfl [] [(0, (Y49.sv x0))] [] (sat_start _ hσ) rfl (args1 rfl h0 (args0)) ?_
  refine T.seq ?_
  refine T.region mix 1 [2] [0] [(sO SRel.any [(1, (slR 84 Y104 []))])] (by kernel_rfl) (AOK.cons (fun ρ a w hs hz hΓ hp => g_nilSl) AOK.nil rfl) (fun vs1 => ?_)
  refine T.nil ?_
  refine T.norm ?_
  refine T.seq ?_
  refine T.region mix 2 [6, 3] [0, 1] [(sO SRel.any [(2, (slR 84 Y104 ([] : List ((List Int) × (List Int) × Int))))]), (al 0 (id))] (by kernel_rfl) (AOK.cons (fun ρ a w hs hz hΓ hp => g_buildSl hs.le u30 y84 z84 (by decide) (by decide) zc84 (Fills.done _)) (AOK.cons (fun ρ a w hs hz hΓ hp => al_assign rfl) AOK.nil rfl) rfl) (fun vs2 => ?_)
  refine T.nil ?_
  refine T.norm ?_
  refine T.seq ?_
  refine T.seq ?_
  refine T.region mix 3 [7, 8, 9] [0, 1, 0] [(sp (Y49.sv x0)), (sp ((TI .i64).sv (x0.length : Int))), (sp ((TI .i64).sv 0))] (by kernel_rfl) (AOK.cons (fun ρ a w hs hz hΓ hp => gp (d_move (hΓ 0 rfl))) (AOK.cons (fun ρ a w hs hz hΓ hp => gp (d_lenR u49 (hp 0 _ rfl rfl).1)) (AOK.cons (fun ρ a w hs hz hΓ hp => gp (d_move (vI rfl))) AOK.nil rfl) rfl) rfl) (fun vs3 => ?_)
  refine T.nil ?_
  refine T.norm ?_
  obtain ⟨yl4, e5, hF⟩ := bindS hF
  refine T.joinD (ι := (Int × (List ((List Int) × (List Int) × Int))) × (Value)) (fun p => yl4 = p.1) (Γ' := fun p => E [(3, (SRel.eq p.2))]) (H' := fun p => HL [(2, (slR 84 Y104 p.1.2 p.2))]) (fun p hy => ?_) (fun hk => ?_)
  · obtain ⟨⟨o9, or2⟩, z2_6⟩ := p
    cases hy
    refine T.norm ?_
    refine T.seq ?_
    refine T.region mix 2 [28, 2] [0, 1] [(sp (SRel.eq z2_6)), (sp (SRel.eq z2_6))] (by kernel_rfl) (AOK.cons (fun ρ a w hs hz hΓ hp => gp (d_move (hΓ 3 rfl))) (AOK.cons (fun ρ a w hs hz hΓ hp => gp (d_assign (hp 0 _ rfl rfl).1)) AOK.nil rfl) rfl) (fun vs7 => ?_)
    refine T.nil ?_
    refine T.norm ?_
    refine T.ret ?_
    obtain rfl := Option.some.inj hF
    refine T.fin fun ρ a w st => ?_
    exact ⟨_, results_one rfl rfl, trivial, own1 (own_at (id := 2) (st.env 2) rfl), List.pairwise_singleton _ _⟩
  · skip
    refine T.block ?_
    refine T.loop (f := impl_sidesOf_l1 x0) (σ := (Int × (List ((List Int) × (List Int) × Int)))) (Z := Value) (fun s z => E [(0, (Y49.sv x0)), (3, (SRel.eq z)), (7, (Y49.sv x0)), (8, ((TI .i64).sv (x0.length : Int))), (9, ((TI .i64).sv s.1))]) (fun s z => HL [(2, (slR 84 Y104 s.2 z))]) e5 (vs2 0) (fun φ h => T.toh h ⟨fun _ _ h => h, fun _ _ h => h, fun _ _ h => h, fun _ _ h => h, fun _ _ h => h, trivial⟩ ⟨rfl, trivial⟩) (fun k s z uu4 hu4 hn4 => ?_)
    obtain ⟨s9, sr2⟩ := s
    obtain ⟨z2, rfl⟩ : ∃ q, q = z := ⟨_, rfl⟩
    dsimp only [impl_sidesOf_l1] at hu4
    refine T.seq ?_
    refine T.region mix 1 [10] [0] [(sp (TB.sv (decide (s9 < (x0.length : Int)))))] (by kernel_rfl) (AOK.cons (fun ρ a w hs hz hΓ hp => gp (d_lss (hΓ 9 rfl) (hΓ 8 rfl))) AOK.nil rfl) (fun vs8 => ?_)
    refine T.nil ?_
    refine T.norm ?_
    refine T.seq ?_
    refine T.cond (b := (decide (s9 < (x0.length : Int)))) (fun _ _ h => h) (fun hc => ?_) (fun hc => ?_)
    · replace hu4 := iteT hu4 hc
      refine T.skip ?_
      refine T.norm ?_
      refine T.seq ?_
      refine T.block ?_
      refine T.seq ?_
      obtain ⟨x12, e10, hu4⟩ := bindS hu4
      refine T.region mix 5 [11, 12, 13, 5, 4] [0, 0, 2, 0, 15, 31] [(sp ((TI .i64).sv s9)), (sp ((TP Y24).sv x12)), (sp (Y24.sv x12)), (sO SRel.any [(3, (boxR 32 Y24 (List.replicate 2 0)))]), (sp ((TI .i64).sv s9))] (by kernel_rfl) (AOK.cons (fun ρ a w hs hz hΓ hp => gp (d_move (hΓ 9 rfl))) (AOK.cons (fun ρ a w hs hz hΓ hp => gp (d_idxR u49 y32 (hΓ 7 rfl) (hΓ 9 rfl) e10)) (AOK.cons (fun ρ a w hs hz hΓ hp => gp (d_load y32 hs.le (hp 1 _ rfl rfl).1)) (AOK.cons (fun ρ a w hs hz hΓ hp => g_alloc hs.le z32 zc32) (AOK.cons (fun ρ a w hs hz hΓ hp => gp (d_assign (hp 0 _ rfl rfl).1)) AOK.nil rfl) rfl) rfl) rfl) rfl) (fun vs9 => ?_)
      refine T.store 3 y32 rfl (fun ρ a w st => ⟨.inl ⟨(st.env 5).1, rfl⟩, (st.env 13)⟩) (At.refl Y24 (List.replicate 2 0)) ?_
      refine T.nil ?_
      refine T.norm ?_
      obtain ⟨_u21, e12, hu4⟩ := bindS hu4
      obtain ⟨x22, e13, hu4⟩ := bindS hu4
      refine T.region mix 12 [14, 15, 16, 17, 18, 19, 20, 21, 22, 23, 24, 25] [0, 0, 0, 0, 8, 0, 32, 120, 252, 508, 1022, 2046, 4095, 8191] [(sp (SRel.eq z2)), (sp (Y24.sv x12)), (sp (Y49.sv x0)), (sp ((TI .i64).sv s9)), (sp ((TI .i64).sv (IntKind.i64.wrap (s9 + 1)))), (sp (Y49.sv x0)), (sp ((TI .i64).sv (x0.length : Int))), (sp ((TI .i64).sv (Int.tmod (IntKind.i64.wrap (s9 + 1)) (x0.length : Int)))), (sp ((TP Y24).sv x22)), (sp (Y24.sv x22)), (sp (Y104.sv (x12, x22, 0))), (sp (Y22.sv ([(x12, x22, 0)] : List ((List Int) × (List Int) × Int))))] (by kernel_rfl) (AOK.cons (fun ρ a w hs hz hΓ hp => gp (d_move (hΓ 3 rfl))) (AOK.cons (fun ρ a w hs hz hΓ hp => gp (d_loadO y32 hs 3 rfl (.inl ⟨(hΓ 5 rfl).1, rfl⟩) (At.refl Y24 x12))) (AOK.cons (fun ρ a w hs hz hΓ hp => gp (d_move (hΓ 0 rfl))) (AOK.cons (fun ρ a w hs hz hΓ hp => gp (d_move (hΓ 4 rfl))) (AOK.cons (fun ρ a w hs hz hΓ hp => gp (d_add (hp 3 _ rfl rfl).1 (vI rfl))) (AOK.cons (fun ρ a w hs hz hΓ hp => gp (d_move (hΓ 0 rfl))) (AOK.cons (fun ρ a w hs hz hΓ hp => gp (d_lenR u49 (hp 5 _ rfl rfl).1)) (AOK.cons (fun ρ a w hs hz hΓ hp => gp (d_rem (hp 4 _ rfl rfl).1 (hp 6 _ rfl rfl).1 (of_decide_eq_true (need_get e12)))) (AOK.cons (fun ρ a w hs hz hΓ hp => gp (d_idxR u49 y32 (hp 2 _ rfl rfl).1 (hp 7 _ rfl rfl).1 e13)) (AOK.cons (fun ρ a w hs hz hΓ hp => gp (d_load y32 hs.le (hp 8 _ rfl rfl).1)) (AOK.cons (fun ρ a w hs hz hΓ hp => gp (d_build rfl u84 z84 p84 zc84 (Fills.part rfl (hp 1 _ rfl rfl).1 (At.fst (At.refl _ _)) (Fills.part rfl (hp 9 _ rfl rfl).1 (At.fst (At.snd (At.refl _ _))) (Fills.done _))))) (AOK.cons (fun ρ a w hs hz hΓ hp => gp (d_buildSl hs.le u30 y84 z84 (by decide) (by decide) zc84 (Fills.part rfl (hp 10 _ rfl rfl).1 (At.nth (At.refl _ _) 0 rfl) (Fills.done _)))) AOK.nil rfl) rfl) rfl) rfl) rfl) rfl) rfl) rfl) rfl) rfl) rfl) rfl) (fun vs11 => ?_)
      obtain ⟨x26, e14, hu4⟩ := bindS hu4
      obtain ⟨e14l, rfl⟩ := app_get e14
      refine T.append 2 rfl u30 i84 rfl rfl (fun ρ a w st => ⟨(st.env 14), (cells_ro (by decide) st.sat.le (st.env 25))⟩) e14l (fun v26 => ?_)
      refine T.does (R := (SRel.eq v26)) rfl (fun ρ a w st => have hs := st.sat; d_assign (st.env 26)) ?_
      refine T.nil ?_
      refine T.fallX ?_
      refine T.norm ?_
      refine T.region mix 2 [27, 9] [0, 1] [(sp ((TI .i64).sv (IntKind.i64.wrap (s9 + 1)))), (sp ((TI .i64).sv (IntKind.i64.wrap (s9 + 1))))] (by kernel_rfl) (AOK.cons (fun ρ a w hs hz hΓ hp => gp (d_add (hΓ 9 rfl) (vI rfl))) (AOK.cons (fun ρ a w hs hz hΓ hp => gp (d_move (hp 0 _ rfl rfl).1)) AOK.nil rfl) rfl) (fun vs15 => ?_)
      refine T.nil ?_
      obtain rfl := Option.some.inj hu4
      exact T.again hn4 v26 (fun φ h => T.toh h ⟨fun _ _ h => h, fun _ _ h => h, fun _ _ h => h, fun _ _ h => h, fun _ _ h => h, trivial⟩ ⟨rfl, trivial⟩)
    · replace hu4 := iteF hu4 hc
      refine T.exit ?_
      obtain rfl := Option.some.inj hu4
      repeat (first | refine T.passX ?_ | refine T.inX (by decide) ?_)
      refine T.hereX ?_
      exact T.toh (hk ((s9, sr2), z2) (Eq.symm hn4)) ⟨fun _ _ h => h, trivial⟩ ⟨rfl, trivial⟩

theorem c103 (w : World) (v0 v1 : Value) {σ : Heap} (hσ : σ.le (snap w)) {x0 : ((List Int) × (List Int) × Int)} {x1 : Int} {r : Bool} (hF : impl_Stroke_crosses x0 x1 = some r) (h0 : Y104.val σ v0 x0) (h1 : (TI .i16).val σ v1 x1) :
    Calls Try.prog 103 #[v0, v1] w (Ret [] w σ (TB.sv r) []) := by
  unfold impl_Stroke_crosses at hF
  refine start (args := [v0, v1]) Try.func103 rfl 16 rfl [] [(0, (Y104.sv x0)), (1, ((TI .i16).sv x1))] [] (sat_start _ hσ) rfl (args1 rfl h0 (args1 rfl h1 (args0))) ?_
  refine T.seq ?_
  refine T.region mix 2 [2, 4] [0, 0] [(sp ((TP Y104).sv x0)), (sp (TB.sv false))] (by kernel_rfl) (AOK.cons (fun ρ a w hs hz hΓ hp => gp (d_box hs.le (hΓ 0 rfl))) (AOK.cons (fun ρ a w hs hz hΓ hp => gp (d_assign (vB _))) AOK.nil rfl) rfl) (fun vs1 => ?_)
  refine T.nil ?_
  refine T.norm ?_
  refine T.seq ?_
  refine T.region mix 12 [5, 6, 7, 8, 9, 10, 11, 12, 13, 14, 15, 4] [0, 1, 3, 0, 15, 0, 32, 96, 0, 480, 1023, 2047] [(sp ((TP Y24).sv x0.1)), (sp ((TP (TI .i16)).sv (nth x0.1 1))), (sp ((TI .i16).sv (nth x0.1 1))), (sp ((TI .i16).sv x1)), (sp (TB.sv (decide ((nth x0.1 1) ≤ x1)))), (sp ((TP Y24).sv x0.2.1)), (sp ((TP (TI .i16)).sv (nth x0.2.1 1))), (sp ((TI .i16).sv (nth x0.2.1 1))), (sp ((TI .i16).sv x1)), (sp (TB.sv (decide ((nth x0.2.1 1) ≤ x1)))), (sp (TB.sv ((decide ((nth x0.1 1) ≤ x1)) != (decide ((nth x0.2.1 1) ≤ x1))))), (sp (TB.sv ((decide ((nth x0.1 1) ≤ x1)) != (decide ((nth x0.2.1 1) ≤ x1)))))] (by kernel_rfl) (AOK.cons (fun ρ a w hs hz hΓ hp => gp (d_fieldP fa84_0 (hΓ 2 rfl) (At.fst (At.refl _ _)))) (AOK.cons (fun ρ a w hs hz hΓ hp => gp (d_idxPc .i64 1 u32 y23 (hp 0 _ rfl rfl).1 rfl)) (AOK.cons (fun ρ a w hs hz hΓ hp => gp (d_load y23 hs.le (hp 1 _ rfl rfl).1)) (AOK.cons (fun ρ a w hs hz hΓ hp => gp (d_move (hΓ 1 rfl))) (AOK.cons (fun ρ a w hs hz hΓ hp => gp (d_leq (hp 2 _ rfl rfl).1 (hp 3 _ rfl rfl).1)) (AOK.cons (fun ρ a w hs hz hΓ hp => gp (d_fieldP fa84_1 (hΓ 2 rfl) (At.fst (At.snd (At.refl _ _))))) (AOK.cons (fun ρ a w hs hz hΓ hp => gp (d_idxPc .i64 1 u32 y23 (hp 5 _ rfl rfl).1 rfl)) (AOK.cons (fun ρ a w hs hz hΓ hp => gp (d_load y23 hs.le (hp 6 _ rfl rfl).1)) (AOK.cons (fun ρ a w hs hz hΓ hp => gp (d_move (hΓ 1 rfl))) (AOK.cons (fun ρ a w hs hz hΓ hp => gp (d_leq (hp 7 _ rfl rfl).1 (hp 8 _ rfl rfl).1)) (AOK.cons (fun ρ a w hs hz hΓ hp => gp (d_neqB u4 (hp 4 _ rfl rfl).1 (hp 9 _ rfl rfl).1)) (AOK.cons (fun ρ a w hs hz hΓ hp => gp (d_assign (hp 10 _ rfl rfl).1)) AOK.nil rfl) rfl) rfl) rfl) rfl) rfl) rfl) rfl) rfl) rfl) rfl) rfl) (fun vs2 => ?_)
  refine T.nil ?_
  refine T.norm ?_
  refine T.ret ?_
  obtain rfl := Option.some.inj hF
  refine T.fin0 fun ρ a w st => ?_
  exact ⟨_, results_one rfl rfl, (st.env 4)⟩

theorem c145 (w : World) (v0 v1 v2 : Value) {σ : Heap} (hσ : σ.le (snap w)) {x0 : (List Int)} {x1 : (List Int)} {x2 : Int} {r : Int} (hF : impl_isIn_c1 x0 x1 x2 = some r) (h0 : Y24.val σ v0 x0) (h1 : Y24.val σ v1 x1) (h2 : (TI .i64).val σ v2 x2) :
    Calls Try.prog 145 #[v0, v1, v2] w (Ret [] w σ ((TI .i64).sv r) []) := by
  unfold impl_isIn_c1 at hF
  refine start (args := [v0, v1, v2]) Try.func145 rfl 16 rfl [] [(0, (Y24.sv x0)), (1, (Y24.sv x1)), (2, ((TI .i64).sv x2))] [] (sat_start _ hσ) rfl (args1 rfl h0 (args1 rfl h1 (args1 rfl h2 (args0)))) ?_
  refine T.seq ?_
  refine T.region mix 3 [3, 4, 6] [0, 0, 0] [(sp ((TP Y24).sv x0)), (sp ((TP Y24).sv x1)), (sp ((TI .i64).sv 0))] (by kernel_rfl) (AOK.cons (fun ρ a w hs hz hΓ hp => gp (d_box hs.le (hΓ 0 rfl))) (AOK.cons (fun ρ a w hs hz hΓ hp => gp (d_box hs.le (hΓ 1 rfl))) (AOK.cons (fun ρ a w hs hz hΓ hp => gp (d_assign (vI rfl))) AOK.nil rfl) rfl) rfl) (fun vs1 => ?_)
  refine T.nil ?_
  refine T.norm ?_
  refine T.seq ?_
  obtain ⟨x8, e3, hF⟩ := bindS hF
  obtain ⟨x12, e4, hF⟩ := bindS hF
  refine T.region mix 10 [7, 8, 9, 10, 11, 12, 13, 14, 15, 6] [0, 1, 3, 7, 0, 16, 48, 112, 255, 511] [(sp ((TI .i64).sv x2)), (sp ((TP (TI .i16)).sv x8)), (sp ((TI .i16).sv x8)), (sp ((TI .i64).sv x8)), (sp ((TI .i64).sv x2)), (sp ((TP (TI .i16)).sv x12)), (sp ((TI .i16).sv x12)), (sp ((TI .i64).sv x12)), (sp ((TI .i64).sv (IntKind.i64.wrap (x8 - x12)))), (sp ((TI .i64).sv (IntKind.i64.wrap (x8 - x12))))] (by kernel_rfl) (AOK.cons (fun ρ a w hs hz hΓ hp => gp (d_move (hΓ 2 rfl))) (AOK.cons (fun ρ a w hs hz hΓ hp => gp (d_idxP u32 y23 (hΓ 3 rfl) (hp 0 _ rfl rfl).1 e3)) (AOK.cons (fun ρ a w hs hz hΓ hp => gp (d_load y23 hs.le (hp 1 _ rfl rfl).1)) (AOK.cons (fun ρ a w hs hz hΓ hp => gp (d_widen u23 u2 rfl (hp 2 _ rfl rfl).1)) (AOK.cons (fun ρ a w hs hz hΓ hp => gp (d_move (hΓ 2 rfl))) (AOK.cons (fun ρ a w hs hz hΓ hp => gp (d_idxP u32 y23 (hΓ 4 rfl) (hp 4 _ rfl rfl).1 e4)) (AOK.cons (fun ρ a w hs hz hΓ hp => gp (d_load y23 hs.le (hp 5 _ rfl rfl).1)) (AOK.cons (fun ρ a w hs hz hΓ hp => gp (d_widen u23 u2 rfl (hp 6 _ rfl rfl).1)) (AOK.cons (fun ρ a w hs hz hΓ hp => gp (d_sub (hp 3 _ rfl rfl).1 (hp 7 _ rfl rfl).1)) (AOK.cons (fun ρ a w hs hz hΓ hp => gp (d_assign (hp 8 _ rfl rfl).1)) AOK.nil rfl) rfl) rfl) rfl) rfl) rfl) rfl) rfl) rfl) rfl) (fun vs2 => ?_)
  refine T.nil ?_
  refine T.norm ?_
  refine T.ret ?_
  obtain rfl := Option.some.inj hF
  refine T.fin0 fun ρ a w st => ?_
  exact ⟨_, results_one rfl rfl, (st.env 6)⟩

theorem c120 (w : World) (v0 v1 : Value) {σ : Heap} (hσ : σ.le (snap w)) {x0 : (List ((List Int) × (List Int) × Int))} {x1 : (List Int)} {r : Bool} (hF : impl_isIn x0 x1 = some r) (h0 : Y22.val σ v0 x0) (h1 : Y24.val σ v1 x1) :
    Calls Try.prog 120 #[v0, v1] w (Ret [] w σ (TB.sv r) []) := by
  unfold impl_isIn at hF
  refine start (args := [v0, v1]) Try.func120 rfl 74 rfl [] [(0, (Y22.sv x0)), (1, (Y24.sv x1))] [] (sat_start _ hσ) rfl (args1 rfl h0 (args1 rfl h1 (args0))) ?_
  refine T.seq ?_
  refine T.region mix 2 [3, 4] [0, 0] [(sp ((TP Y24).sv x1)), (sp (TB.sv false))] (by kernel_rfl) (AOK.cons (fun ρ a w hs hz hΓ hp => gp (d_box hs.le (hΓ 1 rfl))) (AOK.cons (fun ρ a w hs hz hΓ hp => gp (d_assign (vB _))) AOK.nil rfl) rfl) (fun vs1 => ?_)
  refine T.nil ?_
  refine T.norm ?_
  refine T.seq ?_
  refine T.region mix 1 [5] [0] [(sp (TB.sv false))] (by kernel_rfl) (AOK.cons (fun ρ a w hs hz hΓ hp => gp (d_assign (vB _))) AOK.nil rfl) (fun vs2 => ?_)
  refine T.nil ?_
  refine T.norm ?_
  refine T.seq ?_
  refine T.seq ?_
  refine T.region mix 3 [10, 11, 12] [0, 1, 0] [(sp (Y22.sv x0)), (sp ((TI .i64).sv (x0.length : Int))), (sp ((TI .i64).sv 0))] (by kernel_rfl) (AOK.cons (fun ρ a w hs hz hΓ hp => gp (d_move (hΓ 0 rfl))) (AOK.cons (fun ρ a w hs hz hΓ hp => gp (d_lenR u30 (hp 0 _ rfl rfl).1)) (AOK.cons (fun ρ a w hs hz hΓ hp => gp (d_move (vI rfl))) AOK.nil rfl) rfl) rfl) (fun vs3 => ?_)
  refine T.nil ?_
  refine T.norm ?_
  obtain ⟨yl4, e5, hF⟩ := bindS hF
  refine T.joinD (ι := (Bool × Int) × (Unit)) (fun p => yl4 = p.1) (Γ' := fun p => E [(5, (TB.sv p.1.1))]) (H' := fun p => HL []) (fun p hy => ?_) (fun hk => ?_)
  · obtain ⟨⟨o5, o12⟩, _⟩ := p
    cases hy
    refine T.norm ?_
    refine T.seq ?_
    refine T.region mix 2 [73, 4] [0, 1] [(sp (TB.sv o5)), (sp (TB.sv o5))] (by kernel_rfl) (AOK.cons (fun ρ a w hs hz hΓ hp => gp (d_move (hΓ 5 rfl))) (AOK.cons (fun ρ a w hs hz hΓ hp => gp (d_assign (hp 0 _ rfl rfl).1)) AOK.nil rfl) rfl) (fun vs6 => ?_)
    refine T.nil ?_
    refine T.norm ?_
    refine T.ret ?_
    obtain rfl := Option.some.inj hF
    refine T.fin0 fun ρ a w st => ?_
    exact ⟨_, results_one rfl rfl, (st.env 4)⟩
  · skip
    refine T.block ?_
    refine T.loop (f := impl_isIn_l1 x0 x1) (σ := (Bool × Int)) (Z := Unit) (fun s z => E [(3, ((TP Y24).sv x1)), (5, (TB.sv s.1)), (10, (Y22.sv x0)), (11, ((TI .i64).sv (x0.length : Int))), (12, ((TI .i64).sv s.2))]) (fun s z => HL []) e5 () (fun φ h => T.toh h ⟨fun _ _ h => h, fun _ _ h => h, fun _ _ h => h, fun _ _ h => h, fun _ _ h => h, trivial⟩ trivial) (fun k s z uu4 hu4 hn4 => ?_)
    obtain ⟨s5, s12⟩ := s
    dsimp only [impl_isIn_l1] at hu4
    refine T.seq ?_
    refine T.region mix 1 [13] [0] [(sp (TB.sv (decide (s12 < (x0.length : Int)))))] (by kernel_rfl) (AOK.cons (fun ρ a w hs hz hΓ hp => gp (d_lss (hΓ 12 rfl) (hΓ 11 rfl))) AOK.nil rfl) (fun vs7 => ?_)
    refine T.nil ?_
    refine T.norm ?_
    refine T.seq ?_
    refine T.cond (b := (decide (s12 < (x0.length : Int)))) (fun _ _ h => h) (fun hc => ?_) (fun hc => ?_)
    · replace hu4 := iteT hu4 hc
      refine T.skip ?_
      refine T.norm ?_
      refine T.seq ?_
      refine T.joinD (ι := Bool × (Unit)) (fun p => impl_isIn_k1 s12 p.1 = some uu4) (Γ' := fun p => E [(3, ((TP Y24).sv x1)), (5, (TB.sv p.1)), (10, (Y22.sv x0)), (11, ((TI .i64).sv (x0.length : Int))), (12, ((TI .i64).sv s12))]) (H' := fun p => HL []) (fun p hy => ?_) (fun hk8 => ?_)
      · obtain ⟨j5, _⟩ := p
        replace hu4 := hy
        dsimp only [impl_isIn_k1] at hu4
        refine T.norm ?_
        refine T.region mix 2 [72, 12] [0, 1] [(sp ((TI .i64).sv (IntKind.i64.wrap (s12 + 1)))), (sp ((TI .i64).sv (IntKind.i64.wrap (s12 + 1))))] (by kernel_rfl) (AOK.cons (fun ρ a w hs hz hΓ hp => gp (d_add (hΓ 12 rfl) (vI rfl))) (AOK.cons (fun ρ a w hs hz hΓ hp => gp (d_move (hp 0 _ rfl rfl).1)) AOK.nil rfl) rfl) (fun vs9 => ?_)
        refine T.nil ?_
        obtain rfl := Option.some.inj hu4
        exact T.again hn4 () (fun φ h => T.toh h ⟨fun _ _ h => h, fun _ _ h => h, fun _ _ h => h, fun _ _ h => h, fun _ _ h => h, trivial⟩ trivial)
      · skip
        refine T.block ?_
        refine T.seq ?_
        obtain ⟨x14, e11, hu4⟩ := bindS hu4
        refine T.region mix 3 [14, 15, 7] [0, 1, 0, 7] [(sp ((TP Y104).sv x14)), (sp (Y104.sv x14)), (sO SRel.any [(1, (boxR 84 Y104 ((List.replicate 2 0), (List.replicate 2 0), 0)))])] (by kernel_rfl) (AOK.cons (fun ρ a w hs hz hΓ hp => gp (d_idxR u30 y84 (hΓ 10 rfl) (hΓ 12 rfl) e11)) (AOK.cons (fun ρ a w hs hz hΓ hp => gp (d_load y84 hs.le (hp 0 _ rfl rfl).1)) (AOK.cons (fun ρ a w hs hz hΓ hp => g_alloc hs.le z84 zc84) AOK.nil rfl) rfl) rfl) (fun vs10 => ?_)
        refine T.store 1 y84 rfl (fun ρ a w st => ⟨.inl ⟨(st.env 7).1, rfl⟩, (st.env 15)⟩) (At.refl Y104 ((List.replicate 2 0), (List.replicate 2 0), 0)) ?_
        refine T.nil ?_
        refine T.norm ?_
        refine T.seq ?_
        refine T.seq ?_
        obtain ⟨x19, e13, hu4⟩ := bindS hu4
        refine T.region mix 5 [16, 17, 18, 19, 20] [0, 0, 2, 7, 15] [(sp (Y104.sv x14)), (sp ((TP (TI .i16)).sv (nth x1 1))), (sp ((TI .i16).sv (nth x1 1))), (sp (TB.sv x19)), (sp (TB.sv (!x19)))] (by kernel_rfl) (AOK.cons (fun ρ a w hs hz hΓ hp => gp (d_loadO y84 hs 1 rfl (.inl ⟨(hΓ 7 rfl).1, rfl⟩) (At.refl Y104 x14))) (AOK.cons (fun ρ a w hs hz hΓ hp => gp (d_idxPc .i64 1 u32 y23 (hΓ 3 rfl) rfl)) (AOK.cons (fun ρ a w hs hz hΓ hp => gp (d_load y23 hs.le (hp 1 _ rfl rfl).1)) (AOK.cons (fun ρ a w hs hz hΓ hp => gp (d_call fn103 hs.le mapA2 (c103 w _ _ hs.le e13 ((hp 0 _ rfl rfl).1) ((hp 2 _ rfl rfl).1)))) (AOK.cons (fun ρ a w hs hz hΓ hp => gp (d_not (hp 3 _ rfl rfl).1)) AOK.nil rfl) rfl) rfl) rfl) rfl) (fun vs12 => ?_)
        refine T.nil ?_
        refine T.norm ?_
        refine T.cond (b := (!x19)) (fun _ _ h => h) (fun hc => ?_) (fun hc => ?_)
        · replace hu4 := iteT hu4 hc
          refine T.exit ?_
          repeat (first | refine T.passX ?_ | refine T.inX (by decide) ?_)
          refine T.hereX ?_
          exact T.toh (hk8 (s5, ()) hu4) ⟨fun _ _ h => h, fun _ _ h => h, fun _ _ h => h, fun _ _ h => h, fun _ _ h => h, trivial⟩ trivial
        · replace hu4 := iteF hu4 hc
          refine T.skip ?_
          refine T.norm ?_
          refine T.seq ?_
          refine T.region mix 1 [8] [0] [(sp (fn3 Try.prog Y24 Y24 (TI .i64) (TI .i64) impl_isIn_c1))] (by kernel_rfl) (AOK.cons (fun ρ a w hs hz hΓ hp => gp (d_assign (fv3 fn145 (flat_TI _) (fun w σ u0 u1 u2 x0 x1 x2 y hσ h0 h1 h2 hf => c145 w _ _ _  hσ hf h0 h1 h2)))) AOK.nil rfl) (fun vs14 => ?_)
          refine T.nil ?_
          refine T.norm ?_
          refine T.seq ?_
          obtain ⟨x26, e16, hu4⟩ := bindS hu4
          obtain ⟨x31, e17, hu4⟩ := bindS hu4
          obtain ⟨x37, e18, hu4⟩ := bindS hu4
          obtain ⟨x43, e19, hu4⟩ := bindS hu4
          refine T.region mix 26 [21, 22, 23, 24, 25, 26, 27, 28, 29, 30, 31, 32, 33, 34, 35, 36, 37, 38, 39, 40, 41, 42, 43, 44, 45, 9] [0, 0, 2, 0, 8, 31, 0, 0, 0, 256, 1023, 2047, 0, 0, 0, 16384, 63487, 0, 0, 262144, 0, 1048576, 4192255, 8386559, 16777215, 33554431] [(sp (fn3 Try.prog Y24 Y24 (TI .i64) (TI .i64) impl_isIn_c1)), (sp (SRel.eq (at_ (vs10 2) (0 + 2)))), (sp (Y24.sv x14.2.1)), (sp (SRel.eq (at_ (vs10 2) (0 + 0)))), (sp (Y24.sv x14.1)), (sp ((TI .i64).sv x26)), (sp (fn3 Try.prog Y24 Y24 (TI .i64) (TI .i64) impl_isIn_c1)), (sp (Y24.sv x1)), (sp (SRel.eq (at_ (vs10 2) (0 + 0)))), (sp (Y24.sv x14.1)), (sp ((TI .i64).sv x31)), (sp ((TI .i64).sv (IntKind.i64.wrap (x26 * x31)))), (sp (fn3 Try.prog Y24 Y24 (TI .i64) (TI .i64) impl_isIn_c1)), (sp (Y24.sv x1)), (sp (SRel.eq (at_ (vs10 2) (0 + 0)))), (sp (Y24.sv x14.1)), (sp ((TI .i64).sv x37)), (sp (fn3 Try.prog Y24 Y24 (TI .i64) (TI .i64) impl_isIn_c1)), (sp (SRel.eq (at_ (vs10 2) (0 + 2)))), (sp (Y24.sv x14.2.1)), (sp (SRel.eq (at_ (vs10 2) (0 + 0)))), (sp (Y24.sv x14.1)), (sp ((TI .i64).sv x43)), (sp ((TI .i64).sv (IntKind.i64.wrap (x37 * x43)))), (sp ((TI .i64).sv (IntKind.i64.wrap ((IntKind.i64.wrap (x26 * x31)) - (IntKind.i64.wrap (x37 * x43)))))), (sp ((TI .i64).sv (IntKind.i64.wrap ((IntKind.i64.wrap (x26 * x31)) - (IntKind.i64.wrap (x37 * x43))))))] (by kernel_rfl) (AOK.cons (fun ρ a w hs hz hΓ hp => gp (d_move (hΓ 8 rfl))) (AOK.cons (fun ρ a w hs hz hΓ hp => gp (d_fieldO fa84_1 hs 1 rfl (.inl ⟨(hΓ 7 rfl).1, rfl⟩))) (AOK.cons (fun ρ a w hs hz hΓ hp => gp (d_loadO y32 hs 1 rfl (.inr (hp 1 _ rfl rfl).1) (At.fst (At.snd (At.refl Y104 x14))))) (AOK.cons (fun ρ a w hs hz hΓ hp => gp (d_fieldO fa84_0 hs 1 rfl (.inl ⟨(hΓ 7 rfl).1, rfl⟩))) (AOK.cons (fun ρ a w hs hz hΓ hp => gp (d_loadO y32 hs 1 rfl (.inr (hp 3 _ rfl rfl).1) (At.fst (At.refl Y104 x14)))) (AOK.cons (fun ρ a w hs hz hΓ hp => gp (d_callV3 hs.le (flat_TI _) ((hp 0 _ rfl rfl).1) ((hp 2 _ rfl rfl).1) ((hp 4 _ rfl rfl).1) (vI rfl) e16)) (AOK.cons (fun ρ a w hs hz hΓ hp => gp (d_move (hΓ 8 rfl))) (AOK.cons (fun ρ a w hs hz hΓ hp => gp (d_load y32 hs.le (hΓ 3 rfl))) (AOK.cons (fun ρ a w hs hz hΓ hp => gp (d_fieldO fa84_0 hs 1 rfl (.inl ⟨(hΓ 7 rfl).1, rfl⟩))) (AOK.cons (fun ρ a w hs hz hΓ hp => gp (d_loadO y32 hs 1 rfl (.inr (hp 8 _ rfl rfl).1) (At.fst (At.refl Y104 x14)))) (AOK.cons (fun ρ a w hs hz hΓ hp => gp (d_callV3 hs.le (flat_TI _) ((hp 6 _ rfl rfl).1) ((hp 7 _ rfl rfl).1) ((hp 9 _ rfl rfl).1) (vI rfl) e17)) (AOK.cons (fun ρ a w hs hz hΓ hp => gp (d_mul (hp 5 _ rfl rfl).1 (hp 10 _ rfl rfl).1)) (AOK.cons (fun ρ a w hs hz hΓ hp => gp (d_move (hΓ 8 rfl))) (AOK.cons (fun ρ a w hs hz hΓ hp => gp (d_load y32 hs.le (hΓ 3 rfl))) (AOK.cons (fun ρ a w hs hz hΓ hp => gp (d_fieldO fa84_0 hs 1 rfl (.inl ⟨(hΓ 7 rfl).1, rfl⟩))) (AOK.cons (fun ρ a w hs hz hΓ hp => gp (d_loadO y32 hs 1 rfl (.inr (hp 14 _ rfl rfl).1) (At.fst (At.refl Y104 x14)))) (AOK.cons (fun ρ a w hs hz hΓ hp => gp (d_callV3 hs.le (flat_TI _) ((hp 12 _ rfl rfl).1) ((hp 13 _ rfl rfl).1) ((hp 15 _ rfl rfl).1) (vI rfl) e18)) (AOK.cons (fun ρ a w hs hz hΓ hp => gp (d_move (hΓ 8 rfl))) (AOK.cons (fun ρ a w hs hz hΓ hp => gp (d_fieldO fa84_1 hs 1 rfl (.inl ⟨(hΓ 7 rfl).1, rfl⟩))) (AOK.cons (fun ρ a w hs hz hΓ hp => gp (d_loadO y32 hs 1 rfl (.inr (hp 18 _ rfl rfl).1) (At.fst (At.snd (At.refl Y104 x14))))) (AOK.cons (fun ρ a w hs hz hΓ hp => gp (d_fieldO fa84_0 hs 1 rfl (.inl ⟨(hΓ 7 rfl).1, rfl⟩))) (AOK.cons (fun ρ a w hs hz hΓ hp => gp (d_loadO y32 hs 1 rfl (.inr (hp 20 _ rfl rfl).1) (At.fst (At.refl Y104 x14)))) (AOK.cons (fun ρ a w hs hz hΓ hp => gp (d_callV3 hs.le (flat_TI _) ((hp 17 _ rfl rfl).1) ((hp 19 _ rfl rfl).1) ((hp 21 _ rfl rfl).1) (vI rfl) e19)) (AOK.cons (fun ρ a w hs hz hΓ hp => gp (d_mul (hp 16 _ rfl rfl).1 (hp 22 _ rfl rfl).1)) (AOK.cons (fun ρ a w hs hz hΓ hp => gp (d_sub (hp 11 _ rfl rfl).1 (hp 23 _ rfl rfl).1)) (AOK.cons (fun ρ a w hs hz hΓ hp => gp (d_assign (hp 24 _ rfl rfl).1)) AOK.nil rfl) rfl) rfl) rfl) rfl) rfl) rfl) rfl) rfl) rfl) rfl) rfl) rfl) rfl) rfl) rfl) rfl) rfl) rfl) rfl) rfl) rfl) rfl) rfl) rfl) rfl) (fun vs15 => ?_)
          refine T.nil ?_
          refine T.norm ?_
          refine T.seq ?_
          refine T.region mix 24 [46, 47, 48, 49, 50, 51, 52, 53, 54, 55, 56, 57, 58, 59, 60, 61, 62, 63, 64, 65, 66, 67, 68, 69] [0, 1, 3, 7, 15, 31, 7, 71, 199, 511, 1023, 2047, 4095, 8191, 16383, 32767, 65535, 131071, 32767, 294911, 819199, 2097151, 4194303, 8388607] [(sp ((TI .i64).sv (IntKind.i64.wrap ((IntKind.i64.wrap (x26 * x31)) - (IntKind.i64.wrap (x37 * x43)))))), (sp (TB.sv (decide (0 < (IntKind.i64.wrap ((IntKind.i64.wrap (x26 * x31)) - (IntKind.i64.wrap (x37 * x43)))))))), (sp (TB.sv (decide (0 < (IntKind.i64.wrap ((IntKind.i64.wrap (x26 * x31)) - (IntKind.i64.wrap (x37 * x43)))))))), (sp (SRel.when ((decide (0 < (IntKind.i64.wrap ((IntKind.i64.wrap (x26 * x31)) - (IntKind.i64.wrap (x37 * x43)))))) = true) (SRel.eq (at_ (vs10 2) (0 + 2))))), (sp (SRel.when ((decide (0 < (IntKind.i64.wrap ((IntKind.i64.wrap (x26 * x31)) - (IntKind.i64.wrap (x37 * x43)))))) = true) (SRel.eq (at_ (vs10 2) (0 + 2 + 1 * (TI .i16).n))))), (sp (SRel.when ((decide (0 < (IntKind.i64.wrap ((IntKind.i64.wrap (x26 * x31)) - (IntKind.i64.wrap (x37 * x43)))))) = true) ((TI .i16).sv (nth x14.2.1 1)))), (sp (SRel.when ((decide (0 < (IntKind.i64.wrap ((IntKind.i64.wrap (x26 * x31)) - (IntKind.i64.wrap (x37 * x43)))))) = true) (SRel.eq (at_ (vs10 2) (0 + 0))))), (sp (SRel.when ((decide (0 < (IntKind.i64.wrap ((IntKind.i64.wrap (x26 * x31)) - (IntKind.i64.wrap (x37 * x43)))))) = true) (SRel.eq (at_ (vs10 2) (0 + 0 + 1 * (TI .i16).n))))), (sp (SRel.when ((decide (0 < (IntKind.i64.wrap ((IntKind.i64.wrap (x26 * x31)) - (IntKind.i64.wrap (x37 * x43)))))) = true) ((TI .i16).sv (nth x14.1 1)))), (sp (SRel.when ((decide (0 < (IntKind.i64.wrap ((IntKind.i64.wrap (x26 * x31)) - (IntKind.i64.wrap (x37 * x43)))))) = true) (TB.sv (decide ((nth x14.1 1) < (nth x14.2.1 1)))))), (sp (TB.sv ((decide (0 < (IntKind.i64.wrap ((IntKind.i64.wrap (x26 * x31)) - (IntKind.i64.wrap (x37 * x43)))))) && (decide ((nth x14.1 1) < (nth x14.2.1 1)))))), (sp (TB.sv ((decide (0 < (IntKind.i64.wrap ((IntKind.i64.wrap (x26 * x31)) - (IntKind.i64.wrap (x37 * x43)))))) && (decide ((nth x14.1 1) < (nth x14.2.1 1)))))), (sp (SRel.opt (((decide (0 < (IntKind.i64.wrap ((IntKind.i64.wrap (x26 * x31)) - (IntKind.i64.wrap (x37 * x43)))))) && (decide ((nth x14.1 1) < (nth x14.2.1 1)))) = false) ((TI .i64).sv (IntKind.i64.wrap ((IntKind.i64.wrap (x26 * x31)) - (IntKind.i64.wrap (x37 * x43))))))), (sp (SRel.opt (((decide (0 < (IntKind.i64.wrap ((IntKind.i64.wrap (x26 * x31)) - (IntKind.i64.wrap (x37 * x43)))))) && (decide ((nth x14.1 1) < (nth x14.2.1 1)))) = false) (TB.sv (decide ((IntKind.i64.wrap ((IntKind.i64.wrap (x26 * x31)) - (IntKind.i64.wrap (x37 * x43)))) < 0))))), (sp (SRel.opt (((decide (0 < (IntKind.i64.wrap ((IntKind.i64.wrap (x26 * x31)) - (IntKind.i64.wrap (x37 * x43)))))) && (decide ((nth x14.1 1) < (nth x14.2.1 1)))) = false) (TB.sv (decide ((IntKind.i64.wrap ((IntKind.i64.wrap (x26 * x31)) - (IntKind.i64.wrap (x37 * x43)))) < 0))))), (sp (SRel.opt ((((decide (0 < (IntKind.i64.wrap ((IntKind.i64.wrap (x26 * x31)) - (IntKind.i64.wrap (x37 * x43)))))) && (decide ((nth x14.1 1) < (nth x14.2.1 1)))) = false ∧ (decide ((IntKind.i64.wrap ((IntKind.i64.wrap (x26 * x31)) - (IntKind.i64.wrap (x37 * x43)))) < 0)) = true)) (SRel.eq (at_ (vs10 2) (0 + 2))))), (sp (SRel.opt ((((decide (0 < (IntKind.i64.wrap ((IntKind.i64.wrap (x26 * x31)) - (IntKind.i64.wrap (x37 * x43)))))) && (decide ((nth x14.1 1) < (nth x14.2.1 1)))) = false ∧ (decide ((IntKind.i64.wrap ((IntKind.i64.wrap (x26 * x31)) - (IntKind.i64.wrap (x37 * x43)))) < 0)) = true)) (SRel.eq (at_ (vs10 2) (0 + 2 + 1 * (TI .i16).n))))), (sp (SRel.opt ((((decide (0 < (IntKind.i64.wrap ((IntKind.i64.wrap (x26 * x31)) - (IntKind.i64.wrap (x37 * x43)))))) && (decide ((nth x14.1 1) < (nth x14.2.1 1)))) = false ∧ (decide ((IntKind.i64.wrap ((IntKind.i64.wrap (x26 * x31)) - (IntKind.i64.wrap (x37 * x43)))) < 0)) = true)) ((TI .i16).sv (nth x14.2.1 1)))), (sp (SRel.opt ((((decide (0 < (IntKind.i64.wrap ((IntKind.i64.wrap (x26 * x31)) - (IntKind.i64.wrap (x37 * x43)))))) && (decide ((nth x14.1 1) < (nth x14.2.1 1)))) = false ∧ (decide ((IntKind.i64.wrap ((IntKind.i64.wrap (x26 * x31)) - (IntKind.i64.wrap (x37 * x43)))) < 0)) = true)) (SRel.eq (at_ (vs10 2) (0 + 0))))), (sp (SRel.opt ((((decide (0 < (IntKind.i64.wrap ((IntKind.i64.wrap (x26 * x31)) - (IntKind.i64.wrap (x37 * x43)))))) && (decide ((nth x14.1 1) < (nth x14.2.1 1)))) = false ∧ (decide ((IntKind.i64.wrap ((IntKind.i64.wrap (x26 * x31)) - (IntKind.i64.wrap (x37 * x43)))) < 0)) = true)) (SRel.eq (at_ (vs10 2) (0 + 0 + 1 * (TI .i16).n))))), (sp (SRel.opt ((((decide (0 < (IntKind.i64.wrap ((IntKind.i64.wrap (x26 * x31)) - (IntKind.i64.wrap (x37 * x43)))))) && (decide ((nth x14.1 1) < (nth x14.2.1 1)))) = false ∧ (decide ((IntKind.i64.wrap ((IntKind.i64.wrap (x26 * x31)) - (IntKind.i64.wrap (x37 * x43)))) < 0)) = true)) ((TI .i16).sv (nth x14.1 1)))), (sp (SRel.opt ((((decide (0 < (IntKind.i64.wrap ((IntKind.i64.wrap (x26 * x31)) - (IntKind.i64.wrap (x37 * x43)))))) && (decide ((nth x14.1 1) < (nth x14.2.1 1)))) = false ∧ (decide ((IntKind.i64.wrap ((IntKind.i64.wrap (x26 * x31)) - (IntKind.i64.wrap (x37 * x43)))) < 0)) = true)) (TB.sv (decide ((nth x14.2.1 1) < (nth x14.1 1)))))), (sp (SRel.opt (((decide (0 < (IntKind.i64.wrap ((IntKind.i64.wrap (x26 * x31)) - (IntKind.i64.wrap (x37 * x43)))))) && (decide ((nth x14.1 1) < (nth x14.2.1 1)))) = false) (TB.sv ((decide ((IntKind.i64.wrap ((IntKind.i64.wrap (x26 * x31)) - (IntKind.i64.wrap (x37 * x43)))) < 0)) && (decide ((nth x14.2.1 1) < (nth x14.1 1))))))), (sp (TB.sv (((decide (0 < (IntKind.i64.wrap ((IntKind.i64.wrap (x26 * x31)) - (IntKind.i64.wrap (x37 * x43)))))) && (decide ((nth x14.1 1) < (nth x14.2.1 1)))) || ((decide ((IntKind.i64.wrap ((IntKind.i64.wrap (x26 * x31)) - (IntKind.i64.wrap (x37 * x43)))) < 0)) && (decide ((nth x14.2.1 1) < (nth x14.1 1)))))))] (by kernel_rfl) (AOK.cons (fun ρ a w hs hz hΓ hp => gp (d_move (hΓ 9 rfl))) (AOK.cons (fun ρ a w hs hz hΓ hp => gp (d_gtr (hp 0 _ rfl rfl).1 (vI rfl))) (AOK.cons (fun ρ a w hs hz hΓ hp => gp (d_move (hp 1 _ rfl rfl).1)) (AOK.cons (fun ρ a w hs hz hΓ hp => gg (g := 2) (d := 48) hz rfl (hp 2 _ rfl rfl).1 rfl (fun hc => d_fieldO fa84_1 hs 1 rfl (.inl ⟨(hΓ 7 rfl).1, rfl⟩))) (AOK.cons (fun ρ a w hs hz hΓ hp => gg (g := 2) (d := 48) hz rfl (hp 2 _ rfl rfl).1 rfl (fun hc => d_idxOc .i64 1 u32 y23 hs 1 rfl (.inr ((hp 3 _ rfl rfl).1 hc)) (At.fst (At.snd (At.refl Y104 x14))) rfl)) (AOK.cons (fun ρ a w hs hz hΓ hp => gg (g := 2) (d := 48) hz rfl (hp 2 _ rfl rfl).1 rfl (fun hc => d_loadO y23 hs 1 rfl (.inr ((hp 4 _ rfl rfl).1 hc)) (At.nth (At.fst (At.snd (At.refl Y104 x14))) 1 rfl))) (AOK.cons (fun ρ a w hs hz hΓ hp => gg (g := 2) (d := 48) hz rfl (hp 2 _ rfl rfl).1 rfl (fun hc => d_fieldO fa84_0 hs 1 rfl (.inl ⟨(hΓ 7 rfl).1, rfl⟩))) (AOK.cons (fun ρ a w hs hz hΓ hp => gg (g := 2) (d := 48) hz rfl (hp 2 _ rfl rfl).1 rfl (fun hc => d_idxOc .i64 1 u32 y23 hs 1 rfl (.inr ((hp 6 _ rfl rfl).1 hc)) (At.fst (At.refl Y104 x14)) rfl)) (AOK.cons (fun ρ a w hs hz hΓ hp => gg (g := 2) (d := 48) hz rfl (hp 2 _ rfl rfl).1 rfl (fun hc => d_loadO y23 hs 1 rfl (.inr ((hp 7 _ rfl rfl).1 hc)) (At.nth (At.fst (At.refl Y104 x14)) 1 rfl))) (AOK.cons (fun ρ a w hs hz hΓ hp => gg (g := 2) (d := 48) hz rfl (hp 2 _ rfl rfl).1 rfl (fun hc => d_gtr ((hp 5 _ rfl rfl).1 hc) ((hp 8 _ rfl rfl).1 hc))) (AOK.cons (fun ρ a w hs hz hΓ hp => gp (d_pick (hp 2 _ rfl rfl).1 (fun hc => pA hc ((hp 9 _ rfl rfl).1 hc)) (fun hc => pAN hc))) (AOK.cons (fun ρ a w hs hz hΓ hp => gp (d_move (hp 10 _ rfl rfl).1)) (AOK.cons (fun ρ a w hs hz hΓ hp => gg1 (g := 11) (d := 57) hz rfl (hp 11 _ rfl rfl).1 rfl (fun hc => d_move (hΓ 9 rfl))) (AOK.cons (fun ρ a w hs hz hΓ hp => gg1 (g := 11) (d := 57) hz rfl (hp 11 _ rfl rfl).1 rfl (fun hc => d_lss ((hp 12 _ rfl rfl).1.1 hc) (vI rfl))) (AOK.cons (fun ρ a w hs hz hΓ hp => gg1 (g := 11) (d := 57) hz rfl (hp 11 _ rfl rfl).1 rfl (fun hc => d_move ((hp 13 _ rfl rfl).1.1 hc))) (AOK.cons (fun ρ a w hs hz hΓ hp => gn (g := 14) (d := 60) hz rfl (hp 14 _ rfl rfl).1 rfl (fun hc => d_fieldO fa84_1 hs 1 rfl (.inl ⟨(hΓ 7 rfl).1, rfl⟩))) (AOK.cons (fun ρ a w hs hz hΓ hp => gn (g := 14) (d := 60) hz rfl (hp 14 _ rfl rfl).1 rfl (fun hc => d_idxOc .i64 1 u32 y23 hs 1 rfl (.inr ((hp 15 _ rfl rfl).1.1 hc)) (At.fst (At.snd (At.refl Y104 x14))) rfl)) (AOK.cons (fun ρ a w hs hz hΓ hp => gn (g := 14) (d := 60) hz rfl (hp 14 _ rfl rfl).1 rfl (fun hc => d_loadO y23 hs 1 rfl (.inr ((hp 16 _ rfl rfl).1.1 hc)) (At.nth (At.fst (At.snd (At.refl Y104 x14))) 1 rfl))) (AOK.cons (fun ρ a w hs hz hΓ hp => gn (g := 14) (d := 60) hz rfl (hp 14 _ rfl rfl).1 rfl (fun hc => d_fieldO fa84_0 hs 1 rfl (.inl ⟨(hΓ 7 rfl).1, rfl⟩))) (AOK.cons (fun ρ a w hs hz hΓ hp => gn (g := 14) (d := 60) hz rfl (hp 14 _ rfl rfl).1 rfl (fun hc => d_idxOc .i64 1 u32 y23 hs 1 rfl (.inr ((hp 18 _ rfl rfl).1.1 hc)) (At.fst (At.refl Y104 x14)) rfl)) (AOK.cons (fun ρ a w hs hz hΓ hp => gn (g := 14) (d := 60) hz rfl (hp 14 _ rfl rfl).1 rfl (fun hc => d_loadO y23 hs 1 rfl (.inr ((hp 19 _ rfl rfl).1.1 hc)) (At.nth (At.fst (At.refl Y104 x14)) 1 rfl))) (AOK.cons (fun ρ a w hs hz hΓ hp => gn (g := 14) (d := 60) hz rfl (hp 14 _ rfl rfl).1 rfl (fun hc => d_lss ((hp 17 _ rfl rfl).1.1 hc) ((hp 20 _ rfl rfl).1.1 hc))) (AOK.cons (fun ρ a w hs hz hΓ hp => gg1 (g := 11) (d := 57) hz rfl (hp 11 _ rfl rfl).1 rfl (fun hc => d_pick ((hp 14 _ rfl rfl).1.1 hc) (fun hc2 => (pA hc2 ((hp 21 _ rfl rfl).1.1 ⟨hc, hc2⟩))) (fun hc2 => (pAN hc2)))) (AOK.cons (fun ρ a w hs hz hΓ hp => gp (d_pick (hp 11 _ rfl rfl).1 (fun hc2 => (pON hc2)) (fun hc2 => (pO hc2 ((hp 22 _ rfl rfl).1.1 hc2))))) AOK.nil rfl) rfl) rfl) rfl) rfl) rfl) rfl) rfl) rfl) rfl) rfl) rfl) rfl) rfl) rfl) rfl) rfl) rfl) rfl) rfl) rfl) rfl) rfl) rfl) (fun vs20 => ?_)
          refine T.nil ?_
          refine T.norm ?_
          obtain ⟨y5, e21, hu4⟩ := bindS hu4
          refine T.joinS (Γ' := fun (z : Unit) => E [(3, ((TP Y24).sv x1)), (5, (TB.sv y5)), (10, (Y22.sv x0)), (11, ((TI .i64).sv (x0.length : Int))), (12, ((TI .i64).sv s12))]) (H' := fun (z : Unit) => HL []) (fun zz => ?_) (fun hk => ?_)
          · skip
            refine T.fallX ?_
            exact T.toh (hk8 (y5, ()) hu4) ⟨fun _ _ h => h, fun _ _ h => h, fun _ _ h => h, fun _ _ h => h, fun _ _ h => h, trivial⟩ trivial
          · refine T.cond (b := (((decide (0 < (IntKind.i64.wrap ((IntKind.i64.wrap (x26 * x31)) - (IntKind.i64.wrap (x37 * x43)))))) && (decide ((nth x14.1 1) < (nth x14.2.1 1)))) || ((decide ((IntKind.i64.wrap ((IntKind.i64.wrap (x26 * x31)) - (IntKind.i64.wrap (x37 * x43)))) < 0)) && (decide ((nth x14.2.1 1) < (nth x14.1 1)))))) (fun _ _ h => h) (fun hc => ?_) (fun hc => ?_)
            · replace e21 := iteT e21 hc
              refine T.region mix 3 [70, 71, 5] [0, 1, 3] [(sp (TB.sv s5)), (sp (TB.sv (!s5))), (sp (TB.sv (!s5)))] (by kernel_rfl) (AOK.cons (fun ρ a w hs hz hΓ hp => gp (d_move (hΓ 5 rfl))) (AOK.cons (fun ρ a w hs hz hΓ hp => gp (d_not (hp 0 _ rfl rfl).1)) (AOK.cons (fun ρ a w hs hz hΓ hp => gp (d_assign (hp 1 _ rfl rfl).1)) AOK.nil rfl) rfl) rfl) (fun vs22 => ?_)
              refine T.nil ?_
              cases e21
              exact T.toh (hk ()) ⟨fun _ _ h => h, fun _ _ h => h, fun _ _ h => h, fun _ _ h => h, fun _ _ h => h, trivial⟩ trivial
            · replace e21 := iteF e21 hc
              refine T.skip ?_
              cases e21
              exact T.toh (hk ()) ⟨fun _ _ h => h, fun _ _ h => h, fun _ _ h => h, fun _ _ h => h, fun _ _ h => h, trivial⟩ trivial
    · replace hu4 := iteF hu4 hc
      refine T.exit ?_
      obtain rfl := Option.some.inj hu4
      repeat (first | refine T.passX ?_ | refine T.inX (by decide) ?_)
      refine T.hereX ?_
      exact T.toh (hk ((s5, s12), ()) (Eq.symm hn4)) ⟨fun _ _ h => h, trivial⟩ trivial

theorem c108 (w : World) (v0 : Value) {σ : Heap} (hσ : σ.le (snap w)) {x0 : (List Int)} {r : Bool} (hF : impl_isOn x0 = some r) (h0 : Y24.val σ v0 x0) :
    Calls Try.prog 108 #[v0] w (Ret [] w σ (TB.sv r) []) := by
  unfold impl_isOn at hF
  refine start (args := [v0]) Try.func108 rfl 13 rfl [] [(0, (Y24.sv x0))] [] (sat_start _ hσ) rfl (args1 rfl h0 (args0)) ?_
  refine T.seq ?_
  refine T.region mix 2 [1, 2] [0, 0] [(sp ((TP Y24).sv x0)), (sp (TB.sv false))] (by kernel_rfl) (AOK.cons (fun ρ a w hs hz hΓ hp => gp (d_box hs.le (hΓ 0 rfl))) (AOK.cons (fun ρ a w hs hz hΓ hp => gp (d_assign (vB _))) AOK.nil rfl) rfl) (fun vs1 => ?_)
  refine T.nil ?_
  refine T.norm ?_
  refine T.seq ?_
  obtain ⟨x6, e3, hF⟩ := bindS hF
  obtain ⟨x12, e5, hF⟩ := bindS hF
  obtain ⟨x11, e6⟩ : ∃ (x11 : Bool), x6 = true → impl_within (nth x0 1) 0 63 = some x11 ∧ x11 = x12 := by
    by_cases hb : x6 = true
    · replace e5 := iteT e5 hb
      obtain ⟨x11, e4, e5⟩ := bindS e5
      exact ⟨x11, fun _ => ⟨e4, Option.some.inj e5⟩⟩
    · exact ⟨default, fun h => absurd h hb⟩
  have e7 : x6 = false → false = x12 := fun h => Option.some.inj (iteF e5 h)
  refine T.region mix 11 [3, 4, 5, 6, 7, 8, 9, 10, 11, 12, 2] [0, 1, 3, 7, 15, 31, 63, 127, 255, 511, 1023] [(sp ((TP (TI .i16)).sv (nth x0 0))), (sp ((TI .i16).sv (nth x0 0))), (sp ((TI .i64).sv (nth x0 0))), (sp (TB.sv x6)), (sp (TB.sv x6)), (sp (SRel.when (x6 = true) ((TP (TI .i16)).sv (nth x0 1)))), (sp (SRel.when (x6 = true) ((TI .i16).sv (nth x0 1)))), (sp (SRel.when (x6 = true) ((TI .i64).sv (nth x0 1)))), (sp (SRel.when (x6 = true) (TB.sv x11))), (sp (TB.sv x12)), (sp (TB.sv x12))] (by kernel_rfl) (AOK.cons (fun ρ a w hs hz hΓ hp => gp (d_idxPc .i64 0 u32 y23 (hΓ 1 rfl) rfl)) (AOK.cons (fun ρ a w hs hz hΓ hp => gp (d_load y23 hs.le (hp 0 _ rfl rfl).1)) (AOK.cons (fun ρ a w hs hz hΓ hp => gp (d_widen u23 u2 rfl (hp 1 _ rfl rfl).1)) (AOK.cons (fun ρ a w hs hz hΓ hp => gp (d_call fn72 hs.le mapA3 (c72 w _ _ _ hs.le e3 ((hp 2 _ rfl rfl).1) (vI rfl) (vI rfl)))) (AOK.cons (fun ρ a w hs hz hΓ hp => gp (d_move (hp 3 _ rfl rfl).1)) (AOK.cons (fun ρ a w hs hz hΓ hp => gg (g := 4) (d := 7) hz rfl (hp 4 _ rfl rfl).1 rfl (fun hc => d_idxPc .i64 1 u32 y23 (hΓ 1 rfl) rfl)) (AOK.cons (fun ρ a w hs hz hΓ hp => gg (g := 4) (d := 7) hz rfl (hp 4 _ rfl rfl).1 rfl (fun hc => d_load y23 hs.le ((hp 5 _ rfl rfl).1 hc))) (AOK.cons (fun ρ a w hs hz hΓ hp => gg (g := 4) (d := 7) hz rfl (hp 4 _ rfl rfl).1 rfl (fun hc => d_widen u23 u2 rfl ((hp 6 _ rfl rfl).1 hc))) (AOK.cons (fun ρ a w hs hz hΓ hp => gg (g := 4) (d := 7) hz rfl (hp 4 _ rfl rfl).1 rfl (fun hc => d_call fn72 hs.le mapA3 (c72 w _ _ _ hs.le (e6 hc).1 ((hp 7 _ rfl rfl).1 hc) (vI rfl) (vI rfl)))) (AOK.cons (fun ρ a w hs hz hΓ hp => gp (d_pick (hp 4 _ rfl rfl).1 (fun hc => (pE ((e6 hc).2) ((hp 8 _ rfl rfl).1 hc))) (fun hc => pC (e7 hc)))) (AOK.cons (fun ρ a w hs hz hΓ hp => gp (d_assign (hp 9 _ rfl rfl).1)) AOK.nil rfl) rfl) rfl) rfl) rfl) rfl) rfl) rfl) rfl) rfl) rfl) (fun vs2 => ?_)
  refine T.nil ?_
  refine T.norm ?_
  refine T.ret ?_
  obtain rfl := Option.some.inj hF
  refine T.fin0 fun ρ a w st => ?_
  exact ⟨_, results_one rfl rfl, (st.env 2)⟩

theorem c121 (w : World) (v0 v1 v2 : Value) {x0 : (List Int)} {x1 : (List Int)} {x2 : Bool} {r : (List Int)} (hF : impl_Sheet_set x0 x1 x2 = some r) (hm : (boxR 45 Y42 x0 v0).holds (snapX (blkOf v0).toList w) w) (h1 : Y24.val (snapX (blkOf v0).toList w) v1 x1) (h2 : TB.val (snapX (blkOf v0).toList w) v2 x2) :
    Calls Try.prog 121 #[v0, v1, v2] w (RetM (blkOf v0).toList w SRel.any (boxR 45 Y42 r v0)) := by
  unfold impl_Sheet_set at hF
  refine start (args := [v0, v1, v2]) Try.func121 rfl 34 rfl (blkOf v0).toList [(0, (SRel.eq v0)), (1, (Y24.sv x1)), (2, (TB.sv x2))] [(1, (boxR 45 Y42 x0 v0))] (sat_mut (r := (boxR 45 Y42 x0 v0)) 1 hm) rfl (args1 rfl rfl (args1 rfl h1 (args1 rfl h2 (args0)))) ?_
  refine T.seq ?_
  refine T.region mix 1 [4] [0] [(sp ((TP Y24).sv x1))] (by kernel_rfl) (AOK.cons (fun ρ a w hs hz hΓ hp => gp (d_box hs.le (hΓ 1 rfl))) AOK.nil rfl) (fun vs1 => ?_)
  refine T.nil ?_
  refine T.norm ?_
  refine T.seq ?_
  refine T.seq ?_
  obtain ⟨x7, e3, hF⟩ := bindS hF
  refine T.region mix 3 [6, 7, 8] [0, 1, 3] [(sp (Y24.sv x1)), (sp (TB.sv x7)), (sp (TB.sv (!x7)))] (by kernel_rfl) (AOK.cons (fun ρ a w hs hz hΓ hp => gp (d_load y32 hs.le (hΓ 4 rfl))) (AOK.cons (fun ρ a w hs hz hΓ hp => gp (d_call fn108 hs.le mapA1 (c108 w _ hs.le e3 ((hp 0 _ rfl rfl).1)))) (AOK.cons (fun ρ a w hs hz hΓ hp => gp (d_not (hp 1 _ rfl rfl).1)) AOK.nil rfl) rfl) rfl) (fun vs2 => ?_)
  refine T.nil ?_
  refine T.norm ?_
  refine T.cond (b := (!x7)) (fun _ _ h => h) (fun hc => ?_) (fun hc => ?_)
  · replace hF := iteT hF hc
    refine T.ret ?_
    obtain rfl := Option.some.inj hF
    refine T.finM fun ρ a w st => ?_
    exact ⟨_, results_no rfl, fun σ => trivial, mut_on st.sat 1 rfl (loose_boxR (flat_TArr (flat_TI _))) rfl⟩
  · replace hF := iteF hF hc
    refine T.skip ?_
    refine T.norm ?_
    refine T.seq ?_
    obtain ⟨x13, e5, hF⟩ := bindS hF
    obtain ⟨_u17, e6, hF⟩ := bindS hF
    obtain ⟨x20, e7, hF⟩ := bindS hF
    refine T.region mix 12 [9, 10, 11, 12, 13, 14, 15, 16, 17, 18, 19, 20] [0, 0, 2, 1, 15, 31, 0, 64, 192, 511, 1, 2047, 4095] [(sp (SRel.eq v0)), (sp ((TP (TI .i16)).sv (nth x1 1))), (sp ((TI .i16).sv (nth x1 1))), (sp (SRel.eq v0)), (sp (SRel.eq (at_ v0 (0 + (nth x1 1).toNat * (TI .u64).n)))), (sp ((TI .u64).sv x13)), (sp ((TP (TI .i16)).sv (nth x1 0))), (sp ((TI .i16).sv (nth x1 0))), (sp ((TI .u64).sv (IntKind.u64.wrap (1 * 2 ^ (min (nth x1 0).toNat IntKind.u64.bits))))), (sp ((TI .u64).sv (bitop .andNot .u64 x13 (IntKind.u64.wrap (1 * 2 ^ (min (nth x1 0).toNat IntKind.u64.bits)))))), (sp (SRel.eq v0)), (sp (SRel.eq (at_ v0 (0 + (nth x1 1).toNat * (TI .u64).n))))] (by kernel_rfl) (AOK.cons (fun ρ a w hs hz hΓ hp => gp (d_move (hΓ 0 rfl))) (AOK.cons (fun ρ a w hs hz hΓ hp => gp (d_idxPc .i64 1 u32 y23 (hΓ 4 rfl) rfl)) (AOK.cons (fun ρ a w hs hz hΓ hp => gp (d_load y23 hs.le (hp 1 _ rfl rfl).1)) (AOK.cons (fun ρ a w hs hz hΓ hp => gp (d_nilCheckB hs 1 rfl (hp 0 _ rfl rfl).1)) (AOK.cons (fun ρ a w hs hz hΓ hp => gp (d_idxO u45 y41 hs 1 rfl (.inl ⟨(hp 3 _ rfl rfl).1, rfl⟩) (At.refl Y42 x0) (hp 2 _ rfl rfl).1 e5)) (AOK.cons (fun ρ a w hs hz hΓ hp => gp (d_loadO y41 hs 1 rfl (.inr (hp 4 _ rfl rfl).1) (At.elem (At.refl Y42 x0) (idx_get e5).2))) (AOK.cons (fun ρ a w hs hz hΓ hp => gp (d_idxPc .i64 0 u32 y23 (hΓ 4 rfl) rfl)) (AOK.cons (fun ρ a w hs hz hΓ hp => gp (d_load y23 hs.le (hp 6 _ rfl rfl).1)) (AOK.cons (fun ρ a w hs hz hΓ hp => gp (d_shl (vI rfl) (hp 7 _ rfl rfl).1 (of_decide_eq_true (need_get e6)))) (AOK.cons (fun ρ a w hs hz hΓ hp => gp (d_andNot (hp 5 _ rfl rfl).1 (hp 8 _ rfl rfl).1)) (AOK.cons (fun ρ a w hs hz hΓ hp => gp (d_nilCheckB hs 1 rfl (hp 0 _ rfl rfl).1)) (AOK.cons (fun ρ a w hs hz hΓ hp => gp (d_idxO u45 y41 hs 1 rfl (.inl ⟨(hp 10 _ rfl rfl).1, rfl⟩) (At.refl Y42 x0) (hp 2 _ rfl rfl).1 e7)) AOK.nil rfl) rfl) rfl) rfl) rfl) rfl) rfl) rfl) rfl) rfl) rfl) rfl) (fun vs4 => ?_)
    refine T.store 1 y41 rfl (fun ρ a w st => ⟨.inr (st.env 20), (st.env 18)⟩) (At.elem (At.refl Y42 x0) (idx_get e7).2) ?_
    refine T.nil ?_
    refine T.norm ?_
    refine T.seq ?_
    refine T.region mix 1 [21] [0] [(sp (TB.sv x2))] (by kernel_rfl) (AOK.cons (fun ρ a w hs hz hΓ hp => gp (d_move (hΓ 2 rfl))) AOK.nil rfl) (fun vs8 => ?_)
    refine T.nil ?_
    refine T.norm ?_
    obtain ⟨r1, e9, hF⟩ := bindS hF
    refine T.joinS (Γ' := fun (z : Unit) => E []) (H' := fun (z : Unit) => HL [(1, (boxR 45 Y42 r1 v0))]) (fun zz => ?_) (fun hk => ?_)
    · skip
      refine T.atEnd ?_
      obtain rfl := Option.some.inj hF
      refine T.finM fun ρ a w st => ?_
      exact ⟨_, results_no rfl, fun σ => trivial, mut_on st.sat 1 rfl (loose_boxR (flat_TArr (flat_TI _))) rfl⟩
    · refine T.cond (b := x2) (fun _ _ h => h) (fun hc => ?_) (fun hc => ?_)
      · replace e9 := iteT e9 hc
        obtain ⟨x26, e11, e9⟩ := bindS e9
        obtain ⟨_u30, e12, e9⟩ := bindS e9
        obtain ⟨x33, e13, e9⟩ := bindS e9
        refine T.region mix 12 [22, 23, 24, 25, 26, 27, 28, 29, 30, 31, 32, 33] [0, 0, 2, 1, 15, 31, 0, 64, 192, 511, 1, 2047, 4095] [(sp (SRel.eq v0)), (sp ((TP (TI .i16)).sv (nth x1 1))), (sp ((TI .i16).sv (nth x1 1))), (sp (SRel.eq v0)), (sp (SRel.eq (at_ v0 (0 + (nth x1 1).toNat * (TI .u64).n)))), (sp ((TI .u64).sv x26)), (sp ((TP (TI .i16)).sv (nth x1 0))), (sp ((TI .i16).sv (nth x1 0))), (sp ((TI .u64).sv (IntKind.u64.wrap (1 * 2 ^ (min (nth x1 0).toNat IntKind.u64.bits))))), (sp ((TI .u64).sv (bitop .or .u64 x26 (IntKind.u64.wrap (1 * 2 ^ (min (nth x1 0).toNat IntKind.u64.bits)))))), (sp (SRel.eq v0)), (sp (SRel.eq (at_ v0 (0 + (nth x1 1).toNat * (TI .u64).n))))] (by kernel_rfl) (AOK.cons (fun ρ a w hs hz hΓ hp => gp (d_move (hΓ 0 rfl))) (AOK.cons (fun ρ a w hs hz hΓ hp => gp (d_idxPc .i64 1 u32 y23 (hΓ 4 rfl) rfl)) (AOK.cons (fun ρ a w hs hz hΓ hp => gp (d_load y23 hs.le (hp 1 _ rfl rfl).1)) (AOK.cons (fun ρ a w hs hz hΓ hp => gp (d_nilCheckB hs 1 rfl (hp 0 _ rfl rfl).1)) (AOK.cons (fun ρ a w hs hz hΓ hp => gp (d_idxO u45 y41 hs 1 rfl (.inl ⟨(hp 3 _ rfl rfl).1, rfl⟩) (At.refl Y42 (x0.set (nth x1 1).toNat (bitop .andNot .u64 x13 (IntKind.u64.wrap (1 * 2 ^ (min (nth x1 0).toNat IntKind.u64.bits)))))) (hp 2 _ rfl rfl).1 e11)) (AOK.cons (fun ρ a w hs hz hΓ hp => gp (d_loadO y41 hs 1 rfl (.inr (hp 4 _ rfl rfl).1) (At.elem (At.refl Y42 (x0.set (nth x1 1).toNat (bitop .andNot .u64 x13 (IntKind.u64.wrap (1 * 2 ^ (min (nth x1 0).toNat IntKind.u64.bits)))))) (idx_get e11).2))) (AOK.cons (fun ρ a w hs hz hΓ hp => gp (d_idxPc .i64 0 u32 y23 (hΓ 4 rfl) rfl)) (AOK.cons (fun ρ a w hs hz hΓ hp => gp (d_load y23 hs.le (hp 6 _ rfl rfl).1)) (AOK.cons (fun ρ a w hs hz hΓ hp => gp (d_shl (vI rfl) (hp 7 _ rfl rfl).1 (of_decide_eq_true (need_get e12)))) (AOK.cons (fun ρ a w hs hz hΓ hp => gp (d_or (hp 5 _ rfl rfl).1 (hp 8 _ rfl rfl).1)) (AOK.cons (fun ρ a w hs hz hΓ hp => gp (d_nilCheckB hs 1 rfl (hp 0 _ rfl rfl).1)) (AOK.cons (fun ρ a w hs hz hΓ hp => gp (d_idxO u45 y41 hs 1 rfl (.inl ⟨(hp 10 _ rfl rfl).1, rfl⟩) (At.refl Y42 (x0.set (nth x1 1).toNat (bitop .andNot .u64 x13 (IntKind.u64.wrap (1 * 2 ^ (min (nth x1 0).toNat IntKind.u64.bits)))))) (hp 2 _ rfl rfl).1 e13)) AOK.nil rfl) rfl) rfl) rfl) rfl) rfl) rfl) rfl) rfl) rfl) rfl) rfl) (fun vs10 => ?_)
        refine T.store 1 y41 rfl (fun ρ a w st => ⟨.inr (st.env 33), (st.env 31)⟩) (At.elem (At.refl Y42 (x0.set (nth x1 1).toNat (bitop .andNot .u64 x13 (IntKind.u64.wrap (1 * 2 ^ (min (nth x1 0).toNat IntKind.u64.bits)))))) (idx_get e13).2) ?_
        refine T.nil ?_
        cases e9
        exact T.toh (hk ()) trivial ⟨rfl, trivial⟩
      · replace e9 := iteF e9 hc
        refine T.skip ?_
        cases e9
        exact T.toh (hk ()) trivial ⟨rfl, trivial⟩

theorem c104 (w : World) (v0 v1 : Value) {σ : Heap} (hσ : σ.le (snap w)) {x0 : Int} {x1 : Int} {r : Int} (hF : impl_roundQuotient x0 x1 = some r) (h0 : (TI .i64).val σ v0 x0) (h1 : (TI .i64).val σ v1 x1) :
    Calls Try.prog 104 #[v0, v1] w (Ret [] w σ ((TI .i64).sv r) []) := by
  unfold impl_roundQuotient at hF
  refine start (args := [v0, v1]) Try.func104 rfl 28 rfl [] [(0, ((TI .i64).sv x0)), (1, ((TI .i64).sv x1))] [] (sat_start _ hσ) rfl (args1 rfl h0 (args1 rfl h1 (args0))) ?_
  refine T.seq ?_
  refine T.region mix 1 [4] [0] [(sp ((TI .i64).sv 0))] (by kernel_rfl) (AOK.cons (fun ρ a w hs hz hΓ hp => gp (d_assign (vI rfl))) AOK.nil rfl) (fun vs1 => ?_)
  refine T.nil ?_
  refine T.norm ?_
  refine T.seq ?_
  refine T.seq ?_
  refine T.region mix 2 [6, 7] [0, 1] [(sp ((TI .i64).sv x1)), (sp (TB.sv (decide (x1 < 0))))] (by kernel_rfl) (AOK.cons (fun ρ a w hs hz hΓ hp => gp (d_move (hΓ 1 rfl))) (AOK.cons (fun ρ a w hs hz hΓ hp => gp (d_lss (hp 0 _ rfl rfl).1 (vI rfl))) AOK.nil rfl) rfl) (fun vs2 => ?_)
  refine T.nil ?_
  refine T.norm ?_
  obtain ⟨yy, e3, hF⟩ := bindS hF
  obtain ⟨y0, y1⟩ := yy
  refine T.joinS (Γ' := fun (z : Unit) => E [(0, ((TI .i64).sv y0)), (1, ((TI .i64).sv y1))]) (H' := fun (z : Unit) => HL []) (fun zz => ?_) (fun hk => ?_)
  · skip
    refine T.norm ?_
    refine T.seq ?_
    refine T.region mix 8 [12, 13, 14, 15, 16, 17, 0, 1] [0, 1, 0, 7, 0, 16, 15, 127] [(sp ((TI .i64).sv y0)), (sp ((TI .i64).sv (IntKind.i64.wrap (2 * y0)))), (sp ((TI .i64).sv y1)), (sp ((TI .i64).sv (IntKind.i64.wrap ((IntKind.i64.wrap (2 * y0)) + y1)))), (sp ((TI .i64).sv y1)), (sp ((TI .i64).sv (IntKind.i64.wrap (2 * y1)))), (sp ((TI .i64).sv (IntKind.i64.wrap ((IntKind.i64.wrap (2 * y0)) + y1)))), (sp ((TI .i64).sv (IntKind.i64.wrap (2 * y1))))] (by kernel_rfl) (AOK.cons (fun ρ a w hs hz hΓ hp => gp (d_move (hΓ 0 rfl))) (AOK.cons (fun ρ a w hs hz hΓ hp => gp (d_mul (vI rfl) (hp 0 _ rfl rfl).1)) (AOK.cons (fun ρ a w hs hz hΓ hp => gp (d_move (hΓ 1 rfl))) (AOK.cons (fun ρ a w hs hz hΓ hp => gp (d_add (hp 1 _ rfl rfl).1 (hp 2 _ rfl rfl).1)) (AOK.cons (fun ρ a w hs hz hΓ hp => gp (d_move (hΓ 1 rfl))) (AOK.cons (fun ρ a w hs hz hΓ hp => gp (d_mul (vI rfl) (hp 4 _ rfl rfl).1)) (AOK.cons (fun ρ a w hs hz hΓ hp => gp (d_assign (hp 3 _ rfl rfl).1)) (AOK.cons (fun ρ a w hs hz hΓ hp => gp (d_assign (hp 5 _ rfl rfl).1)) AOK.nil rfl) rfl) rfl) rfl) rfl) rfl) rfl) rfl) (fun vs4 => ?_)
    refine T.nil ?_
    refine T.norm ?_
    refine T.seq ?_
    obtain ⟨_u20, e6, hF⟩ := bindS hF
    refine T.region mix 4 [18, 19, 20, 5] [0, 0, 3, 7] [(sp ((TI .i64).sv (IntKind.i64.wrap ((IntKind.i64.wrap (2 * y0)) + y1)))), (sp ((TI .i64).sv (IntKind.i64.wrap (2 * y1)))), (sp ((TI .i64).sv (IntKind.i64.wrap (Int.tdiv (IntKind.i64.wrap ((IntKind.i64.wrap (2 * y0)) + y1)) (IntKind.i64.wrap (2 * y1)))))), (sp ((TI .i64).sv (IntKind.i64.wrap (Int.tdiv (IntKind.i64.wrap ((IntKind.i64.wrap (2 * y0)) + y1)) (IntKind.i64.wrap (2 * y1))))))] (by kernel_rfl) (AOK.cons (fun ρ a w hs hz hΓ hp => gp (d_move (hΓ 0 rfl))) (AOK.cons (fun ρ a w hs hz hΓ hp => gp (d_move (hΓ 1 rfl))) (AOK.cons (fun ρ a w hs hz hΓ hp => gp (d_quo (hp 0 _ rfl rfl).1 (hp 1 _ rfl rfl).1 (of_decide_eq_true (need_get e6)))) (AOK.cons (fun ρ a w hs hz hΓ hp => gp (d_assign (hp 2 _ rfl rfl).1)) AOK.nil rfl) rfl) rfl) rfl) (fun vs5 => ?_)
    refine T.nil ?_
    refine T.norm ?_
    refine T.seq ?_
    refine T.seq ?_
    obtain ⟨_u23, e8, hF⟩ := bindS hF
    refine T.region mix 4 [21, 22, 23, 24] [0, 0, 3, 7] [(sp ((TI .i64).sv (IntKind.i64.wrap ((IntKind.i64.wrap (2 * y0)) + y1)))), (sp ((TI .i64).sv (IntKind.i64.wrap (2 * y1)))), (sp ((TI .i64).sv (Int.tmod (IntKind.i64.wrap ((IntKind.i64.wrap (2 * y0)) + y1)) (IntKind.i64.wrap (2 * y1))))), (sp (TB.sv (decide ((Int.tmod (IntKind.i64.wrap ((IntKind.i64.wrap (2 * y0)) + y1)) (IntKind.i64.wrap (2 * y1))) < 0))))] (by kernel_rfl) (AOK.cons (fun ρ a w hs hz hΓ hp => gp (d_move (hΓ 0 rfl))) (AOK.cons (fun ρ a w hs hz hΓ hp => gp (d_move (hΓ 1 rfl))) (AOK.cons (fun ρ a w hs hz hΓ hp => gp (d_rem (hp 0 _ rfl rfl).1 (hp 1 _ rfl rfl).1 (of_decide_eq_true (need_get e8)))) (AOK.cons (fun ρ a w hs hz hΓ hp => gp (d_lss (hp 2 _ rfl rfl).1 (vI rfl))) AOK.nil rfl) rfl) rfl) rfl) (fun vs7 => ?_)
    refine T.nil ?_
    refine T.norm ?_
    obtain ⟨y5, e9, hF⟩ := bindS hF
    refine T.joinS (Γ' := fun (z : Unit) => E [(5, ((TI .i64).sv y5))]) (H' := fun (z : Unit) => HL []) (fun zz => ?_) (fun hk => ?_)
    · skip
      refine T.norm ?_
      refine T.seq ?_
      refine T.region mix 2 [27, 4] [0, 1] [(sp ((TI .i64).sv y5)), (sp ((TI .i64).sv y5))] (by kernel_rfl) (AOK.cons (fun ρ a w hs hz hΓ hp => gp (d_move (hΓ 5 rfl))) (AOK.cons (fun ρ a w hs hz hΓ hp => gp (d_assign (hp 0 _ rfl rfl).1)) AOK.nil rfl) rfl) (fun vs10 => ?_)
      refine T.nil ?_
      refine T.norm ?_
      refine T.ret ?_
      obtain rfl := Option.some.inj hF
      refine T.fin0 fun ρ a w st => ?_
      exact ⟨_, results_one rfl rfl, (st.env 4)⟩
    · refine T.cond (b := (decide ((Int.tmod (IntKind.i64.wrap ((IntKind.i64.wrap (2 * y0)) + y1)) (IntKind.i64.wrap (2 * y1))) < 0))) (fun _ _ h => h) (fun hc => ?_) (fun hc => ?_)
      · replace e9 := iteT e9 hc
        refine T.region mix 3 [25, 26, 5] [0, 1, 3] [(sp ((TI .i64).sv (IntKind.i64.wrap (Int.tdiv (IntKind.i64.wrap ((IntKind.i64.wrap (2 * y0)) + y1)) (IntKind.i64.wrap (2 * y1)))))), (sp ((TI .i64).sv (IntKind.i64.wrap ((IntKind.i64.wrap (Int.tdiv (IntKind.i64.wrap ((IntKind.i64.wrap (2 * y0)) + y1)) (IntKind.i64.wrap (2 * y1)))) - 1)))), (sp ((TI .i64).sv (IntKind.i64.wrap ((IntKind.i64.wrap (Int.tdiv (IntKind.i64.wrap ((IntKind.i64.wrap (2 * y0)) + y1)) (IntKind.i64.wrap (2 * y1)))) - 1))))] (by kernel_rfl) (AOK.cons (fun ρ a w hs hz hΓ hp => gp (d_move (hΓ 5 rfl))) (AOK.cons (fun ρ a w hs hz hΓ hp => gp (d_sub (hp 0 _ rfl rfl).1 (vI rfl))) (AOK.cons (fun ρ a w hs hz hΓ hp => gp (d_assign (hp 1 _ rfl rfl).1)) AOK.nil rfl) rfl) rfl) (fun vs11 => ?_)
        refine T.nil ?_
        cases e9
        exact T.toh (hk ()) ⟨fun _ _ h => h, trivial⟩ trivial
      · replace e9 := iteF e9 hc
        refine T.skip ?_
        cases e9
        exact T.toh (hk ()) ⟨fun _ _ h => h, trivial⟩ trivial
  · refine T.cond (b := (decide (x1 < 0))) (fun _ _ h => h) (fun hc => ?_) (fun hc => ?_)
    · replace e3 := iteT e3 hc
      refine T.region mix 6 [8, 9, 10, 11, 0, 1] [0, 1, 0, 4, 3, 31] [(sp ((TI .i64).sv x0)), (sp ((TI .i64).sv (IntKind.i64.wrap (0 - x0)))), (sp ((TI .i64).sv x1)), (sp ((TI .i64).sv (IntKind.i64.wrap (0 - x1)))), (sp ((TI .i64).sv (IntKind.i64.wrap (0 - x0)))), (sp ((TI .i64).sv (IntKind.i64.wrap (0 - x1))))] (by kernel_rfl) (AOK.cons (fun ρ a w hs hz hΓ hp => gp (d_move (hΓ 0 rfl))) (AOK.cons (fun ρ a w hs hz hΓ hp => gp (d_neg (hp 0 _ rfl rfl).1)) (AOK.cons (fun ρ a w hs hz hΓ hp => gp (d_move (hΓ 1 rfl))) (AOK.cons (fun ρ a w hs hz hΓ hp => gp (d_neg (hp 2 _ rfl rfl).1)) (AOK.cons (fun ρ a w hs hz hΓ hp => gp (d_assign (hp 1 _ rfl rfl).1)) (AOK.cons (fun ρ a w hs hz hΓ hp => gp (d_assign (hp 3 _ rfl rfl).1)) AOK.nil rfl) rfl) rfl) rfl) rfl) rfl) (fun vs12 => ?_)
      refine T.nil ?_
      cases e3
      exact T.toh (hk ()) ⟨fun _ _ h => h, fun _ _ h => h, trivial⟩ trivial
    · replace e3 := iteF e3 hc
      refine T.skip ?_
      cases e3
      exact T.toh (hk ()) ⟨fun _ _ h => h, fun _ _ h => h, trivial⟩ trivial

theorem c107 (w : World) (v0 : Value) {σ : Heap} (hσ : σ.le (snap w)) {x0 : ((List Int) × (List Int) × Int)} {r : (List (List Int))} (hF : impl_Stroke_marks x0 = some r) (h0 : Y104.val σ v0 x0) :
    Calls Try.prog 107 #[v0] w (Ret [] w σ SRel.any [slR 32 Y24 r]) := by
  unfold impl_Stroke_marks at hF
  refine start (args := [v0]) Try.func107 rfl 54 rfl [] [(0, (Y104.sv x0))] [] (sat_start _ hσ) rfl (args1 rfl h0 (args0)) ?_
  refine T.seq ?_
  refine T.region mix 2 [1, 2] [0, 0] [(sp ((TP Y104).sv x0)), (sO SRel.any [(1, (slR 32 Y24 []))])] (by kernel_rfl) (AOK.cons (fun ρ a w hs hz hΓ hp => gp (d_box hs.le (hΓ 0 rfl))) (AOK.cons (fun ρ a w hs hz hΓ hp => g_nilSl) AOK.nil rfl) rfl) (fun vs1 => ?_)
  refine T.nil ?_
  refine T.norm ?_
  refine T.seq ?_
  obtain ⟨x12, e3, hF⟩ := bindS hF
  refine T.region mix 10 [8, 9, 10, 11, 12, 13, 14, 15, 3, 4] [0, 1, 0, 4, 15, 0, 32, 96, 31, 511] [(sp ((TP Y24).sv x0.1)), (sp (Y24.sv x0.1)), (sp ((TP Y24).sv x0.2.1)), (sp (Y24.sv x0.2.1)), (sp ((TI .i64).sv x12)), (sp ((TP Y24).sv x0.1)), (sp (Y24.sv x0.1)), (sO SRel.any [(2, (slR 32 Y24 ([x0.1] : List (List Int))))]), (sp ((TI .i64).sv x12)), (al 7 (id))] (by kernel_rfl) (AOK.cons (fun ρ a w hs hz hΓ hp => gp (d_fieldP fa84_0 (hΓ 1 rfl) (At.fst (At.refl _ _)))) (AOK.cons (fun ρ a w hs hz hΓ hp => gp (d_load y32 hs.le (hp 0 _ rfl rfl).1)) (AOK.cons (fun ρ a w hs hz hΓ hp => gp (d_fieldP fa84_1 (hΓ 1 rfl) (At.fst (At.snd (At.refl _ _))))) (AOK.cons (fun ρ a w hs hz hΓ hp => gp (d_load y32 hs.le (hp 2 _ rfl rfl).1)) (AOK.cons (fun ρ a w hs hz hΓ hp => gp (d_call fn46 hs.le mapA2 (c46 w _ _ hs.le e3 ((hp 1 _ rfl rfl).1) ((hp 3 _ rfl rfl).1)))) (AOK.cons (fun ρ a w hs hz hΓ hp => gp (d_fieldP fa84_0 (hΓ 1 rfl) (At.fst (At.refl _ _)))) (AOK.cons (fun ρ a w hs hz hΓ hp => gp (d_load y32 hs.le (hp 5 _ rfl rfl).1)) (AOK.cons (fun ρ a w hs hz hΓ hp => g_buildSl hs.le u49 y32 z32 (by decide) (by decide) zc32 (Fills.part rfl (hp 6 _ rfl rfl).1 (At.nth (At.refl _ _) 0 rfl) (Fills.done _))) (AOK.cons (fun ρ a w hs hz hΓ hp => gp (d_assign (hp 4 _ rfl rfl).1)) (AOK.cons (fun ρ a w hs hz hΓ hp => al_assign rfl) AOK.nil rfl) rfl) rfl) rfl) rfl) rfl) rfl) rfl) rfl) rfl) (fun vs2 => ?_)
  refine T.nil ?_
  refine T.norm ?_
  refine T.seq ?_
  refine T.seq ?_
  refine T.region mix 1 [5] [0] [(sp ((TI .i64).sv 1))] (by kernel_rfl) (AOK.cons (fun ρ a w hs hz hΓ hp => gp (d_assign (vI rfl))) AOK.nil rfl) (fun vs4 => ?_)
  refine T.nil ?_
  refine T.norm ?_
  obtain ⟨yl5, e6, hF⟩ := bindS hF
  refine T.joinD (ι := (Int × (List (List Int))) × (Value)) (fun p => yl5 = p.1) (Γ' := fun p => E [(4, (SRel.eq p.2))]) (H' := fun p => HL [(2, (slR 32 Y24 p.1.2 p.2))]) (fun p hy => ?_) (fun hk => ?_)
  · obtain ⟨⟨o5, or2⟩, z2_7⟩ := p
    cases hy
    refine T.norm ?_
    refine T.seq ?_
    refine T.region mix 2 [53, 2] [0, 1] [(sp (SRel.eq z2_7)), (sp (SRel.eq z2_7))] (by kernel_rfl) (AOK.cons (fun ρ a w hs hz hΓ hp => gp (d_move (hΓ 4 rfl))) (AOK.cons (fun ρ a w hs hz hΓ hp => gp (d_assign (hp 0 _ rfl rfl).1)) AOK.nil rfl) rfl) (fun vs8 => ?_)
    refine T.nil ?_
    refine T.norm ?_
    refine T.ret ?_
    obtain rfl := Option.some.inj hF
    refine T.fin fun ρ a w st => ?_
    exact ⟨_, results_one rfl rfl, trivial, own1 (own_at (id := 2) (st.env 2) rfl), List.pairwise_singleton _ _⟩
  · skip
    refine T.block ?_
    refine T.loop (f := impl_Stroke_marks_l1 x0 x12) (σ := (Int × (List (List Int)))) (Z := Value) (fun s z => E [(1, ((TP Y104).sv x0)), (3, ((TI .i64).sv x12)), (4, (SRel.eq z)), (5, ((TI .i64).sv s.1))]) (fun s z => HL [(2, (slR 32 Y24 s.2 z))]) e6 (vs2 7) (fun φ h => T.toh h ⟨fun _ _ h => h, fun _ _ h => h, fun _ _ h => h, fun _ _ h => h, trivial⟩ ⟨rfl, trivial⟩) (fun k s z uu5 hu5 hn5 => ?_)
    obtain ⟨s5, sr2⟩ := s
    obtain ⟨z2, rfl⟩ : ∃ q, q = z := ⟨_, rfl⟩
    dsimp only [impl_Stroke_marks_l1] at hu5
    refine T.seq ?_
    refine T.seq ?_
    refine T.region mix 3 [16, 17, 18] [0, 0, 3] [(sp ((TI .i64).sv s5)), (sp ((TI .i64).sv x12)), (sp (TB.sv (decide (s5 ≤ x12))))] (by kernel_rfl) (AOK.cons (fun ρ a w hs hz hΓ hp => gp (d_move (hΓ 5 rfl))) (AOK.cons (fun ρ a w hs hz hΓ hp => gp (d_move (hΓ 3 rfl))) (AOK.cons (fun ρ a w hs hz hΓ hp => gp (d_leq (hp 0 _ rfl rfl).1 (hp 1 _ rfl rfl).1)) AOK.nil rfl) rfl) rfl) (fun vs9 => ?_)
    refine T.nil ?_
    refine T.norm ?_
    refine T.cond (b := (decide (s5 ≤ x12))) (fun _ _ h => h) (fun hc => ?_) (fun hc => ?_)
    · replace hu5 := iteT hu5 hc
      refine T.skip ?_
      refine T.norm ?_
      refine T.seq ?_
      refine T.block ?_
      refine T.seq ?_
      refine T.region mix 2 [21, 6] [0, 0, 3] [(sp (Y24.sv ((List.replicate 2 0) : (List Int)))), (sO SRel.any [(3, (boxR 32 Y24 (List.replicate 2 0)))])] (by kernel_rfl) (AOK.cons (fun ρ a w hs hz hΓ hp => gp (d_buildA u32 y23 z32 zc32 (Fills.done _))) (AOK.cons (fun ρ a w hs hz hΓ hp => g_alloc hs.le z32 zc32) AOK.nil rfl) rfl) (fun vs10 => ?_)
      refine T.store 3 y32 rfl (fun ρ a w st => ⟨.inl ⟨(st.env 6).1, rfl⟩, (st.env 21)⟩) (At.refl Y24 (List.replicate 2 0)) ?_
      refine T.nil ?_
      refine T.norm ?_
      refine T.seq ?_
      refine T.seq ?_
      refine T.region mix 1 [22] [0] [(sp ((TI .i64).sv 0))] (by kernel_rfl) (AOK.cons (fun ρ a w hs hz hΓ hp => gp (d_move (vI rfl))) AOK.nil rfl) (fun vs11 => ?_)
      refine T.nil ?_
      refine T.norm ?_
      obtain ⟨yl12, e13, hu5⟩ := bindS hu5
      refine T.joinD (ι := (Int × (List Int)) × (Unit)) (fun p => yl12 = p.1) (Γ' := fun p => E [(1, ((TP Y104).sv x0)), (3, ((TI .i64).sv x12)), (4, (SRel.eq z2)), (5, ((TI .i64).sv s5)), (6, (SRel.eq (vs10 1)))]) (H' := fun p => HL [(2, (slR 32 Y24 sr2 z2)), (3, (boxR 32 Y24 p.1.2 (vs10 1)))]) (fun p hy => ?_) (fun hk => ?_)
      · obtain ⟨⟨o22, or3⟩, _⟩ := p
        cases hy
        refine T.norm ?_
        refine T.region mix 3 [49, 50, 51] [0, 0, 2, 7, 15] [(sp (SRel.eq z2)), (sp (Y24.sv or3)), (sp (Y49.sv ([or3] : List (List Int))))] (by kernel_rfl) (AOK.cons (fun ρ a w hs hz hΓ hp => gp (d_move (hΓ 4 rfl))) (AOK.cons (fun ρ a w hs hz hΓ hp => gp (d_loadO y32 hs 3 rfl (.inl ⟨(hΓ 6 rfl), rfl⟩) (At.refl Y24 or3))) (AOK.cons (fun ρ a w hs hz hΓ hp => gp (d_buildSl hs.le u49 y32 z32 (by decide) (by decide) zc32 (Fills.part rfl (hp 1 _ rfl rfl).1 (At.nth (At.refl _ _) 0 rfl) (Fills.done _)))) AOK.nil rfl) rfl) rfl) (fun vs14 => ?_)
        obtain ⟨x52, e15, hu5⟩ := bindS hu5
        obtain ⟨e15l, rfl⟩ := app_get e15
        refine T.append 2 rfl u49 i32 rfl rfl (fun ρ a w st => ⟨(st.env 49), (cells_ro (by decide) st.sat.le (st.env 51))⟩) e15l (fun v52 => ?_)
        refine T.does (R := (SRel.eq v52)) rfl (fun ρ a w st => have hs := st.sat; d_assign (st.env 52)) ?_
        refine T.nil ?_
        refine T.fallX ?_
        refine T.norm ?_
        refine T.region mix 3 [19, 20, 5] [0, 1, 3] [(sp ((TI .i64).sv s5)), (sp ((TI .i64).sv (IntKind.i64.wrap (s5 + 1)))), (sp ((TI .i64).sv (IntKind.i64.wrap (s5 + 1))))] (by kernel_rfl) (AOK.cons (fun ρ a w hs hz hΓ hp => gp (d_move (hΓ 5 rfl))) (AOK.cons (fun ρ a w hs hz hΓ hp => gp (d_add (hp 0 _ rfl rfl).1 (vI rfl))) (AOK.cons (fun ρ a w hs hz hΓ hp => gp (d_assign (hp 1 _ rfl rfl).1)) AOK.nil rfl) rfl) rfl) (fun vs16 => ?_)
        refine T.nil ?_
        obtain rfl := Option.some.inj hu5
        exact T.again hn5 v52 (fun φ h => T.toh h ⟨fun _ _ h => h, fun _ _ h => h, fun _ _ h => h, fun _ _ h => h, trivial⟩ ⟨rfl, trivial⟩)
      · skip
        refine T.block ?_
        refine T.loop (f := impl_Stroke_marks_l2 x0 x12 s5) (σ := (Int × (List Int))) (Z := Unit) (fun s z => E [(1, ((TP Y104).sv x0)), (3, ((TI .i64).sv x12)), (4, (SRel.eq z2)), (5, ((TI .i64).sv s5)), (6, (SRel.eq (vs10 1))), (22, ((TI .i64).sv s.1))]) (fun s z => HL [(2, (slR 32 Y24 sr2 z2)), (3, (boxR 32 Y24 s.2 (vs10 1)))]) e13 () (fun φ h => T.toh h ⟨fun _ _ h => h, fun _ _ h => h, fun _ _ h => h, fun _ _ h => h, fun _ _ h => h.1, fun _ _ h => h, trivial⟩ ⟨rfl, rfl, trivial⟩) (fun k s z uu12 hu12 hn12 => ?_)
        obtain ⟨s22, sr3⟩ := s
        dsimp only [impl_Stroke_marks_l2] at hu12
        refine T.seq ?_
        refine T.region mix 1 [23] [0] [(sp (TB.sv (decide (s22 < 2))))] (by kernel_rfl) (AOK.cons (fun ρ a w hs hz hΓ hp => gp (d_lss (hΓ 22 rfl) (vI rfl))) AOK.nil rfl) (fun vs17 => ?_)
        refine T.nil ?_
        refine T.norm ?_
        refine T.seq ?_
        refine T.cond (b := (decide (s22 < 2))) (fun _ _ h => h) (fun hc => ?_) (fun hc => ?_)
        · replace hu12 := iteT hu12 hc
          refine T.skip ?_
          refine T.norm ?_
          refine T.seq ?_
          refine T.block ?_
          refine T.seq ?_
          refine T.region mix 2 [24, 7] [0, 1] [(sp ((TI .i64).sv s22)), (sp ((TI .i64).sv s22))] (by kernel_rfl) (AOK.cons (fun ρ a w hs hz hΓ hp => gp (d_move (hΓ 22 rfl))) (AOK.cons (fun ρ a w hs hz hΓ hp => gp (d_assign (hp 0 _ rfl rfl).1)) AOK.nil rfl) rfl) (fun vs18 => ?_)
          refine T.nil ?_
          refine T.norm ?_
          obtain ⟨x28, e20, hu12⟩ := bindS hu12
          obtain ⟨x33, e21, hu12⟩ := bindS hu12
          obtain ⟨x38, e22, hu12⟩ := bindS hu12
          obtain ⟨x44, e23, hu12⟩ := bindS hu12
          obtain ⟨x47, e24, hu12⟩ := bindS hu12
          refine T.region mix 23 [25, 26, 27, 28, 29, 30, 31, 32, 33, 34, 35, 36, 37, 38, 39, 40, 41, 42, 43, 44, 45, 46, 47] [0, 0, 0, 6, 14, 0, 0, 0, 192, 448, 960, 0, 0, 6144, 14336, 30720, 65472, 131040, 0, 524256, 1048544, 2097150, 4194303, 8388607] [(sp ((TI .i64).sv s22)), (sp ((TI .i64).sv s22)), (sp ((TP Y24).sv x0.1)), (sp ((TP (TI .i16)).sv x28)), (sp ((TI .i16).sv x28)), (sp ((TI .i64).sv s5)), (sp ((TI .i64).sv s22)), (sp ((TP Y24).sv x0.2.1)), (sp ((TP (TI .i16)).sv x33)), (sp ((TI .i16).sv x33)), (sp ((TI .i64).sv x33)), (sp ((TI .i64).sv s22)), (sp ((TP Y24).sv x0.1)), (sp ((TP (TI .i16)).sv x38)), (sp ((TI .i16).sv x38)), (sp ((TI .i64).sv x38)), (sp ((TI .i64).sv (IntKind.i64.wrap (x33 - x38)))), (sp ((TI .i64).sv (IntKind.i64.wrap (s5 * (IntKind.i64.wrap (x33 - x38)))))), (sp ((TI .i64).sv x12)), (sp ((TI .i64).sv x44)), (sp ((TI .i16).sv (IntKind.i16.wrap x44))), (sp ((TI .i16).sv (IntKind.i16.wrap (x28 + (IntKind.i16.wrap x44))))), (sp (SRel.eq (at_ (vs10 1) (0 + s22.toNat * (TI .i16).n))))] (by kernel_rfl) (AOK.cons (fun ρ a w hs hz hΓ hp => gp (d_move (hΓ 7 rfl))) (AOK.cons (fun ρ a w hs hz hΓ hp => gp (d_move (hΓ 7 rfl))) (AOK.cons (fun ρ a w hs hz hΓ hp => gp (d_fieldP fa84_0 (hΓ 1 rfl) (At.fst (At.refl _ _)))) (AOK.cons (fun ρ a w hs hz hΓ hp => gp (d_idxP u32 y23 (hp 2 _ rfl rfl).1 (hp 1 _ rfl rfl).1 e20)) (AOK.cons (fun ρ a w hs hz hΓ hp => gp (d_load y23 hs.le (hp 3 _ rfl rfl).1)) (AOK.cons (fun ρ a w hs hz hΓ hp => gp (d_move (hΓ 5 rfl))) (AOK.cons (fun ρ a w hs hz hΓ hp => gp (d_move (hΓ 7 rfl))) (AOK.cons (fun ρ a w hs hz hΓ hp => gp (d_fieldP fa84_1 (hΓ 1 rfl) (At.fst (At.snd (At.refl _ _))))) (AOK.cons (fun ρ a w hs hz hΓ hp => gp (d_idxP u32 y23 (hp 7 _ rfl rfl).1 (hp 6 _ rfl rfl).1 e21)) (AOK.cons (fun ρ a w hs hz hΓ hp => gp (d_load y23 hs.le (hp 8 _ rfl rfl).1)) (AOK.cons (fun ρ a w hs hz hΓ hp => gp (d_widen u23 u2 rfl (hp 9 _ rfl rfl).1)) (AOK.cons (fun ρ a w hs hz hΓ hp => gp (d_move (hΓ 7 rfl))) (AOK.cons (fun ρ a w hs hz hΓ hp => gp (d_fieldP fa84_0 (hΓ 1 rfl) (At.fst (At.refl _ _)))) (AOK.cons (fun ρ a w hs hz hΓ hp => gp (d_idxP u32 y23 (hp 12 _ rfl rfl).1 (hp 11 _ rfl rfl).1 e22)) (AOK.cons (fun ρ a w hs hz hΓ hp => gp (d_load y23 hs.le (hp 13 _ rfl rfl).1)) (AOK.cons (fun ρ a w hs hz hΓ hp => gp (d_widen u23 u2 rfl (hp 14 _ rfl rfl).1)) (AOK.cons (fun ρ a w hs hz hΓ hp => gp (d_sub (hp 10 _ rfl rfl).1 (hp 15 _ rfl rfl).1)) (AOK.cons (fun ρ a w hs hz hΓ hp => gp (d_mul (hp 5 _ rfl rfl).1 (hp 16 _ rfl rfl).1)) (AOK.cons (fun ρ a w hs hz hΓ hp => gp (d_move (hΓ 3 rfl))) (AOK.cons (fun ρ a w hs hz hΓ hp => gp (d_call fn104 hs.le mapA2 (c104 w _ _ hs.le e23 ((hp 17 _ rfl rfl).1) ((hp 18 _ rfl rfl).1)))) (AOK.cons (fun ρ a w hs hz hΓ hp => gp (d_conv u2 u23 (hp 19 _ rfl rfl).1)) (AOK.cons (fun ρ a w hs hz hΓ hp => gp (d_add (hp 4 _ rfl rfl).1 (hp 20 _ rfl rfl).1)) (AOK.cons (fun ρ a w hs hz hΓ hp => gp (d_idxO u32 y23 hs 3 rfl (.inl ⟨(hΓ 6 rfl), rfl⟩) (At.refl Y24 sr3) (hp 0 _ rfl rfl).1 e24)) AOK.nil rfl) rfl) rfl) rfl) rfl) rfl) rfl) rfl) rfl) rfl) rfl) rfl) rfl) rfl) rfl) rfl) rfl) rfl) rfl) rfl) rfl) rfl) rfl) (fun vs19 => ?_)
          refine T.store 3 y23 rfl (fun ρ a w st => ⟨.inr (st.env 47), (st.env 46)⟩) (At.elem (At.refl Y24 sr3) (idx_get e24).2) ?_
          refine T.nil ?_
          refine T.fallX ?_
          refine T.norm ?_
          refine T.region mix 2 [48, 22] [0, 1] [(sp ((TI .i64).sv (IntKind.i64.wrap (s22 + 1)))), (sp ((TI .i64).sv (IntKind.i64.wrap (s22 + 1))))] (by kernel_rfl) (AOK.cons (fun ρ a w hs hz hΓ hp => gp (d_add (hΓ 22 rfl) (vI rfl))) (AOK.cons (fun ρ a w hs hz hΓ hp => gp (d_move (hp 0 _ rfl rfl).1)) AOK.nil rfl) rfl) (fun vs25 => ?_)
          refine T.nil ?_
          obtain rfl := Option.some.inj hu12
          exact T.again hn12 () (fun φ h => T.toh h ⟨fun _ _ h => h, fun _ _ h => h, fun _ _ h => h, fun _ _ h => h, fun _ _ h => h, fun _ _ h => h, trivial⟩ ⟨rfl, rfl, trivial⟩)
        · replace hu12 := iteF hu12 hc
          refine T.exit ?_
          obtain rfl := Option.some.inj hu12
          repeat (first | refine T.passX ?_ | refine T.inX (by decide) ?_)
          refine T.hereX ?_
          exact T.toh (hk ((s22, sr3), ()) (Eq.symm hn12)) ⟨fun _ _ h => h, fun _ _ h => h, fun _ _ h => h, fun _ _ h => h, fun _ _ h => h, trivial⟩ ⟨rfl, rfl, trivial⟩
    · replace hu5 := iteF hu5 hc
      refine T.exit ?_
      obtain rfl := Option.some.inj hu5
      repeat (first | refine T.passX ?_ | refine T.inX (by decide) ?_)
      refine T.hereX ?_
      exact T.toh (hk ((s5, sr2), z2) (Eq.symm hn5)) ⟨fun _ _ h => h, trivial⟩ ⟨rfl, trivial⟩

theorem c146 (w : World) (v0 v1 : Value) {σ : Heap} (hσ : σ.le (snap w)) {x0 : Int} {x1 : Int} {r : Bool} (hF : impl_IsDrawn x0 x1 = some r) (h0 : (TI .i8).val σ v0 x0) (h1 : (TI .i64).val σ v1 x1) :
    Calls Try.prog 146 #[v0, v1] w (Ret [] w σ (TB.sv r) []) := by
  unfold impl_IsDrawn at hF
  refine start (args := [v0, v1]) Try.func146 rfl 30 rfl [] [(0, ((TI .i8).sv x0)), (1, ((TI .i64).sv x1))] [] (sat_start _ hσ) rfl (args1 rfl h0 (args1 rfl h1 (args0))) ?_
  refine T.seq ?_
  refine T.region mix 1 [4] [0] [(sp (TB.sv false))] (by kernel_rfl) (AOK.cons (fun ρ a w hs hz hΓ hp => gp (d_assign (vB _))) AOK.nil rfl) (fun vs1 => ?_)
  refine T.nil ?_
  refine T.norm ?_
  refine T.seq ?_
  refine T.seq ?_
  refine T.region mix 2 [5, 6] [0, 1] [(sp ((TI .i64).sv x1)), (sp (TB.sv (decide (x1 < 0))))] (by kernel_rfl) (AOK.cons (fun ρ a w hs hz hΓ hp => gp (d_move (hΓ 1 rfl))) (AOK.cons (fun ρ a w hs hz hΓ hp => gp (d_lss (hp 0 _ rfl rfl).1 (vI rfl))) AOK.nil rfl) rfl) (fun vs2 => ?_)
  refine T.nil ?_
  refine T.norm ?_
  refine T.cond (b := (decide (x1 < 0))) (fun _ _ h => h) (fun hc => ?_) (fun hc => ?_)
  · replace hF := iteT hF hc
    refine T.seq ?_
    refine T.region mix 1 [4] [0] [(sp (TB.sv false))] (by kernel_rfl) (AOK.cons (fun ρ a w hs hz hΓ hp => gp (d_assign (vB _))) AOK.nil rfl) (fun vs3 => ?_)
    refine T.nil ?_
    refine T.norm ?_
    refine T.ret ?_
    obtain rfl := Option.some.inj hF
    refine T.fin0 fun ρ a w st => ?_
    exact ⟨_, results_one rfl rfl, (st.env 4)⟩
  · replace hF := iteF hF hc
    refine T.skip ?_
    refine T.norm ?_
    refine T.seq ?_
    refine T.seq ?_
    refine T.region mix 1 [7] [0] [(sp ((TI .i8).sv x0))] (by kernel_rfl) (AOK.cons (fun ρ a w hs hz hΓ hp => gp (d_move (hΓ 0 rfl))) AOK.nil rfl) (fun vs4 => ?_)
    refine T.nil ?_
    refine T.norm ?_
    refine T.block ?_
    refine T.seq ?_
    refine T.region mix 2 [9, 8] [0, 1] [(sp (TB.sv (decide (x0 = 0)))), (sp (TB.sv (decide (x0 = 0))))] (by kernel_rfl) (AOK.cons (fun ρ a w hs hz hΓ hp => gp (d_eql (hΓ 7 rfl) (vI rfl))) (AOK.cons (fun ρ a w hs hz hΓ hp => gp (d_assign (hp 0 _ rfl rfl).1)) AOK.nil rfl) rfl) (fun vs5 => ?_)
    refine T.nil ?_
    refine T.norm ?_
    refine T.cond (b := (decide (x0 = 0))) (fun _ _ h => h) (fun hc => ?_) (fun hc => ?_)
    · replace hF := iteT hF hc
      refine T.seq ?_
      refine T.region mix 1 [4] [0] [(sp (TB.sv true))] (by kernel_rfl) (AOK.cons (fun ρ a w hs hz hΓ hp => gp (d_assign (vB _))) AOK.nil rfl) (fun vs6 => ?_)
      refine T.nil ?_
      refine T.norm ?_
      refine T.ret ?_
      obtain rfl := Option.some.inj hF
      refine T.fin0 fun ρ a w st => ?_
      exact ⟨_, results_one rfl rfl, (st.env 4)⟩
    · replace hF := iteF hF hc
      refine T.seq ?_
      refine T.region mix 2 [11, 10] [0, 1] [(sp (TB.sv (decide (x0 = 1)))), (sp (TB.sv (decide (x0 = 1))))] (by kernel_rfl) (AOK.cons (fun ρ a w hs hz hΓ hp => gp (d_eql (hΓ 7 rfl) (vI rfl))) (AOK.cons (fun ρ a w hs hz hΓ hp => gp (d_assign (hp 0 _ rfl rfl).1)) AOK.nil rfl) rfl) (fun vs7 => ?_)
      refine T.nil ?_
      refine T.norm ?_
      refine T.cond (b := (decide (x0 = 1))) (fun _ _ h => h) (fun hc => ?_) (fun hc => ?_)
      · replace hF := iteT hF hc
        refine T.seq ?_
        refine T.region mix 4 [12, 13, 14, 4] [0, 1, 3, 7] [(sp ((TI .i64).sv x1)), (sp ((TI .i64).sv (Int.tmod x1 6))), (sp (TB.sv (decide ((Int.tmod x1 6) < 4)))), (sp (TB.sv (decide ((Int.tmod x1 6) < 4))))] (by kernel_rfl) (AOK.cons (fun ρ a w hs hz hΓ hp => gp (d_move (hΓ 1 rfl))) (AOK.cons (fun ρ a w hs hz hΓ hp => gp (d_rem (hp 0 _ rfl rfl).1 (vI rfl) (by decide))) (AOK.cons (fun ρ a w hs hz hΓ hp => gp (d_lss (hp 1 _ rfl rfl).1 (vI rfl))) (AOK.cons (fun ρ a w hs hz hΓ hp => gp (d_assign (hp 2 _ rfl rfl).1)) AOK.nil rfl) rfl) rfl) rfl) (fun vs8 => ?_)
        refine T.nil ?_
        refine T.norm ?_
        refine T.ret ?_
        obtain rfl := Option.some.inj hF
        refine T.fin0 fun ρ a w st => ?_
        exact ⟨_, results_one rfl rfl, (st.env 4)⟩
      · replace hF := iteF hF hc
        refine T.seq ?_
        refine T.region mix 2 [16, 15] [0, 1] [(sp (TB.sv (decide (x0 = 2)))), (sp (TB.sv (decide (x0 = 2))))] (by kernel_rfl) (AOK.cons (fun ρ a w hs hz hΓ hp => gp (d_eql (hΓ 7 rfl) (vI rfl))) (AOK.cons (fun ρ a w hs hz hΓ hp => gp (d_assign (hp 0 _ rfl rfl).1)) AOK.nil rfl) rfl) (fun vs9 => ?_)
        refine T.nil ?_
        refine T.norm ?_
        refine T.cond (b := (decide (x0 = 2))) (fun _ _ h => h) (fun hc => ?_) (fun hc => ?_)
        · replace hF := iteT hF hc
          refine T.seq ?_
          refine T.region mix 4 [17, 18, 19, 4] [0, 1, 3, 7] [(sp ((TI .i64).sv x1)), (sp ((TI .i64).sv (Int.tmod x1 2))), (sp (TB.sv (decide ((Int.tmod x1 2) = 0)))), (sp (TB.sv (decide ((Int.tmod x1 2) = 0))))] (by kernel_rfl) (AOK.cons (fun ρ a w hs hz hΓ hp => gp (d_move (hΓ 1 rfl))) (AOK.cons (fun ρ a w hs hz hΓ hp => gp (d_rem (hp 0 _ rfl rfl).1 (vI rfl) (by decide))) (AOK.cons (fun ρ a w hs hz hΓ hp => gp (d_eql (hp 1 _ rfl rfl).1 (vI rfl))) (AOK.cons (fun ρ a w hs hz hΓ hp => gp (d_assign (hp 2 _ rfl rfl).1)) AOK.nil rfl) rfl) rfl) rfl) (fun vs10 => ?_)
          refine T.nil ?_
          refine T.norm ?_
          refine T.ret ?_
          obtain rfl := Option.some.inj hF
          refine T.fin0 fun ρ a w st => ?_
          exact ⟨_, results_one rfl rfl, (st.env 4)⟩
        · replace hF := iteF hF hc
          refine T.seq ?_
          refine T.region mix 2 [21, 20] [0, 1] [(sp (TB.sv (decide (x0 = 3)))), (sp (TB.sv (decide (x0 = 3))))] (by kernel_rfl) (AOK.cons (fun ρ a w hs hz hΓ hp => gp (d_eql (hΓ 7 rfl) (vI rfl))) (AOK.cons (fun ρ a w hs hz hΓ hp => gp (d_assign (hp 0 _ rfl rfl).1)) AOK.nil rfl) rfl) (fun vs11 => ?_)
          refine T.nil ?_
          refine T.norm ?_
          refine T.cond (b := (decide (x0 = 3))) (fun _ _ h => h) (fun hc => ?_) (fun hc => ?_)
          · replace hF := iteT hF hc
            refine T.seq ?_
            refine T.region mix 9 [22, 23, 24, 25, 26, 27, 28, 29, 4] [0, 1, 3, 7, 15, 31, 63, 127, 255] [(sp ((TI .i64).sv x1)), (sp ((TI .i64).sv (Int.tmod x1 8))), (sp (TB.sv (decide ((Int.tmod x1 8) < 5)))), (sp (TB.sv (decide ((Int.tmod x1 8) < 5)))), (sp (SRel.when ((decide ((Int.tmod x1 8) < 5)) = false) ((TI .i64).sv x1))), (sp (SRel.when ((decide ((Int.tmod x1 8) < 5)) = false) ((TI .i64).sv (Int.tmod x1 8)))), (sp (SRel.when ((decide ((Int.tmod x1 8) < 5)) = false) (TB.sv (decide ((Int.tmod x1 8) = 6))))), (sp (TB.sv ((decide ((Int.tmod x1 8) < 5)) || (decide ((Int.tmod x1 8) = 6))))), (sp (TB.sv ((decide ((Int.tmod x1 8) < 5)) || (decide ((Int.tmod x1 8) = 6)))))] (by kernel_rfl) (AOK.cons (fun ρ a w hs hz hΓ hp => gp (d_move (hΓ 1 rfl))) (AOK.cons (fun ρ a w hs hz hΓ hp => gp (d_rem (hp 0 _ rfl rfl).1 (vI rfl) (by decide))) (AOK.cons (fun ρ a w hs hz hΓ hp => gp (d_lss (hp 1 _ rfl rfl).1 (vI rfl))) (AOK.cons (fun ρ a w hs hz hΓ hp => gp (d_move (hp 2 _ rfl rfl).1)) (AOK.cons (fun ρ a w hs hz hΓ hp => gg (g := 3) (d := 25) hz rfl (hp 3 _ rfl rfl).1 rfl (fun hc => d_move (hΓ 1 rfl))) (AOK.cons (fun ρ a w hs hz hΓ hp => gg (g := 3) (d := 25) hz rfl (hp 3 _ rfl rfl).1 rfl (fun hc => d_rem ((hp 4 _ rfl rfl).1 hc) (vI rfl) (by decide))) (AOK.cons (fun ρ a w hs hz hΓ hp => gg (g := 3) (d := 25) hz rfl (hp 3 _ rfl rfl).1 rfl (fun hc => d_eql ((hp 5 _ rfl rfl).1 hc) (vI rfl))) (AOK.cons (fun ρ a w hs hz hΓ hp => gp (d_pick (hp 3 _ rfl rfl).1 (fun hc => pON hc) (fun hc => pO hc ((hp 6 _ rfl rfl).1 hc)))) (AOK.cons (fun ρ a w hs hz hΓ hp => gp (d_assign (hp 7 _ rfl rfl).1)) AOK.nil rfl) rfl) rfl) rfl) rfl) rfl) rfl) rfl) rfl) (fun vs12 => ?_)
            refine T.nil ?_
            refine T.norm ?_
            refine T.ret ?_
            obtain rfl := Option.some.inj hF
            refine T.fin0 fun ρ a w st => ?_
            exact ⟨_, results_one rfl rfl, (st.env 4)⟩
          · replace hF := iteF hF hc
            refine T.skip ?_
            refine T.fallX ?_
            refine T.norm ?_
            refine T.seq ?_
            refine T.region mix 1 [4] [0] [(sp (TB.sv false))] (by kernel_rfl) (AOK.cons (fun ρ a w hs hz hΓ hp => gp (d_assign (vB _))) AOK.nil rfl) (fun vs13 => ?_)
            refine T.nil ?_
            refine T.norm ?_
            refine T.ret ?_
            obtain rfl := Option.some.inj hF
            refine T.fin0 fun ρ a w st => ?_
            exact ⟨_, results_one rfl rfl, (st.env 4)⟩

theorem c122 (w : World) (v0 v1 v2 : Value) {x0 : (List Int)} {x1 : ((List Int) × (List Int) × Int)} {x2 : Bool} {r : (List Int)} (hF : impl_Sheet_draw x0 x1 x2 = some r) (hm : (boxR 45 Y42 x0 v0).holds (snapX (blkOf v0).toList w) w) (h1 : Y104.val (snapX (blkOf v0).toList w) v1 x1) (h2 : TB.val (snapX (blkOf v0).toList w) v2 x2) :
    Calls Try.prog 122 #[v0, v1, v2] w (RetM (blkOf v0).toList w SRel.any (boxR 45 Y42 r v0)) := by
  unfold impl_Sheet_draw at hF
  refine start (args := [v0, v1, v2]) Try.func122 rfl 25 rfl (blkOf v0).toList [(0, (SRel.eq v0)), (1, (Y104.sv x1)), (2, (TB.sv x2))] [(1, (boxR 45 Y42 x0 v0))] (sat_mut (r := (boxR 45 Y42 x0 v0)) 1 hm) rfl (args1 rfl rfl (args1 rfl h1 (args1 rfl h2 (args0)))) ?_
  refine T.seq ?_
  refine T.region mix 1 [4] [0] [(sp ((TP Y104).sv x1))] (by kernel_rfl) (AOK.cons (fun ρ a w hs hz hΓ hp => gp (d_box hs.le (hΓ 1 rfl))) AOK.nil rfl) (fun vs1 => ?_)
  refine T.nil ?_
  refine T.norm ?_
  refine T.seq ?_
  obtain ⟨x9, e3, hF⟩ := bindS hF
  refine T.region mix 4 [8, 9, 10, 11] [0, 1, 3, 0] [(sp (Y104.sv x1)), (sp (Y49.sv x9)), (sp ((TI .i64).sv (x9.length : Int))), (sp ((TI .i64).sv 0))] (by kernel_rfl) (AOK.cons (fun ρ a w hs hz hΓ hp => gp (d_load y84 hs.le (hΓ 4 rfl))) (AOK.cons (fun ρ a w hs hz hΓ hp => gp (d_callR fn107 hs.le mapA1 (c107 w _ hs.le e3 ((hp 0 _ rfl rfl).1)))) (AOK.cons (fun ρ a w hs hz hΓ hp => gp (d_lenR u49 (hp 1 _ rfl rfl).1)) (AOK.cons (fun ρ a w hs hz hΓ hp => gp (d_move (vI rfl))) AOK.nil rfl) rfl) rfl) rfl) (fun vs2 => ?_)
  refine T.nil ?_
  refine T.norm ?_
  obtain ⟨yl4, e5, hF⟩ := bindS hF
  refine T.joinD (ι := (Int × (List Int)) × (Unit)) (fun p => yl4 = p.1) (Γ' := fun p => E []) (H' := fun p => HL [(1, (boxR 45 Y42 p.1.2 v0))]) (fun p hy => ?_) (fun hk => ?_)
  · obtain ⟨⟨o11, or1⟩, _⟩ := p
    cases hy
    refine T.atEnd ?_
    obtain rfl := Option.some.inj hF
    refine T.finM fun ρ a w st => ?_
    exact ⟨_, results_no rfl, fun σ => trivial, mut_on st.sat 1 rfl (loose_boxR (flat_TArr (flat_TI _))) rfl⟩
  · skip
    refine T.block ?_
    refine T.loop (f := impl_Sheet_draw_l1 x1 x2 x9) (σ := (Int × (List Int))) (Z := Unit) (fun s z => E [(0, (SRel.eq v0)), (2, (TB.sv x2)), (4, ((TP Y104).sv x1)), (9, (Y49.sv x9)), (10, ((TI .i64).sv (x9.length : Int))), (11, ((TI .i64).sv s.1))]) (fun s z => HL [(1, (boxR 45 Y42 s.2 v0))]) e5 () (fun φ h => T.toh h ⟨fun _ _ h => h, fun _ _ h => h, fun _ _ h => h, fun _ _ h => h, fun _ _ h => h, fun _ _ h => h, trivial⟩ ⟨rfl, trivial⟩) (fun k s z uu4 hu4 hn4 => ?_)
    obtain ⟨s11, sr1⟩ := s
    dsimp only [impl_Sheet_draw_l1] at hu4
    refine T.seq ?_
    refine T.region mix 1 [12] [0] [(sp (TB.sv (decide (s11 < (x9.length : Int)))))] (by kernel_rfl) (AOK.cons (fun ρ a w hs hz hΓ hp => gp (d_lss (hΓ 11 rfl) (hΓ 10 rfl))) AOK.nil rfl) (fun vs6 => ?_)
    refine T.nil ?_
    refine T.norm ?_
    refine T.seq ?_
    refine T.cond (b := (decide (s11 < (x9.length : Int)))) (fun _ _ h => h) (fun hc => ?_) (fun hc => ?_)
    · replace hu4 := iteT hu4 hc
      refine T.skip ?_
      refine T.norm ?_
      refine T.seq ?_
      refine T.block ?_
      refine T.seq ?_
      obtain ⟨x14, e8, hu4⟩ := bindS hu4
      refine T.region mix 5 [13, 14, 15, 7, 6] [0, 0, 2, 0, 15, 31] [(sp ((TI .i64).sv s11)), (sp ((TP Y24).sv x14)), (sp (Y24.sv x14)), (sO SRel.any [(2, (boxR 32 Y24 (List.replicate 2 0)))]), (sp ((TI .i64).sv s11))] (by kernel_rfl) (AOK.cons (fun ρ a w hs hz hΓ hp => gp (d_move (hΓ 11 rfl))) (AOK.cons (fun ρ a w hs hz hΓ hp => gp (d_idxR u49 y32 (hΓ 9 rfl) (hΓ 11 rfl) e8)) (AOK.cons (fun ρ a w hs hz hΓ hp => gp (d_load y32 hs.le (hp 1 _ rfl rfl).1)) (AOK.cons (fun ρ a w hs hz hΓ hp => g_alloc hs.le z32 zc32) (AOK.cons (fun ρ a w hs hz hΓ hp => gp (d_assign (hp 0 _ rfl rfl).1)) AOK.nil rfl) rfl) rfl) rfl) rfl) (fun vs7 => ?_)
      refine T.store 2 y32 rfl (fun ρ a w st => ⟨.inl ⟨(st.env 7).1, rfl⟩, (st.env 15)⟩) (At.refl Y24 (List.replicate 2 0)) ?_
      refine T.nil ?_
      refine T.norm ?_
      refine T.seq ?_
      obtain ⟨x19, e10, hu4⟩ := bindS hu4
      refine T.region mix 4 [16, 17, 18, 19] [0, 1, 0, 7] [(sp ((TP (TI .i8)).sv x1.2.2)), (sp ((TI .i8).sv x1.2.2)), (sp ((TI .i64).sv s11)), (sp (TB.sv x19))] (by kernel_rfl) (AOK.cons (fun ρ a w hs hz hΓ hp => gp (d_fieldP fa84_2 (hΓ 4 rfl) (At.snd (At.snd (At.refl _ _))))) (AOK.cons (fun ρ a w hs hz hΓ hp => gp (d_load y82 hs.le (hp 0 _ rfl rfl).1)) (AOK.cons (fun ρ a w hs hz hΓ hp => gp (d_move (hΓ 6 rfl))) (AOK.cons (fun ρ a w hs hz hΓ hp => gp (d_call fn146 hs.le mapA2 (c146 w _ _ hs.le e10 ((hp 1 _ rfl rfl).1) ((hp 2 _ rfl rfl).1)))) AOK.nil rfl) rfl) rfl) rfl) (fun vs9 => ?_)
      refine T.nil ?_
      refine T.norm ?_
      obtain ⟨r1, e11, hu4⟩ := bindS hu4
      refine T.joinS (Γ' := fun (z : Unit) => E [(0, (SRel.eq v0)), (2, (TB.sv x2)), (4, ((TP Y104).sv x1)), (9, (Y49.sv x9)), (10, ((TI .i64).sv (x9.length : Int))), (11, ((TI .i64).sv s11))]) (H' := fun (z : Unit) => HL [(1, (boxR 45 Y42 r1 v0))]) (fun zz => ?_) (fun hk => ?_)
      · skip
        refine T.fallX ?_
        refine T.norm ?_
        refine T.region mix 2 [24, 11] [0, 1] [(sp ((TI .i64).sv (IntKind.i64.wrap (s11 + 1)))), (sp ((TI .i64).sv (IntKind.i64.wrap (s11 + 1))))] (by kernel_rfl) (AOK.cons (fun ρ a w hs hz hΓ hp => gp (d_add (hΓ 11 rfl) (vI rfl))) (AOK.cons (fun ρ a w hs hz hΓ hp => gp (d_move (hp 0 _ rfl rfl).1)) AOK.nil rfl) rfl) (fun vs12 => ?_)
        refine T.nil ?_
        obtain rfl := Option.some.inj hu4
        exact T.again hn4 () (fun φ h => T.toh h ⟨fun _ _ h => h, fun _ _ h => h, fun _ _ h => h, fun _ _ h => h, fun _ _ h => h, fun _ _ h => h, trivial⟩ ⟨rfl, trivial⟩)
      · refine T.cond (b := x19) (fun _ _ h => h) (fun hc => ?_) (fun hc => ?_)
        · replace e11 := iteT e11 hc
          refine T.region mix 3 [20, 21, 22] [0, 0, 0, 7] [(sp (SRel.eq v0)), (sp (Y24.sv x14)), (sp (TB.sv x2))] (by kernel_rfl) (AOK.cons (fun ρ a w hs hz hΓ hp => gp (d_move (hΓ 0 rfl))) (AOK.cons (fun ρ a w hs hz hΓ hp => gp (d_loadO y32 hs 2 rfl (.inl ⟨(hΓ 7 rfl).1, rfl⟩) (At.refl Y24 x14))) (AOK.cons (fun ρ a w hs hz hΓ hp => gp (d_move (hΓ 2 rfl))) AOK.nil rfl) rfl) rfl) (fun vs13 => ?_)
          obtain ⟨x23, e14, e11⟩ := bindS e11
          refine T.callB (R := SRel.any) (r := (boxR 45 Y42 sr1 v0)) (r' := (boxR 45 Y42 x23 v0)) 1 fn121 rfl rfl (loose_boxR (flat_TArr (flat_TI _))) (loose_boxR (flat_TArr (flat_TI _))) rfl (fun ρ a w st hle hm => ?_) ?_
          · rw [mapA3]; exact call_at (r := boxR 45 Y42 x23) (st.env 20) (c121 w _ _ _  e14 (hm_at (r := boxR 45 Y42 sr1) (st.env 20) hm) (Ty.val_mono _ (le_at (st.env 20) hle) (st.env 21)) (Ty.val_mono _ (le_at (st.env 20) hle) (st.env 22)))
          refine T.nil ?_
          cases e11
          exact T.toh (hk ()) ⟨fun _ _ h => h, fun _ _ h => h, fun _ _ h => h, fun _ _ h => h, fun _ _ h => h, fun _ _ h => h, trivial⟩ ⟨rfl, trivial⟩
        · replace e11 := iteF e11 hc
          refine T.skip ?_
          cases e11
          exact T.toh (hk ()) ⟨fun _ _ h => h, fun _ _ h => h, fun _ _ h => h, fun _ _ h => h, fun _ _ h => h, fun _ _ h => h, trivial⟩ ⟨rfl, trivial⟩
    · replace hu4 := iteF hu4 hc
      refine T.exit ?_
      obtain rfl := Option.some.inj hu4
      repeat (first | refine T.passX ?_ | refine T.inX (by decide) ?_)
      refine T.hereX ?_
      exact T.toh (hk ((s11, sr1), ()) (Eq.symm hn4)) trivial ⟨rfl, trivial⟩

theorem c73 (w : World) (v0 v1 v2 : Value) {x0 : (List Int)} {x1 : (List (List Int))} {x2 : Bool} {r : (List Int)} (hF : impl_Sheet_fill x0 x1 x2 = some r) (hm : (boxR 45 Y42 x0 v0).holds (snapX (blkOf v0).toList w) w) (h1 : Y49.val (snapX (blkOf v0).toList w) v1 x1) (h2 : TB.val (snapX (blkOf v0).toList w) v2 x2) :
    Calls Try.prog 73 #[v0, v1, v2] w (RetM (blkOf v0).toList w SRel.any (boxR 45 Y42 r v0)) := by
  unfold impl_Sheet_fill at hF
  refine start (args := [v0, v1, v2]) Try.func73 rfl 43 rfl (blkOf v0).toList [(0, (SRel.eq v0)), (1, (Y49.sv x1)), (2, (TB.sv x2))] [(1, (boxR 45 Y42 x0 v0))] (sat_mut (r := (boxR 45 Y42 x0 v0)) 1 hm) rfl (args1 rfl rfl (args1 rfl h1 (args1 rfl h2 (args0)))) ?_
  refine T.seq ?_
  obtain ⟨x13, e2, hF⟩ := bindS hF
  refine T.region mix 3 [12, 13, 6] [0, 1, 3] [(sp (Y49.sv x1)), (sp (Y22.sv x13)), (sp (Y22.sv x13))] (by kernel_rfl) (AOK.cons (fun ρ a w hs hz hΓ hp => gp (d_move (hΓ 1 rfl))) (AOK.cons (fun ρ a w hs hz hΓ hp => gp (d_callR fn102 hs.le mapA1 (c102 w _ hs.le e2 ((hp 0 _ rfl rfl).1)))) (AOK.cons (fun ρ a w hs hz hΓ hp => gp (d_assign (hp 1 _ rfl rfl).1)) AOK.nil rfl) rfl) rfl) (fun vs1 => ?_)
  refine T.nil ?_
  refine T.norm ?_
  refine T.seq ?_
  refine T.seq ?_
  refine T.region mix 1 [14] [0] [(sp ((TI .i16).sv 0))] (by kernel_rfl) (AOK.cons (fun ρ a w hs hz hΓ hp => gp (d_move (vI rfl))) AOK.nil rfl) (fun vs3 => ?_)
  refine T.nil ?_
  refine T.norm ?_
  obtain ⟨yl4, e5, hF⟩ := bindS hF
  refine T.joinD (ι := (Int × (List Int)) × (Unit)) (fun p => yl4 = p.1) (Γ' := fun p => E [(0, (SRel.eq v0)), (2, (TB.sv x2)), (6, (Y22.sv x13))]) (H' := fun p => HL [(1, (boxR 45 Y42 p.1.2 v0))]) (fun p hy => ?_) (fun hk => ?_)
  · obtain ⟨⟨o14, or1⟩, _⟩ := p
    cases hy
    refine T.norm ?_
    refine T.seq ?_
    refine T.region mix 3 [32, 33, 34] [0, 1, 0] [(sp (Y22.sv x13)), (sp ((TI .i64).sv (x13.length : Int))), (sp ((TI .i64).sv 0))] (by kernel_rfl) (AOK.cons (fun ρ a w hs hz hΓ hp => gp (d_move (hΓ 6 rfl))) (AOK.cons (fun ρ a w hs hz hΓ hp => gp (d_lenR u30 (hp 0 _ rfl rfl).1)) (AOK.cons (fun ρ a w hs hz hΓ hp => gp (d_move (vI rfl))) AOK.nil rfl) rfl) rfl) (fun vs6 => ?_)
    refine T.nil ?_
    refine T.norm ?_
    obtain ⟨yl7, e8, hF⟩ := bindS hF
    refine T.joinD (ι := (Int × (List Int)) × (Unit)) (fun p => yl7 = p.1) (Γ' := fun p => E []) (H' := fun p => HL [(1, (boxR 45 Y42 p.1.2 v0))]) (fun p hy => ?_) (fun hk => ?_)
    · obtain ⟨⟨o34, or1_10⟩, _⟩ := p
      cases hy
      refine T.atEnd ?_
      obtain rfl := Option.some.inj hF
      refine T.finM fun ρ a w st => ?_
      exact ⟨_, results_no rfl, fun σ => trivial, mut_on st.sat 1 rfl (loose_boxR (flat_TArr (flat_TI _))) rfl⟩
    · skip
      refine T.block ?_
      refine T.loop (f := impl_Sheet_fill_l2 x2 x13) (σ := (Int × (List Int))) (Z := Unit) (fun s z => E [(0, (SRel.eq v0)), (2, (TB.sv x2)), (32, (Y22.sv x13)), (33, ((TI .i64).sv (x13.length : Int))), (34, ((TI .i64).sv s.1))]) (fun s z => HL [(1, (boxR 45 Y42 s.2 v0))]) e8 () (fun φ h => T.toh h ⟨fun _ _ h => h, fun _ _ h => h, fun _ _ h => h, fun _ _ h => h, fun _ _ h => h, trivial⟩ ⟨rfl, trivial⟩) (fun k s z uu7 hu7 hn7 => ?_)
      obtain ⟨s34, sr1_9⟩ := s
      dsimp only [impl_Sheet_fill_l2] at hu7
      refine T.seq ?_
      refine T.region mix 1 [35] [0] [(sp (TB.sv (decide (s34 < (x13.length : Int)))))] (by kernel_rfl) (AOK.cons (fun ρ a w hs hz hΓ hp => gp (d_lss (hΓ 34 rfl) (hΓ 33 rfl))) AOK.nil rfl) (fun vs11 => ?_)
      refine T.nil ?_
      refine T.norm ?_
      refine T.seq ?_
      refine T.cond (b := (decide (s34 < (x13.length : Int)))) (fun _ _ h => h) (fun hc => ?_) (fun hc => ?_)
      · replace hu7 := iteT hu7 hc
        refine T.skip ?_
        refine T.norm ?_
        refine T.seq ?_
        refine T.block ?_
        refine T.seq ?_
        obtain ⟨x36, e13, hu7⟩ := bindS hu7
        refine T.region mix 3 [36, 37, 11] [0, 1, 0, 7] [(sp ((TP Y104).sv x36)), (sp (Y104.sv x36)), (sO SRel.any [(2, (boxR 84 Y104 ((List.replicate 2 0), (List.replicate 2 0), 0)))])] (by kernel_rfl) (AOK.cons (fun ρ a w hs hz hΓ hp => gp (d_idxR u30 y84 (hΓ 32 rfl) (hΓ 34 rfl) e13)) (AOK.cons (fun ρ a w hs hz hΓ hp => gp (d_load y84 hs.le (hp 0 _ rfl rfl).1)) (AOK.cons (fun ρ a w hs hz hΓ hp => g_alloc hs.le z84 zc84) AOK.nil rfl) rfl) rfl) (fun vs12 => ?_)
        refine T.store 2 y84 rfl (fun ρ a w st => ⟨.inl ⟨(st.env 11).1, rfl⟩, (st.env 37)⟩) (At.refl Y104 ((List.replicate 2 0), (List.replicate 2 0), 0)) ?_
        refine T.nil ?_
        refine T.norm ?_
        refine T.region mix 3 [38, 39, 40] [0, 0, 0, 7] [(sp (SRel.eq v0)), (sp (Y104.sv x36)), (sp (TB.sv x2))] (by kernel_rfl) (AOK.cons (fun ρ a w hs hz hΓ hp => gp (d_move (hΓ 0 rfl))) (AOK.cons (fun ρ a w hs hz hΓ hp => gp (d_loadO y84 hs 2 rfl (.inl ⟨(hΓ 11 rfl).1, rfl⟩) (At.refl Y104 x36))) (AOK.cons (fun ρ a w hs hz hΓ hp => gp (d_move (hΓ 2 rfl))) AOK.nil rfl) rfl) rfl) (fun vs14 => ?_)
        obtain ⟨x41, e15, hu7⟩ := bindS hu7
        refine T.callB (R := SRel.any) (r := (boxR 45 Y42 sr1_9 v0)) (r' := (boxR 45 Y42 x41 v0)) 1 fn122 rfl rfl (loose_boxR (flat_TArr (flat_TI _))) (loose_boxR (flat_TArr (flat_TI _))) rfl (fun ρ a w st hle hm => ?_) ?_
        · rw [mapA3]; exact call_at (r := boxR 45 Y42 x41) (st.env 38) (c122 w _ _ _  e15 (hm_at (r := boxR 45 Y42 sr1_9) (st.env 38) hm) (Ty.val_mono _ (le_at (st.env 38) hle) (st.env 39)) (Ty.val_mono _ (le_at (st.env 38) hle) (st.env 40)))
        refine T.nil ?_
        refine T.fallX ?_
        refine T.norm ?_
        refine T.region mix 2 [42, 34] [0, 1] [(sp ((TI .i64).sv (IntKind.i64.wrap (s34 + 1)))), (sp ((TI .i64).sv (IntKind.i64.wrap (s34 + 1))))] (by kernel_rfl) (AOK.cons (fun ρ a w hs hz hΓ hp => gp (d_add (hΓ 34 rfl) (vI rfl))) (AOK.cons (fun ρ a w hs hz hΓ hp => gp (d_move (hp 0 _ rfl rfl).1)) AOK.nil rfl) rfl) (fun vs16 => ?_)
        refine T.nil ?_
        obtain rfl := Option.some.inj hu7
        exact T.again hn7 () (fun φ h => T.toh h ⟨fun _ _ h => h, fun _ _ h => h, fun _ _ h => h, fun _ _ h => h, fun _ _ h => h, trivial⟩ ⟨rfl, trivial⟩)
      · replace hu7 := iteF hu7 hc
        refine T.exit ?_
        obtain rfl := Option.some.inj hu7
        repeat (first | refine T.passX ?_ | refine T.inX (by decide) ?_)
        refine T.hereX ?_
        exact T.toh (hk ((s34, sr1_9), ()) (Eq.symm hn7)) trivial ⟨rfl, trivial⟩
  · skip
    refine T.block ?_
    refine T.loop (f := impl_Sheet_fill_l1 x2 x13) (σ := (Int × (List Int))) (Z := Unit) (fun s z => E [(0, (SRel.eq v0)), (2, (TB.sv x2)), (6, (Y22.sv x13)), (14, ((TI .i16).sv s.1))]) (fun s z => HL [(1, (boxR 45 Y42 s.2 v0))]) e5 () (fun φ h => T.toh h ⟨fun _ _ h => h, fun _ _ h => h, fun _ _ h => h, fun _ _ h => h, trivial⟩ ⟨rfl, trivial⟩) (fun k s z uu4 hu4 hn4 => ?_)
    obtain ⟨s14, sr1⟩ := s
    dsimp only [impl_Sheet_fill_l1] at hu4
    refine T.seq ?_
    refine T.region mix 1 [15] [0] [(sp (TB.sv (decide (s14 < 64))))] (by kernel_rfl) (AOK.cons (fun ρ a w hs hz hΓ hp => gp (d_lss (hΓ 14 rfl) (vI rfl))) AOK.nil rfl) (fun vs17 => ?_)
    refine T.nil ?_
    refine T.norm ?_
    refine T.seq ?_
    refine T.cond (b := (decide (s14 < 64))) (fun _ _ h => h) (fun hc => ?_) (fun hc => ?_)
    · replace hu4 := iteT hu4 hc
      refine T.skip ?_
      refine T.norm ?_
      refine T.seq ?_
      refine T.block ?_
      refine T.seq ?_
      refine T.region mix 2 [16, 7] [0, 1] [(sp ((TI .i16).sv s14)), (sp ((TI .i16).sv s14))] (by kernel_rfl) (AOK.cons (fun ρ a w hs hz hΓ hp => gp (d_move (hΓ 14 rfl))) (AOK.cons (fun ρ a w hs hz hΓ hp => gp (d_assign (hp 0 _ rfl rfl).1)) AOK.nil rfl) rfl) (fun vs18 => ?_)
      refine T.nil ?_
      refine T.norm ?_
      refine T.seq ?_
      refine T.region mix 1 [17] [0] [(sp ((TI .i16).sv 0))] (by kernel_rfl) (AOK.cons (fun ρ a w hs hz hΓ hp => gp (d_move (vI rfl))) AOK.nil rfl) (fun vs19 => ?_)
      refine T.nil ?_
      refine T.norm ?_
      obtain ⟨yl20, e21, hu4⟩ := bindS hu4
      refine T.joinD (ι := (Int × (List Int)) × (Unit)) (fun p => yl20 = p.1) (Γ' := fun p => E [(0, (SRel.eq v0)), (2, (TB.sv x2)), (6, (Y22.sv x13)), (14, ((TI .i16).sv s14))]) (H' := fun p => HL [(1, (boxR 45 Y42 p.1.2 v0))]) (fun p hy => ?_) (fun hk => ?_)
      · obtain ⟨⟨o17, or1_23⟩, _⟩ := p
        cases hy
        refine T.fallX ?_
        refine T.norm ?_
        refine T.region mix 2 [31, 14] [0, 1] [(sp ((TI .i16).sv (IntKind.i16.wrap (s14 + 1)))), (sp ((TI .i16).sv (IntKind.i16.wrap (s14 + 1))))] (by kernel_rfl) (AOK.cons (fun ρ a w hs hz hΓ hp => gp (d_add (hΓ 14 rfl) (vI rfl))) (AOK.cons (fun ρ a w hs hz hΓ hp => gp (d_move (hp 0 _ rfl rfl).1)) AOK.nil rfl) rfl) (fun vs24 => ?_)
        refine T.nil ?_
        obtain rfl := Option.some.inj hu4
        exact T.again hn4 () (fun φ h => T.toh h ⟨fun _ _ h => h, fun _ _ h => h, fun _ _ h => h, fun _ _ h => h, trivial⟩ ⟨rfl, trivial⟩)
      · skip
        refine T.block ?_
        refine T.loop (f := impl_Sheet_fill_l3 x2 x13 s14) (σ := (Int × (List Int))) (Z := Unit) (fun s z => E [(0, (SRel.eq v0)), (2, (TB.sv x2)), (6, (Y22.sv x13)), (7, ((TI .i16).sv s14)), (14, ((TI .i16).sv s14)), (17, ((TI .i16).sv s.1))]) (fun s z => HL [(1, (boxR 45 Y42 s.2 v0))]) e21 () (fun φ h => T.toh h ⟨fun _ _ h => h, fun _ _ h => h, fun _ _ h => h, fun _ _ h => h, fun _ _ h => h, fun _ _ h => h, trivial⟩ ⟨rfl, trivial⟩) (fun k s z uu20 hu20 hn20 => ?_)
        obtain ⟨s17, sr1_22⟩ := s
        dsimp only [impl_Sheet_fill_l3] at hu20
        refine T.seq ?_
        refine T.region mix 1 [18] [0] [(sp (TB.sv (decide (s17 < 64))))] (by kernel_rfl) (AOK.cons (fun ρ a w hs hz hΓ hp => gp (d_lss (hΓ 17 rfl) (vI rfl))) AOK.nil rfl) (fun vs25 => ?_)
        refine T.nil ?_
        refine T.norm ?_
        refine T.seq ?_
        refine T.cond (b := (decide (s17 < 64))) (fun _ _ h => h) (fun hc => ?_) (fun hc => ?_)
        · replace hu20 := iteT hu20 hc
          refine T.skip ?_
          refine T.norm ?_
          refine T.seq ?_
          refine T.block ?_
          refine T.seq ?_
          refine T.region mix 2 [19, 8] [0, 1] [(sp ((TI .i16).sv s17)), (sp ((TI .i16).sv s17))] (by kernel_rfl) (AOK.cons (fun ρ a w hs hz hΓ hp => gp (d_move (hΓ 17 rfl))) (AOK.cons (fun ρ a w hs hz hΓ hp => gp (d_assign (hp 0 _ rfl rfl).1)) AOK.nil rfl) rfl) (fun vs26 => ?_)
          refine T.nil ?_
          refine T.norm ?_
          refine T.seq ?_
          refine T.region mix 4 [20, 21, 22, 9] [0, 0, 3, 0, 15] [(sp ((TI .i16).sv s17)), (sp ((TI .i16).sv s14)), (sp (Y24.sv ([s17, s14] : (List Int)))), (sO SRel.any [(3, (boxR 32 Y24 (List.replicate 2 0)))])] (by kernel_rfl) (AOK.cons (fun ρ a w hs hz hΓ hp => gp (d_move (hΓ 8 rfl))) (AOK.cons (fun ρ a w hs hz hΓ hp => gp (d_move (hΓ 7 rfl))) (AOK.cons (fun ρ a w hs hz hΓ hp => gp (d_buildA u32 y23 z32 zc32 (Fills.part rfl (hp 0 _ rfl rfl).1 (At.nth (At.refl _ _) 0 rfl) (Fills.part rfl (hp 1 _ rfl rfl).1 (At.nth (At.refl _ _) 1 rfl) (Fills.done _))))) (AOK.cons (fun ρ a w hs hz hΓ hp => g_alloc hs.le z32 zc32) AOK.nil rfl) rfl) rfl) rfl) (fun vs27 => ?_)
          refine T.store 3 y32 rfl (fun ρ a w st => ⟨.inl ⟨(st.env 9).1, rfl⟩, (st.env 22)⟩) (At.refl Y24 (List.replicate 2 0)) ?_
          refine T.nil ?_
          refine T.norm ?_
          refine T.seq ?_
          obtain ⟨x25, e29, hu20⟩ := bindS hu20
          refine T.region mix 3 [23, 24, 25] [0, 0, 3] [(sp (Y22.sv x13)), (sp (Y24.sv ([s17, s14] : (List Int)))), (sp (TB.sv x25))] (by kernel_rfl) (AOK.cons (fun ρ a w hs hz hΓ hp => gp (d_move (hΓ 6 rfl))) (AOK.cons (fun ρ a w hs hz hΓ hp => gp (d_loadO y32 hs 3 rfl (.inl ⟨(hΓ 9 rfl).1, rfl⟩) (At.refl Y24 ([s17, s14] : (List Int))))) (AOK.cons (fun ρ a w hs hz hΓ hp => gp (d_call fn120 hs.le mapA2 (c120 w _ _ hs.le e29 ((hp 0 _ rfl rfl).1) ((hp 1 _ rfl rfl).1)))) AOK.nil rfl) rfl) rfl) (fun vs28 => ?_)
          refine T.nil ?_
          refine T.norm ?_
          obtain ⟨r1, e30, hu20⟩ := bindS hu20
          refine T.joinS (Γ' := fun (z : Unit) => E [(0, (SRel.eq v0)), (2, (TB.sv x2)), (6, (Y22.sv x13)), (7, ((TI .i16).sv s14)), (14, ((TI .i16).sv s14)), (17, ((TI .i16).sv s17))]) (H' := fun (z : Unit) => HL [(1, (boxR 45 Y42 r1 v0))]) (fun zz => ?_) (fun hk => ?_)
          · skip
            refine T.fallX ?_
            refine T.norm ?_
            refine T.region mix 2 [30, 17] [0, 1] [(sp ((TI .i16).sv (IntKind.i16.wrap (s17 + 1)))), (sp ((TI .i16).sv (IntKind.i16.wrap (s17 + 1))))] (by kernel_rfl) (AOK.cons (fun ρ a w hs hz hΓ hp => gp (d_add (hΓ 17 rfl) (vI rfl))) (AOK.cons (fun ρ a w hs hz hΓ hp => gp (d_move (hp 0 _ rfl rfl).1)) AOK.nil rfl) rfl) (fun vs31 => ?_)
            refine T.nil ?_
            obtain rfl := Option.some.inj hu20
            exact T.again hn20 () (fun φ h => T.toh h ⟨fun _ _ h => h, fun _ _ h => h, fun _ _ h => h, fun _ _ h => h, fun _ _ h => h, fun _ _ h => h, trivial⟩ ⟨rfl, trivial⟩)
          · refine T.cond (b := x25) (fun _ _ h => h) (fun hc => ?_) (fun hc => ?_)
            · replace e30 := iteT e30 hc
              refine T.region mix 3 [26, 27, 28] [0, 0, 0, 7] [(sp (SRel.eq v0)), (sp (Y24.sv ([s17, s14] : (List Int)))), (sp (TB.sv x2))] (by kernel_rfl) (AOK.cons (fun ρ a w hs hz hΓ hp => gp (d_move (hΓ 0 rfl))) (AOK.cons (fun ρ a w hs hz hΓ hp => gp (d_loadO y32 hs 3 rfl (.inl ⟨(hΓ 9 rfl).1, rfl⟩) (At.refl Y24 ([s17, s14] : (List Int))))) (AOK.cons (fun ρ a w hs hz hΓ hp => gp (d_move (hΓ 2 rfl))) AOK.nil rfl) rfl) rfl) (fun vs32 => ?_)
              obtain ⟨x29, e33, e30⟩ := bindS e30
              refine T.callB (R := SRel.any) (r := (boxR 45 Y42 sr1_22 v0)) (r' := (boxR 45 Y42 x29 v0)) 1 fn121 rfl rfl (loose_boxR (flat_TArr (flat_TI _))) (loose_boxR (flat_TArr (flat_TI _))) rfl (fun ρ a w st hle hm => ?_) ?_
              · rw [mapA3]; exact call_at (r := boxR 45 Y42 x29) (st.env 26) (c121 w _ _ _  e33 (hm_at (r := boxR 45 Y42 sr1_22) (st.env 26) hm) (Ty.val_mono _ (le_at (st.env 26) hle) (st.env 27)) (Ty.val_mono _ (le_at (st.env 26) hle) (st.env 28)))
              refine T.nil ?_
              cases e30
              exact T.toh (hk ()) ⟨fun _ _ h => h, fun _ _ h => h, fun _ _ h => h, fun _ _ h => h, fun _ _ h => h, fun _ _ h => h, trivial⟩ ⟨rfl, trivial⟩
            · replace e30 := iteF e30 hc
              refine T.skip ?_
              cases e30
              exact T.toh (hk ()) ⟨fun _ _ h => h, fun _ _ h => h, fun _ _ h => h, fun _ _ h => h, fun _ _ h => h, fun _ _ h => h, trivial⟩ ⟨rfl, trivial⟩
        · replace hu20 := iteF hu20 hc
          refine T.exit ?_
          obtain rfl := Option.some.inj hu20
          repeat (first | refine T.passX ?_ | refine T.inX (by decide) ?_)
          refine T.hereX ?_
          exact T.toh (hk ((s17, sr1_22), ()) (Eq.symm hn20)) ⟨fun _ _ h => h, fun _ _ h => h, fun _ _ h => h, fun _ _ h => h, trivial⟩ ⟨rfl, trivial⟩
    · replace hu4 := iteF hu4 hc
      refine T.exit ?_
      obtain rfl := Option.some.inj hu4
      repeat (first | refine T.passX ?_ | refine T.inX (by decide) ?_)
      refine T.hereX ?_
      exact T.toh (hk ((s14, sr1), ()) (Eq.symm hn4)) ⟨fun _ _ h => h, fun _ _ h => h, fun _ _ h => h, trivial⟩ ⟨rfl, trivial⟩

theorem c27 (w : World) (v0 v1 v2 : Value) {σ : Heap} (hσ : σ.le (snap w)) {x0 : (List Int)} {x1 : (List (List Int))} {x2 : Bool} {r : ((List Int) × Int)} (hF : impl_FillLoop x0 x1 x2 = some r) (h0 : Y42.val σ v0 x0) (h1 : Y49.val σ v1 x1) (h2 : TB.val σ v2 x2) :
    Calls Try.prog 27 #[v0, v1, v2] w (Ret [] w σ (SRel.tup2 (Y42.sv r.1) ((TI .i64).sv r.2)) []) := by
  unfold impl_FillLoop at hF
  refine start (args := [v0, v1, v2]) Try.func27 rfl 28 rfl [] [(0, (Y42.sv x0)), (1, (Y49.sv x1)), (2, (TB.sv x2))] [] (sat_start _ hσ) rfl (args1 rfl h0 (args1 rfl h1 (args1 rfl h2 (args0)))) ?_
  refine T.seq ?_
  refine T.region mix 3 [3, 6, 7] [0, 0, 0] [(sO SRel.any [(1, (boxR 45 Y42 x0))]), (sO SRel.any [(2, (boxR 45 Y42 (List.replicate 64 0)))]), (sp ((TI .i64).sv 0))] (by kernel_rfl) (AOK.cons (fun ρ a w hs hz hΓ hp => g_box hs.le (hΓ 0 rfl)) (AOK.cons (fun ρ a w hs hz hΓ hp => g_alloc hs.le z45 zc45) (AOK.cons (fun ρ a w hs hz hΓ hp => gp (d_assign (vI rfl))) AOK.nil rfl) rfl) rfl) (fun vs1 => ?_)
  refine T.nil ?_
  refine T.norm ?_
  refine T.seq ?_
  refine T.seq ?_
  obtain ⟨x10, e3, hF⟩ := bindS hF
  obtain ⟨x12, e4, hF⟩ := bindS hF
  obtain ⟨x15, e5, hF⟩ := bindS hF
  obtain ⟨x17, e6, hF⟩ := bindS hF
  obtain ⟨x19, e7, hF⟩ := bindS hF
  refine T.region mix 12 [9, 10, 11, 12, 13, 14, 15, 16, 17, 18, 19, 8] [0, 1, 3, 7, 0, 16, 63, 127, 255, 511, 1023, 2047] [(sp (Y49.sv x1)), (sp (TB.sv x10)), (sp (TB.sv (!x10))), (sp ((TI .i64).sv x12)), (sp (Y49.sv x1)), (sp ((TI .i64).sv (x1.length : Int))), (sp (TB.sv x15)), (sp (TB.sv (!x15))), (sp ((TI .i64).sv x17)), (sp (Y26.sv ([x12, x17] : List Int))), (sp ((TI .i64).sv x19)), (sp ((TI .i64).sv x19))] (by kernel_rfl) (AOK.cons (fun ρ a w hs hz hΓ hp => gp (d_move (hΓ 1 rfl))) (AOK.cons (fun ρ a w hs hz hΓ hp => gp (d_call fn65 hs.le mapA1 (c65 w _ hs.le e3 ((hp 0 _ rfl rfl).1)))) (AOK.cons (fun ρ a w hs hz hΓ hp => gp (d_not (hp 1 _ rfl rfl).1)) (AOK.cons (fun ρ a w hs hz hΓ hp => gp (d_call fn64 hs.le mapA2 (c64 w _ _ hs.le e4 ((hp 2 _ rfl rfl).1) (vI rfl)))) (AOK.cons (fun ρ a w hs hz hΓ hp => gp (d_move (hΓ 1 rfl))) (AOK.cons (fun ρ a w hs hz hΓ hp => gp (d_lenR u49 (hp 4 _ rfl rfl).1)) (AOK.cons (fun ρ a w hs hz hΓ hp => gp (d_call fn72 hs.le mapA3 (c72 w _ _ _ hs.le e5 ((hp 5 _ rfl rfl).1) (vI rfl) (vI rfl)))) (AOK.cons (fun ρ a w hs hz hΓ hp => gp (d_not (hp 6 _ rfl rfl).1)) (AOK.cons (fun ρ a w hs hz hΓ hp => gp (d_call fn64 hs.le mapA2 (c64 w _ _ hs.le e6 ((hp 7 _ rfl rfl).1) (vI rfl)))) (AOK.cons (fun ρ a w hs hz hΓ hp => gp (d_buildSl hs.le u26 y2 z2 (by decide) (by decide) zc2 (Fills.part rfl (hp 3 _ rfl rfl).1 (At.nth (At.refl _ _) 0 rfl) (Fills.part rfl (hp 8 _ rfl rfl).1 (At.nth (At.refl _ _) 1 rfl) (Fills.done _))))) (AOK.cons (fun ρ a w hs hz hΓ hp => gp (d_call fn63 hs.le mapA1 (c63 w _ hs.le e7 ((hp 9 _ rfl rfl).1)))) (AOK.cons (fun ρ a w hs hz hΓ hp => gp (d_assign (hp 10 _ rfl rfl).1)) AOK.nil rfl) rfl) rfl) rfl) rfl) rfl) rfl) rfl) rfl) rfl) rfl) rfl) (fun vs2 => ?_)
  refine T.nil ?_
  refine T.norm ?_
  refine T.seq ?_
  refine T.region mix 2 [20, 21] [0, 1] [(sp ((TI .i64).sv x19)), (sp (TB.sv (decide (x19 ≠ 0))))] (by kernel_rfl) (AOK.cons (fun ρ a w hs hz hΓ hp => gp (d_move (hΓ 8 rfl))) (AOK.cons (fun ρ a w hs hz hΓ hp => gp (d_neq (hp 0 _ rfl rfl).1 (vI rfl))) AOK.nil rfl) rfl) (fun vs8 => ?_)
  refine T.nil ?_
  refine T.norm ?_
  refine T.cond (b := (decide (x19 ≠ 0))) (fun _ _ h => h) (fun hc => ?_) (fun hc => ?_)
  · replace hF := iteT hF hc
    refine T.seq ?_
    refine T.region mix 2 [22, 23] [0, 0, 1, 7] [(sp (Y42.sv ((List.replicate 64 0) : (List Int)))), (sp ((TI .i64).sv x19))] (by kernel_rfl) (AOK.cons (fun ρ a w hs hz hΓ hp => gp (d_buildA u45 y41 z45 zc45 (Fills.done _))) (AOK.cons (fun ρ a w hs hz hΓ hp => gp (d_move (hΓ 8 rfl))) AOK.nil rfl) rfl) (fun vs9 => ?_)
    refine T.store 2 y45 rfl (fun ρ a w st => ⟨.inl ⟨(st.env 6).1, rfl⟩, (st.env 22)⟩) (At.refl Y42 (List.replicate 64 0)) ?_
    refine T.does (R := ((TI .i64).sv x19)) rfl (fun ρ a w st => have hs := st.sat; d_assign (st.env 23)) ?_
    refine T.nil ?_
    refine T.norm ?_
    refine T.ret ?_
    obtain rfl := Option.some.inj hF
    refine T.fin0 fun ρ a w st => ?_
    obtain ⟨q0, hr0, hv0⟩ := rv_cell y45 st.sat 2 rfl (st.env 6).1
    exact ⟨_, results_two rfl hr0 rfl, ⟨_, _, rfl, hv0, (st.env 7)⟩⟩
  · replace hF := iteF hF hc
    refine T.skip ?_
    refine T.norm ?_
    refine T.seq ?_
    refine T.region mix 2 [24, 25] [0, 0, 3] [(sp (Y49.sv x1)), (sp (TB.sv x2))] (by kernel_rfl) (AOK.cons (fun ρ a w hs hz hΓ hp => gp (d_move (hΓ 1 rfl))) (AOK.cons (fun ρ a w hs hz hΓ hp => gp (d_move (hΓ 2 rfl))) AOK.nil rfl) rfl) (fun vs10 => ?_)
    obtain ⟨x26, e11, hF⟩ := bindS hF
    refine T.callB (R := SRel.any) (r := (boxR 45 Y42 x0 (vs1 0))) (r' := (boxR 45 Y42 x26 (vs1 0))) 1 fn73 rfl rfl (loose_boxR (flat_TArr (flat_TI _))) (loose_boxR (flat_TArr (flat_TI _))) rfl (fun ρ a w st hle hm => ?_) ?_
    · rw [mapA3]; exact call_at (r := boxR 45 Y42 x26) (st.env 3).1 (c73 w _ _ _  e11 (hm_at (r := boxR 45 Y42 x0) (st.env 3).1 hm) (Ty.val_mono _ (le_at (st.env 3).1 hle) (st.env 24)) (Ty.val_mono _ (le_at (st.env 3).1 hle) (st.env 25)))
    refine T.nil ?_
    refine T.norm ?_
    refine T.seq ?_
    refine T.region mix 1 [27] [0, 1, 3] [(sp (Y42.sv x26))] (by kernel_rfl) (AOK.cons (fun ρ a w hs hz hΓ hp => gp (d_loadO y45 hs 1 rfl (.inl ⟨(hΓ 3 rfl).1, rfl⟩) (At.refl Y42 x26))) AOK.nil rfl) (fun vs12 => ?_)
    refine T.store 2 y45 rfl (fun ρ a w st => ⟨.inl ⟨(st.env 6).1, rfl⟩, (st.env 27)⟩) (At.refl Y42 (List.replicate 64 0)) ?_
    refine T.does (R := ((TI .i64).sv 0)) rfl (fun ρ a w st => have hs := st.sat; d_assign (vI rfl)) ?_
    refine T.nil ?_
    refine T.norm ?_
    refine T.ret ?_
    obtain rfl := Option.some.inj hF
    refine T.fin0 fun ρ a w st => ?_
    obtain ⟨q0, hr0, hv0⟩ := rv_cell y45 st.sat 2 rfl (st.env 6).1
    exact ⟨_, results_two rfl hr0 rfl, ⟨_, _, rfl, hv0, (st.env 7)⟩⟩

theorem c28 (w : World) (v0 v1 : Value) {σ : Heap} (hσ : σ.le (snap w)) {x0 : (List Int)} {x1 : (List Int)} {r : Bool} (hF : laws_eqSheet x0 x1 = some r) (h0 : Y42.val σ v0 x0) (h1 : Y42.val σ v1 x1) :
    Calls Try.prog 28 #[v0, v1] w (Ret [] w σ (TB.sv r) []) := by
  unfold laws_eqSheet at hF
  refine start (args := [v0, v1]) Try.func28 rfl 17 rfl [] [(0, (Y42.sv x0)), (1, (Y42.sv x1))] [] (sat_start _ hσ) rfl (args1 rfl h0 (args1 rfl h1 (args0))) ?_
  refine T.seq ?_
  refine T.region mix 3 [2, 3, 4] [0, 0, 0] [(sp ((TP Y42).sv x0)), (sp ((TP Y42).sv x1)), (sp (TB.sv false))] (by kernel_rfl) (AOK.cons (fun ρ a w hs hz hΓ hp => gp (d_box hs.le (hΓ 0 rfl))) (AOK.cons (fun ρ a w hs hz hΓ hp => gp (d_box hs.le (hΓ 1 rfl))) (AOK.cons (fun ρ a w hs hz hΓ hp => gp (d_assign (vB _))) AOK.nil rfl) rfl) rfl) (fun vs1 => ?_)
  refine T.nil ?_
  refine T.norm ?_
  refine T.seq ?_
  refine T.seq ?_
  refine T.region mix 1 [5] [0] [(sp ((TI .i64).sv 0))] (by kernel_rfl) (AOK.cons (fun ρ a w hs hz hΓ hp => gp (d_assign (vI rfl))) AOK.nil rfl) (fun vs2 => ?_)
  refine T.nil ?_
  refine T.norm ?_
  obtain ⟨yl3, e4, hF⟩ := bindS hF
  refine T.joinD (ι := Int × (Unit)) (fun p => yl3 = .inl p.1) (Γ' := fun p => E []) (H' := fun p => HL []) (fun p hy => ?_) (fun hk => ?_)
  · obtain ⟨o5, _⟩ := p
    cases hy
    refine T.norm ?_
    refine T.seq ?_
    refine T.region mix 1 [4] [0] [(sp (TB.sv true))] (by kernel_rfl) (AOK.cons (fun ρ a w hs hz hΓ hp => gp (d_assign (vB _))) AOK.nil rfl) (fun vs5 => ?_)
    refine T.nil ?_
    refine T.norm ?_
    refine T.ret ?_
    obtain rfl := Option.some.inj hF
    refine T.fin0 fun ρ a w st => ?_
    exact ⟨_, results_one rfl rfl, (st.env 4)⟩
  · skip
    refine T.block ?_
    refine T.loop (f := laws_eqSheet_l1 x0 x1) (σ := Int) (Z := Unit) (fun s z => E [(2, ((TP Y42).sv x0)), (3, ((TP Y42).sv x1)), (5, ((TI .i64).sv s))]) (fun s z => HL []) e4 () (fun φ h => T.toh h ⟨fun _ _ h => h, fun _ _ h => h, fun _ _ h => h, trivial⟩ trivial) (fun k s z uu3 hu3 hn3 => ?_)
    obtain ⟨s5, rfl⟩ : ∃ q, q = s := ⟨_, rfl⟩
    dsimp only [laws_eqSheet_l1] at hu3
    refine T.seq ?_
    refine T.seq ?_
    refine T.region mix 2 [6, 7] [0, 1] [(sp ((TI .i64).sv s5)), (sp (TB.sv (decide (s5 < 64))))] (by kernel_rfl) (AOK.cons (fun ρ a w hs hz hΓ hp => gp (d_move (hΓ 5 rfl))) (AOK.cons (fun ρ a w hs hz hΓ hp => gp (d_lss (hp 0 _ rfl rfl).1 (vI rfl))) AOK.nil rfl) rfl) (fun vs6 => ?_)
    refine T.nil ?_
    refine T.norm ?_
    refine T.cond (b := (decide (s5 < 64))) (fun _ _ h => h) (fun hc => ?_) (fun hc => ?_)
    · replace hu3 := iteT hu3 hc
      refine T.skip ?_
      refine T.norm ?_
      refine T.seq ?_
      refine T.block ?_
      refine T.seq ?_
      obtain ⟨x11, e8, hu3⟩ := bindS hu3
      obtain ⟨x14, e9, hu3⟩ := bindS hu3
      refine T.region mix 7 [10, 11, 12, 13, 14, 15, 16] [0, 1, 3, 0, 8, 24, 63] [(sp ((TI .i64).sv s5)), (sp ((TP (TI .u64)).sv x11)), (sp ((TI .u64).sv x11)), (sp ((TI .i64).sv s5)), (sp ((TP (TI .u64)).sv x14)), (sp ((TI .u64).sv x14)), (sp (TB.sv (decide (x11 ≠ x14))))] (by kernel_rfl) (AOK.cons (fun ρ a w hs hz hΓ hp => gp (d_move (hΓ 5 rfl))) (AOK.cons (fun ρ a w hs hz hΓ hp => gp (d_idxP u45 y41 (hΓ 2 rfl) (hp 0 _ rfl rfl).1 e8)) (AOK.cons (fun ρ a w hs hz hΓ hp => gp (d_load y41 hs.le (hp 1 _ rfl rfl).1)) (AOK.cons (fun ρ a w hs hz hΓ hp => gp (d_move (hΓ 5 rfl))) (AOK.cons (fun ρ a w hs hz hΓ hp => gp (d_idxP u45 y41 (hΓ 3 rfl) (hp 3 _ rfl rfl).1 e9)) (AOK.cons (fun ρ a w hs hz hΓ hp => gp (d_load y41 hs.le (hp 4 _ rfl rfl).1)) (AOK.cons (fun ρ a w hs hz hΓ hp => gp (d_neq (hp 2 _ rfl rfl).1 (hp 5 _ rfl rfl).1)) AOK.nil rfl) rfl) rfl) rfl) rfl) rfl) rfl) (fun vs7 => ?_)
      refine T.nil ?_
      refine T.norm ?_
      refine T.cond (b := (decide (x11 ≠ x14))) (fun _ _ h => h) (fun hc => ?_) (fun hc => ?_)
      · replace hu3 := iteT hu3 hc
        refine T.seq ?_
        refine T.region mix 1 [4] [0] [(sp (TB.sv false))] (by kernel_rfl) (AOK.cons (fun ρ a w hs hz hΓ hp => gp (d_assign (vB _))) AOK.nil rfl) (fun vs10 => ?_)
        refine T.nil ?_
        refine T.norm ?_
        refine T.ret ?_
        obtain rfl := Option.some.inj hu3
        cases hn3
        obtain rfl := Option.some.inj hF
        refine T.fin0 fun ρ a w st => ?_
        exact ⟨_, results_one rfl rfl, (st.env 4)⟩
      · replace hu3 := iteF hu3 hc
        refine T.skip ?_
        refine T.fallX ?_
        refine T.norm ?_
        refine T.region mix 3 [8, 9, 5] [0, 1, 3] [(sp ((TI .i64).sv s5)), (sp ((TI .i64).sv (IntKind.i64.wrap (s5 + 1)))), (sp ((TI .i64).sv (IntKind.i64.wrap (s5 + 1))))] (by kernel_rfl) (AOK.cons (fun ρ a w hs hz hΓ hp => gp (d_move (hΓ 5 rfl))) (AOK.cons (fun ρ a w hs hz hΓ hp => gp (d_add (hp 0 _ rfl rfl).1 (vI rfl))) (AOK.cons (fun ρ a w hs hz hΓ hp => gp (d_assign (hp 1 _ rfl rfl).1)) AOK.nil rfl) rfl) rfl) (fun vs11 => ?_)
        refine T.nil ?_
        obtain rfl := Option.some.inj hu3
        exact T.again hn3 () (fun φ h => T.toh h ⟨fun _ _ h => h, fun _ _ h => h, fun _ _ h => h, trivial⟩ trivial)
    · replace hu3 := iteF hu3 hc
      refine T.exit ?_
      obtain rfl := Option.some.inj hu3
      repeat (first | refine T.passX ?_ | refine T.inX (by decide) ?_)
      refine T.hereX ?_
      exact T.toh (hk (s5, ()) (Eq.symm hn3)) trivial trivial

theorem c29 (w : World) (v0 v1 : Value) {σ : Heap} (hσ : σ.le (snap w)) {x0 : (List (List Int))} {x1 : (List (List Int))} {r : Bool} (hF : laws_eqMarkS x0 x1 = some r) (h0 : Y49.val σ v0 x0) (h1 : Y49.val σ v1 x1) :
    Calls Try.prog 29 #[v0, v1] w (Ret [] w σ (TB.sv r) []) := by
  unfold laws_eqMarkS at hF
  refine start (args := [v0, v1]) Try.func29 rfl 27 rfl [] [(0, (Y49.sv x0)), (1, (Y49.sv x1))] [] (sat_start _ hσ) rfl (args1 rfl h0 (args1 rfl h1 (args0))) ?_
  refine T.seq ?_
  refine T.region mix 1 [4] [0] [(sp (TB.sv false))] (by kernel_rfl) (AOK.cons (fun ρ a w hs hz hΓ hp => gp (d_assign (vB _))) AOK.nil rfl) (fun vs1 => ?_)
  refine T.nil ?_
  refine T.norm ?_
  refine T.seq ?_
  refine T.seq ?_
  refine T.region mix 5 [6, 7, 8, 9, 10] [0, 1, 0, 4, 15] [(sp (Y49.sv x0)), (sp ((TI .i64).sv (x0.length : Int))), (sp (Y49.sv x1)), (sp ((TI .i64).sv (x1.length : Int))), (sp (TB.sv (decide ((x0.length : Int) ≠ (x1.length : Int)))))] (by kernel_rfl) (AOK.cons (fun ρ a w hs hz hΓ hp => gp (d_move (hΓ 0 rfl))) (AOK.cons (fun ρ a w hs hz hΓ hp => gp (d_lenR u49 (hp 0 _ rfl rfl).1)) (AOK.cons (fun ρ a w hs hz hΓ hp => gp (d_move (hΓ 1 rfl))) (AOK.cons (fun ρ a w hs hz hΓ hp => gp (d_lenR u49 (hp 2 _ rfl rfl).1)) (AOK.cons (fun ρ a w hs hz hΓ hp => gp (d_neq (hp 1 _ rfl rfl).1 (hp 3 _ rfl rfl).1)) AOK.nil rfl) rfl) rfl) rfl) rfl) (fun vs2 => ?_)
  refine T.nil ?_
  refine T.norm ?_
  refine T.cond (b := (decide ((x0.length : Int) ≠ (x1.length : Int)))) (fun _ _ h => h) (fun hc => ?_) (fun hc => ?_)
  · replace hF := iteT hF hc
    refine T.seq ?_
    refine T.region mix 1 [4] [0] [(sp (TB.sv false))] (by kernel_rfl) (AOK.cons (fun ρ a w hs hz hΓ hp => gp (d_assign (vB _))) AOK.nil rfl) (fun vs3 => ?_)
    refine T.nil ?_
    refine T.norm ?_
    refine T.ret ?_
    obtain rfl := Option.some.inj hF
    refine T.fin0 fun ρ a w st => ?_
    exact ⟨_, results_one rfl rfl, (st.env 4)⟩
  · replace hF := iteF hF hc
    refine T.skip ?_
    refine T.norm ?_
    refine T.seq ?_
    refine T.seq ?_
    refine T.region mix 1 [5] [0] [(sp ((TI .i64).sv 0))] (by kernel_rfl) (AOK.cons (fun ρ a w hs hz hΓ hp => gp (d_assign (vI rfl))) AOK.nil rfl) (fun vs4 => ?_)
    refine T.nil ?_
    refine T.norm ?_
    obtain ⟨yl5, e6, hF⟩ := bindS hF
    refine T.joinD (ι := Int × (Unit)) (fun p => yl5 = .inl p.1) (Γ' := fun p => E []) (H' := fun p => HL []) (fun p hy => ?_) (fun hk => ?_)
    · obtain ⟨o5, _⟩ := p
      cases hy
      refine T.norm ?_
      refine T.seq ?_
      refine T.region mix 1 [4] [0] [(sp (TB.sv true))] (by kernel_rfl) (AOK.cons (fun ρ a w hs hz hΓ hp => gp (d_assign (vB _))) AOK.nil rfl) (fun vs7 => ?_)
      refine T.nil ?_
      refine T.norm ?_
      refine T.ret ?_
      obtain rfl := Option.some.inj hF
      refine T.fin0 fun ρ a w st => ?_
      exact ⟨_, results_one rfl rfl, (st.env 4)⟩
    · skip
      refine T.block ?_
      refine T.loop (f := laws_eqMarkS_l1 x0 x1) (σ := Int) (Z := Unit) (fun s z => E [(0, (Y49.sv x0)), (1, (Y49.sv x1)), (5, ((TI .i64).sv s))]) (fun s z => HL []) e6 () (fun φ h => T.toh h ⟨fun _ _ h => h, fun _ _ h => h, fun _ _ h => h, trivial⟩ trivial) (fun k s z uu5 hu5 hn5 => ?_)
      obtain ⟨s5, rfl⟩ : ∃ q, q = s := ⟨_, rfl⟩
      dsimp only [laws_eqMarkS_l1] at hu5
      refine T.seq ?_
      refine T.seq ?_
      refine T.region mix 4 [11, 12, 13, 14] [0, 0, 2, 7] [(sp ((TI .i64).sv s5)), (sp (Y49.sv x0)), (sp ((TI .i64).sv (x0.length : Int))), (sp (TB.sv (decide (s5 < (x0.length : Int)))))] (by kernel_rfl) (AOK.cons (fun ρ a w hs hz hΓ hp => gp (d_move (hΓ 5 rfl))) (AOK.cons (fun ρ a w hs hz hΓ hp => gp (d_move (hΓ 0 rfl))) (AOK.cons (fun ρ a w hs hz hΓ hp => gp (d_lenR u49 (hp 1 _ rfl rfl).1)) (AOK.cons (fun ρ a w hs hz hΓ hp => gp (d_lss (hp 0 _ rfl rfl).1 (hp 2 _ rfl rfl).1)) AOK.nil rfl) rfl) rfl) rfl) (fun vs8 => ?_)
      refine T.nil ?_
      refine T.norm ?_
      refine T.cond (b := (decide (s5 < (x0.length : Int)))) (fun _ _ h => h) (fun hc => ?_) (fun hc => ?_)
      · replace hu5 := iteT hu5 hc
        refine T.skip ?_
        refine T.norm ?_
        refine T.seq ?_
        refine T.block ?_
        refine T.seq ?_
        obtain ⟨x19, e10, hu5⟩ := bindS hu5
        obtain ⟨x23, e11, hu5⟩ := bindS hu5
        obtain ⟨x25, e12, hu5⟩ := bindS hu5
        refine T.region mix 10 [17, 18, 19, 20, 21, 22, 23, 24, 25, 26] [0, 0, 3, 7, 0, 0, 48, 112, 255, 511] [(sp (Y49.sv x0)), (sp ((TI .i64).sv s5)), (sp ((TP Y24).sv x19)), (sp (Y24.sv x19)), (sp (Y49.sv x1)), (sp ((TI .i64).sv s5)), (sp ((TP Y24).sv x23)), (sp (Y24.sv x23)), (sp (TB.sv x25)), (sp (TB.sv (!x25)))] (by kernel_rfl) (AOK.cons (fun ρ a w hs hz hΓ hp => gp (d_move (hΓ 0 rfl))) (AOK.cons (fun ρ a w hs hz hΓ hp => gp (d_move (hΓ 5 rfl))) (AOK.cons (fun ρ a w hs hz hΓ hp => gp (d_idxR u49 y32 (hp 0 _ rfl rfl).1 (hp 1 _ rfl rfl).1 e10)) (AOK.cons (fun ρ a w hs hz hΓ hp => gp (d_load y32 hs.le (hp 2 _ rfl rfl).1)) (AOK.cons (fun ρ a w hs hz hΓ hp => gp (d_move (hΓ 1 rfl))) (AOK.cons (fun ρ a w hs hz hΓ hp => gp (d_move (hΓ 5 rfl))) (AOK.cons (fun ρ a w hs hz hΓ hp => gp (d_idxR u49 y32 (hp 4 _ rfl rfl).1 (hp 5 _ rfl rfl).1 e11)) (AOK.cons (fun ρ a w hs hz hΓ hp => gp (d_load y32 hs.le (hp 6 _ rfl rfl).1)) (AOK.cons (fun ρ a w hs hz hΓ hp => gp (d_call fn74 hs.le mapA2 (c74 w _ _ hs.le e12 ((hp 3 _ rfl rfl).1) ((hp 7 _ rfl rfl).1)))) (AOK.cons (fun ρ a w hs hz hΓ hp => gp (d_not (hp 8 _ rfl rfl).1)) AOK.nil rfl) rfl) rfl) rfl) rfl) rfl) rfl) rfl) rfl) rfl) (fun vs9 => ?_)
        refine T.nil ?_
        refine T.norm ?_
        refine T.cond (b := (!x25)) (fun _ _ h => h) (fun hc => ?_) (fun hc => ?_)
        · replace hu5 := iteT hu5 hc
          refine T.seq ?_
          refine T.region mix 1 [4] [0] [(sp (TB.sv false))] (by kernel_rfl) (AOK.cons (fun ρ a w hs hz hΓ hp => gp (d_assign (vB _))) AOK.nil rfl) (fun vs13 => ?_)
          refine T.nil ?_
          refine T.norm ?_
          refine T.ret ?_
          obtain rfl := Option.some.inj hu5
          cases hn5
          obtain rfl := Option.some.inj hF
          refine T.fin0 fun ρ a w st => ?_
          exact ⟨_, results_one rfl rfl, (st.env 4)⟩
        · replace hu5 := iteF hu5 hc
          refine T.skip ?_
          refine T.fallX ?_
          refine T.norm ?_
          refine T.region mix 3 [15, 16, 5] [0, 1, 3] [(sp ((TI .i64).sv s5)), (sp ((TI .i64).sv (IntKind.i64.wrap (s5 + 1)))), (sp ((TI .i64).sv (IntKind.i64.wrap (s5 + 1))))] (by kernel_rfl) (AOK.cons (fun ρ a w hs hz hΓ hp => gp (d_move (hΓ 5 rfl))) (AOK.cons (fun ρ a w hs hz hΓ hp => gp (d_add (hp 0 _ rfl rfl).1 (vI rfl))) (AOK.cons (fun ρ a w hs hz hΓ hp => gp (d_assign (hp 1 _ rfl rfl).1)) AOK.nil rfl) rfl) rfl) (fun vs14 => ?_)
          refine T.nil ?_
          obtain rfl := Option.some.inj hu5
          exact T.again hn5 () (fun φ h => T.toh h ⟨fun _ _ h => h, fun _ _ h => h, fun _ _ h => h, trivial⟩ trivial)
      · replace hu5 := iteF hu5 hc
        refine T.exit ?_
        obtain rfl := Option.some.inj hu5
        repeat (first | refine T.passX ?_ | refine T.inX (by decide) ?_)
        refine T.hereX ?_
        exact T.toh (hk (s5, ()) (Eq.symm hn5)) trivial trivial

theorem c4 (w : World) (v0 v1 v2 : Value) {σ : Heap} (hσ : σ.le (snap w)) {x0 : (List Int)} {x1 : (List (List Int))} {x2 : Bool} {r : Bool} (hF : laws_FnExactFillLoop x0 x1 x2 = some r) (h0 : Y42.val σ v0 x0) (h1 : Y49.val σ v1 x1) (h2 : TB.val σ v2 x2) :
    Calls Try.prog 4 #[v0, v1, v2] w (Ret [] w σ (TB.sv r) []) := by
  unfold laws_FnExactFillLoop at hF
  refine start (args := [v0, v1, v2]) Try.func4 rfl 51 rfl [] [(0, (Y42.sv x0)), (1, (Y49.sv x1)), (2, (TB.sv x2))] [] (sat_start _ hσ) rfl (args1 rfl h0 (args1 rfl h1 (args1 rfl h2 (args0)))) ?_
  refine T.seq ?_
  refine T.region mix 2 [3, 6] [0, 0] [(sp ((TP Y42).sv x0)), (sp (TB.sv false))] (by kernel_rfl) (AOK.cons (fun ρ a w hs hz hΓ hp => gp (d_box hs.le (hΓ 0 rfl))) (AOK.cons (fun ρ a w hs hz hΓ hp => gp (d_assign (vB _))) AOK.nil rfl) rfl) (fun vs1 => ?_)
  refine T.nil ?_
  refine T.norm ?_
  refine T.seq ?_
  refine T.region mix 1 [7] [0] [(sp ((TI .i64).sv 1048576))] (by kernel_rfl) (AOK.cons (fun ρ a w hs hz hΓ hp => gp (d_assign (vI rfl))) AOK.nil rfl) (fun vs2 => ?_)
  refine T.nil ?_
  refine T.norm ?_
  refine T.seq ?_
  obtain ⟨x15, e4, hF⟩ := bindS hF
  refine T.region mix 4 [13, 14, 15, 7] [0, 0, 3, 7] [(sp (Y49.sv x1)), (sp ((TI .i64).sv 1048576)), (sp ((TI .i64).sv x15)), (sp ((TI .i64).sv x15))] (by kernel_rfl) (AOK.cons (fun ρ a w hs hz hΓ hp => gp (d_move (hΓ 1 rfl))) (AOK.cons (fun ρ a w hs hz hΓ hp => gp (d_move (hΓ 7 rfl))) (AOK.cons (fun ρ a w hs hz hΓ hp => gp (d_call fn23 hs.le mapA2 (c23 w _ _ hs.le e4 ((hp 0 _ rfl rfl).1) ((hp 1 _ rfl rfl).1)))) (AOK.cons (fun ρ a w hs hz hΓ hp => gp (d_assign (hp 2 _ rfl rfl).1)) AOK.nil rfl) rfl) rfl) rfl) (fun vs3 => ?_)
  refine T.nil ?_
  refine T.norm ?_
  refine T.seq ?_
  refine T.seq ?_
  refine T.region mix 2 [16, 17] [0, 1] [(sp ((TI .i64).sv x15)), (sp (TB.sv (decide (x15 < 0))))] (by kernel_rfl) (AOK.cons (fun ρ a w hs hz hΓ hp => gp (d_move (hΓ 7 rfl))) (AOK.cons (fun ρ a w hs hz hΓ hp => gp (d_lss (hp 0 _ rfl rfl).1 (vI rfl))) AOK.nil rfl) rfl) (fun vs5 => ?_)
  refine T.nil ?_
  refine T.norm ?_
  refine T.cond (b := (decide (x15 < 0))) (fun _ _ h => h) (fun hc => ?_) (fun hc => ?_)
  · replace hF := iteT hF hc
    refine T.seq ?_
    refine T.region mix 1 [6] [0] [(sp (TB.sv true))] (by kernel_rfl) (AOK.cons (fun ρ a w hs hz hΓ hp => gp (d_assign (vB _))) AOK.nil rfl) (fun vs6 => ?_)
    refine T.nil ?_
    refine T.norm ?_
    refine T.ret ?_
    obtain rfl := Option.some.inj hF
    refine T.fin0 fun ρ a w st => ?_
    exact ⟨_, results_one rfl rfl, (st.env 6)⟩
  · replace hF := iteF hF hc
    refine T.skip ?_
    refine T.norm ?_
    refine T.seq ?_
    obtain ⟨x20, e8, hF⟩ := bindS hF
    obtain ⟨x22, e9, hF⟩ := bindS hF
    obtain ⟨x24, e10, hF⟩ := bindS hF
    refine T.region mix 10 [19, 20, 21, 22, 23, 24, 18, 25, 26, 8] [0, 1, 0, 7, 0, 31, 63, 127, 127, 0, 767, 2047] [(sp (Y42.sv x0)), (sp (Y42.sv x20)), (sp (Y49.sv x1)), (sp (Y49.sv x22)), (sp (TB.sv x2)), (sp (SRel.tup2 (Y42.sv x24.1) ((TI .i64).sv x24.2))), (sp (SRel.tup2 (Y42.sv x24.1) ((TI .i64).sv x24.2))), (sp (Y42.sv x24.1)), (sp ((TI .i64).sv x24.2)), (sO SRel.any [(1, (boxR 45 Y42 (List.replicate 64 0)))])] (by kernel_rfl) (AOK.cons (fun ρ a w hs hz hΓ hp => gp (d_load y42 hs.le (hΓ 3 rfl))) (AOK.cons (fun ρ a w hs hz hΓ hp => gp (d_call fn25 hs.le mapA1 (c25 w _ hs.le e8 ((hp 0 _ rfl rfl).1)))) (AOK.cons (fun ρ a w hs hz hΓ hp => gp (d_move (hΓ 1 rfl))) (AOK.cons (fun ρ a w hs hz hΓ hp => gp (d_callR fn26 hs.le mapA1 (c26 w _ hs.le e9 ((hp 2 _ rfl rfl).1)))) (AOK.cons (fun ρ a w hs hz hΓ hp => gp (d_move (hΓ 2 rfl))) (AOK.cons (fun ρ a w hs hz hΓ hp => gp (d_call fn24 hs.le mapA3 (c24 w _ _ _ hs.le e10 ((hp 1 _ rfl rfl).1) ((hp 3 _ rfl rfl).1) ((hp 4 _ rfl rfl).1)))) (AOK.cons (fun ρ a w hs hz hΓ hp => gp (d_move (hp 5 _ rfl rfl).1)) (AOK.cons (fun ρ a w hs hz hΓ hp => gp (d_extract2_0 (hp 6 _ rfl rfl).1)) (AOK.cons (fun ρ a w hs hz hΓ hp => gp (d_extract2_1 (hp 6 _ rfl rfl).1)) (AOK.cons (fun ρ a w hs hz hΓ hp => g_alloc hs.le z45 zc45) AOK.nil rfl) rfl) rfl) rfl) rfl) rfl) rfl) rfl) rfl) rfl) (fun vs7 => ?_)
    refine T.store 1 y45 rfl (fun ρ a w st => ⟨.inl ⟨(st.env 8).1, rfl⟩, (st.env 25)⟩) (At.refl Y42 (List.replicate 64 0)) ?_
    refine T.does (R := ((TI .i64).sv x24.2)) rfl (fun ρ a w st => have hs := st.sat; d_assign (st.env 26)) ?_
    refine T.nil ?_
    refine T.norm ?_
    refine T.seq ?_
    obtain ⟨x28, e12, hF⟩ := bindS hF
    refine T.region mix 3 [27, 28, 10] [0, 1, 3] [(sp (Y49.sv x1)), (sp (Y49.sv x28)), (sp (Y49.sv x28))] (by kernel_rfl) (AOK.cons (fun ρ a w hs hz hΓ hp => gp (d_move (hΓ 1 rfl))) (AOK.cons (fun ρ a w hs hz hΓ hp => gp (d_callR fn26 hs.le mapA1 (c26 w _ hs.le e12 ((hp 0 _ rfl rfl).1)))) (AOK.cons (fun ρ a w hs hz hΓ hp => gp (d_assign (hp 1 _ rfl rfl).1)) AOK.nil rfl) rfl) rfl) (fun vs11 => ?_)
    refine T.nil ?_
    refine T.norm ?_
    refine T.seq ?_
    obtain ⟨x31, e14, hF⟩ := bindS hF
    obtain ⟨x34, e15, hF⟩ := bindS hF
    refine T.region mix 9 [30, 31, 32, 33, 34, 29, 35, 36, 11] [0, 1, 0, 0, 15, 31, 63, 63, 0, 383, 1023] [(sp (Y42.sv x0)), (sp (Y42.sv x31)), (sp (Y49.sv x28)), (sp (TB.sv x2)), (sp (SRel.tup2 (Y42.sv x34.1) ((TI .i64).sv x34.2))), (sp (SRel.tup2 (Y42.sv x34.1) ((TI .i64).sv x34.2))), (sp (Y42.sv x34.1)), (sp ((TI .i64).sv x34.2)), (sO SRel.any [(2, (boxR 45 Y42 (List.replicate 64 0)))])] (by kernel_rfl) (AOK.cons (fun ρ a w hs hz hΓ hp => gp (d_load y42 hs.le (hΓ 3 rfl))) (AOK.cons (fun ρ a w hs hz hΓ hp => gp (d_call fn25 hs.le mapA1 (c25 w _ hs.le e14 ((hp 0 _ rfl rfl).1)))) (AOK.cons (fun ρ a w hs hz hΓ hp => gp (d_move (hΓ 10 rfl))) (AOK.cons (fun ρ a w hs hz hΓ hp => gp (d_move (hΓ 2 rfl))) (AOK.cons (fun ρ a w hs hz hΓ hp => gp (d_call fn27 hs.le mapA3 (c27 w _ _ _ hs.le e15 ((hp 1 _ rfl rfl).1) ((hp 2 _ rfl rfl).1) ((hp 3 _ rfl rfl).1)))) (AOK.cons (fun ρ a w hs hz hΓ hp => gp (d_move (hp 4 _ rfl rfl).1)) (AOK.cons (fun ρ a w hs hz hΓ hp => gp (d_extract2_0 (hp 5 _ rfl rfl).1)) (AOK.cons (fun ρ a w hs hz hΓ hp => gp (d_extract2_1 (hp 5 _ rfl rfl).1)) (AOK.cons (fun ρ a w hs hz hΓ hp => g_alloc hs.le z45 zc45) AOK.nil rfl) rfl) rfl) rfl) rfl) rfl) rfl) rfl) rfl) (fun vs13 => ?_)
    refine T.store 2 y45 rfl (fun ρ a w st => ⟨.inl ⟨(st.env 11).1, rfl⟩, (st.env 35)⟩) (At.refl Y42 (List.replicate 64 0)) ?_
    refine T.does (R := ((TI .i64).sv x34.2)) rfl (fun ρ a w st => have hs := st.sat; d_assign (st.env 36)) ?_
    refine T.nil ?_
    refine T.norm ?_
    refine T.seq ?_
    refine T.seq ?_
    obtain ⟨x39, e17, hF⟩ := bindS hF
    refine T.region mix 9 [37, 38, 39, 40, 41, 42, 43, 44, 45] [0, 0, 3, 7, 15, 31, 31, 127, 255] [(sp (Y42.sv x34.1)), (sp (Y42.sv x24.1)), (sp (TB.sv x39)), (sp (TB.sv (!x39))), (sp (TB.sv (!x39))), (sp (SRel.when ((!x39) = false) ((TI .i64).sv x34.2))), (sp (SRel.when ((!x39) = false) ((TI .i64).sv x24.2))), (sp (SRel.when ((!x39) = false) (TB.sv (decide (x34.2 ≠ x24.2))))), (sp (TB.sv ((!x39) || (decide (x34.2 ≠ x24.2)))))] (by kernel_rfl) (AOK.cons (fun ρ a w hs hz hΓ hp => gp (d_loadO y45 hs 2 rfl (.inl ⟨(hΓ 11 rfl).1, rfl⟩) (At.refl Y42 x34.1))) (AOK.cons (fun ρ a w hs hz hΓ hp => gp (d_loadO y45 hs 1 rfl (.inl ⟨(hΓ 8 rfl).1, rfl⟩) (At.refl Y42 x24.1))) (AOK.cons (fun ρ a w hs hz hΓ hp => gp (d_call fn28 hs.le mapA2 (c28 w _ _ hs.le e17 ((hp 0 _ rfl rfl).1) ((hp 1 _ rfl rfl).1)))) (AOK.cons (fun ρ a w hs hz hΓ hp => gp (d_not (hp 2 _ rfl rfl).1)) (AOK.cons (fun ρ a w hs hz hΓ hp => gp (d_move (hp 3 _ rfl rfl).1)) (AOK.cons (fun ρ a w hs hz hΓ hp => gg (g := 4) (d := 41) hz rfl (hp 4 _ rfl rfl).1 rfl (fun hc => d_move (hΓ 12 rfl))) (AOK.cons (fun ρ a w hs hz hΓ hp => gg (g := 4) (d := 41) hz rfl (hp 4 _ rfl rfl).1 rfl (fun hc => d_move (hΓ 9 rfl))) (AOK.cons (fun ρ a w hs hz hΓ hp => gg (g := 4) (d := 41) hz rfl (hp 4 _ rfl rfl).1 rfl (fun hc => d_neq ((hp 5 _ rfl rfl).1 hc) ((hp 6 _ rfl rfl).1 hc))) (AOK.cons (fun ρ a w hs hz hΓ hp => gp (d_pick (hp 4 _ rfl rfl).1 (fun hc => pON hc) (fun hc => pO hc ((hp 7 _ rfl rfl).1 hc)))) AOK.nil rfl) rfl) rfl) rfl) rfl) rfl) rfl) rfl) rfl) (fun vs16 => ?_)
    refine T.nil ?_
    refine T.norm ?_
    refine T.cond (b := ((!x39) || (decide (x34.2 ≠ x24.2)))) (fun _ _ h => h) (fun hc => ?_) (fun hc => ?_)
    · replace hF := iteT hF hc
      refine T.seq ?_
      refine T.region mix 1 [6] [0] [(sp (TB.sv false))] (by kernel_rfl) (AOK.cons (fun ρ a w hs hz hΓ hp => gp (d_assign (vB _))) AOK.nil rfl) (fun vs18 => ?_)
      refine T.nil ?_
      refine T.norm ?_
      refine T.ret ?_
      obtain rfl := Option.some.inj hF
      refine T.fin0 fun ρ a w st => ?_
      exact ⟨_, results_one rfl rfl, (st.env 6)⟩
    · replace hF := iteF hF hc
      refine T.skip ?_
      refine T.norm ?_
      refine T.seq ?_
      refine T.seq ?_
      obtain ⟨x48, e20, hF⟩ := bindS hF
      obtain ⟨x49, e21, hF⟩ := bindS hF
      refine T.region mix 5 [46, 47, 48, 49, 50] [0, 0, 2, 7, 15] [(sp (Y49.sv x28)), (sp (Y49.sv x1)), (sp (Y49.sv x48)), (sp (TB.sv x49)), (sp (TB.sv (!x49)))] (by kernel_rfl) (AOK.cons (fun ρ a w hs hz hΓ hp => gp (d_move (hΓ 10 rfl))) (AOK.cons (fun ρ a w hs hz hΓ hp => gp (d_move (hΓ 1 rfl))) (AOK.cons (fun ρ a w hs hz hΓ hp => gp (d_callR fn26 hs.le mapA1 (c26 w _ hs.le e20 ((hp 1 _ rfl rfl).1)))) (AOK.cons (fun ρ a w hs hz hΓ hp => gp (d_call fn29 hs.le mapA2 (c29 w _ _ hs.le e21 ((hp 0 _ rfl rfl).1) ((hp 2 _ rfl rfl).1)))) (AOK.cons (fun ρ a w hs hz hΓ hp => gp (d_not (hp 3 _ rfl rfl).1)) AOK.nil rfl) rfl) rfl) rfl) rfl) (fun vs19 => ?_)
      refine T.nil ?_
      refine T.norm ?_
      refine T.cond (b := (!x49)) (fun _ _ h => h) (fun hc => ?_) (fun hc => ?_)
      · replace hF := iteT hF hc
        refine T.seq ?_
        refine T.region mix 1 [6] [0] [(sp (TB.sv false))] (by kernel_rfl) (AOK.cons (fun ρ a w hs hz hΓ hp => gp (d_assign (vB _))) AOK.nil rfl) (fun vs22 => ?_)
        refine T.nil ?_
        refine T.norm ?_
        refine T.ret ?_
        obtain rfl := Option.some.inj hF
        refine T.fin0 fun ρ a w st => ?_
        exact ⟨_, results_one rfl rfl, (st.env 6)⟩
      · replace hF := iteF hF hc
        refine T.skip ?_
        refine T.norm ?_
        refine T.seq ?_
        refine T.region mix 1 [6] [0] [(sp (TB.sv true))] (by kernel_rfl) (AOK.cons (fun ρ a w hs hz hΓ hp => gp (d_assign (vB _))) AOK.nil rfl) (fun vs23 => ?_)
        refine T.nil ?_
        refine T.norm ?_
        refine T.ret ?_
        obtain rfl := Option.some.inj hF
        refine T.fin0 fun ρ a w st => ?_
        exact ⟨_, results_one rfl rfl, (st.env 6)⟩
end Go.Proofs.Ytjmlfdhddbhlpaa
