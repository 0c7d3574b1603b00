/-
  The walks: each function comes to what its plain function says.
-/
import Derived.Test.YtnpkhhfpgedkoaaFactsA
import Derived.Test.YtnpkhhfpgedkoaaFA
set_option linter.unusedVariables false
set_option maxHeartbeats 1600000
set_option maxRecDepth 100000
namespace Go.Proofs.Ytnpkhhfpgedkoaa
open Go
theorem c16 (w : World) (v0 : Value) {σ : Heap} (hσ : σ.le (snap w)) {x0 : (List Int)} {r : (List Int)} (hF : laws_toSheet x0 = some r) (h0 : Y23.val σ v0 x0) :
    Calls Try.prog 16 #[v0] w (Ret [] w σ (Y23.sv r) []) := by
  unfold laws_toSheet at hF
  refine start (args := [v0]) Try.func16 rfl 15 rfl [] [(0, (Y23.sv x0))] [] (sat_start _ hσ) rfl (args1 rfl h0 (args0)) ?_
  refine T.seq ?_
  refine T.region mix 2 [1, 2] [0, 0] [(sp ((TP Y23).sv x0)), (sO SRel.any [(1, (boxR 27 Y23 (List.replicate 64 0)))])] (by kernel_rfl) (AOK.cons (fun ρ a w hs hz hΓ hp => gp (d_box hs.le (hΓ 0 rfl))) (AOK.cons (fun ρ a w hs hz hΓ hp => g_alloc hs.le z27 zc27) AOK.nil rfl) rfl) (fun vs1 => ?_)
  refine T.nil ?_
  refine T.norm ?_
  refine T.seq ?_
  refine T.region mix 1 [3] [0] [(sO SRel.any [(2, (boxR 27 Y23 (List.replicate 64 0)))])] (by kernel_rfl) (AOK.cons (fun ρ a w hs hz hΓ hp => g_alloc hs.le z27 zc27) AOK.nil rfl) (fun vs2 => ?_)
  refine T.nil ?_
  refine T.norm ?_
  refine T.seq ?_
  refine T.seq ?_
  refine T.region mix 1 [4] [0] [(sp ((TI .i64).sv 0))] (by kernel_rfl) (AOK.cons (fun ρ a w hs hz hΓ hp => gp (d_assign (vI rfl))) AOK.nil rfl) (fun vs3 => ?_)
  refine T.nil ?_
  refine T.norm ?_
  obtain ⟨yl4, e5, hF⟩ := bindS hF
  refine T.joinD (ι := (Int × (List Int)) × (Unit)) (fun p => yl4 = p.1) (Γ' := fun p => E [(2, (SRel.eq (vs1 1))), (3, (SRel.eq (vs2 0)))]) (H' := fun p => HL [(1, (boxR 27 Y23 (List.replicate 64 0) (vs1 1))), (2, (boxR 27 Y23 p.1.2 (vs2 0)))]) (fun p hy => ?_) (fun hk => ?_)
  · obtain ⟨⟨o4, or2⟩, _⟩ := p
    cases hy
    refine T.norm ?_
    refine T.seq ?_
    refine T.region mix 1 [14] [0, 1] [(sp (Y23.sv or2))] (by kernel_rfl) (AOK.cons (fun ρ a w hs hz hΓ hp => gp (d_loadO y27 hs 2 rfl (.inl ⟨(hΓ 3 rfl), rfl⟩) (At.refl Y23 or2))) AOK.nil rfl) (fun vs6 => ?_)
    refine T.store 1 y27 rfl (fun ρ a w st => ⟨.inl ⟨(st.env 2), rfl⟩, (st.env 14)⟩) (At.refl Y23 (List.replicate 64 0)) ?_
    refine T.nil ?_
    refine T.norm ?_
    refine T.ret ?_
    obtain rfl := Option.some.inj hF
    refine T.fin0 fun ρ a w st => ?_
    obtain ⟨q0, hr0, hv0⟩ := rv_cell y27 st.sat 1 rfl (st.env 2)
    exact ⟨_, results_one rfl hr0, hv0⟩
  · skip
    refine T.block ?_
    refine T.loop (f := laws_toSheet_l1 x0) (σ := (Int × (List Int))) (Z := Unit) (fun s z => E [(1, ((TP Y23).sv x0)), (2, (SRel.eq (vs1 1))), (3, (SRel.eq (vs2 0))), (4, ((TI .i64).sv s.1))]) (fun s z => HL [(1, (boxR 27 Y23 (List.replicate 64 0) (vs1 1))), (2, (boxR 27 Y23 s.2 (vs2 0)))]) e5 () (fun φ h => T.toh h ⟨fun _ _ h => h, fun _ _ h => h.1, fun _ _ h => h.1, fun _ _ h => h, trivial⟩ ⟨rfl, rfl, trivial⟩) (fun k s z uu4 hu4 hn4 => ?_)
    obtain ⟨s4, sr2⟩ := s
    dsimp only [laws_toSheet_l1] at hu4
    refine T.seq ?_
    refine T.seq ?_
    refine T.region mix 2 [5, 6] [0, 1] [(sp ((TI .i64).sv s4)), (sp (TB.sv (decide (s4 < 64))))] (by kernel_rfl) (AOK.cons (fun ρ a w hs hz hΓ hp => gp (d_move (hΓ 4 rfl))) (AOK.cons (fun ρ a w hs hz hΓ hp => gp (d_lss (hp 0 _ rfl rfl).1 (vI rfl))) AOK.nil rfl) rfl) (fun vs7 => ?_)
    refine T.nil ?_
    refine T.norm ?_
    refine T.cond (b := (decide (s4 < 64))) (fun _ _ h => h) (fun hc => ?_) (fun hc => ?_)
    · replace hu4 := iteT hu4 hc
      refine T.skip ?_
      refine T.norm ?_
      refine T.seq ?_
      refine T.block ?_
      obtain ⟨x11, e9, hu4⟩ := bindS hu4
      obtain ⟨x13, e10, hu4⟩ := bindS hu4
      refine T.region mix 5 [9, 10, 11, 12, 13] [0, 0, 2, 6, 15, 31] [(sp ((TI .i64).sv s4)), (sp ((TI .i64).sv s4)), (sp ((TP (TI .u64)).sv x11)), (sp ((TI .u64).sv x11)), (sp (SRel.eq (at_ (vs2 0) (0 + s4.toNat * (TI .u64).n))))] (by kernel_rfl) (AOK.cons (fun ρ a w hs hz hΓ hp => gp (d_move (hΓ 4 rfl))) (AOK.cons (fun ρ a w hs hz hΓ hp => gp (d_move (hΓ 4 rfl))) (AOK.cons (fun ρ a w hs hz hΓ hp => gp (d_idxP u23 y22 (hΓ 1 rfl) (hp 1 _ rfl rfl).1 e9)) (AOK.cons (fun ρ a w hs hz hΓ hp => gp (d_load y22 hs.le (hp 2 _ rfl rfl).1)) (AOK.cons (fun ρ a w hs hz hΓ hp => gp (d_idxO u27 y22 hs 2 rfl (.inl ⟨(hΓ 3 rfl), rfl⟩) (At.refl Y23 sr2) (hp 0 _ rfl rfl).1 e10)) AOK.nil rfl) rfl) rfl) rfl) rfl) (fun vs8 => ?_)
      refine T.store 2 y22 rfl (fun ρ a w st => ⟨.inr (st.env 13), (st.env 12)⟩) (At.elem (At.refl Y23 sr2) (idx_get e10).2) ?_
      refine T.nil ?_
      refine T.fallX ?_
      refine T.norm ?_
      refine T.region mix 3 [7, 8, 4] [0, 1, 3] [(sp ((TI .i64).sv s4)), (sp ((TI .i64).sv (IntKind.i64.wrap (s4 + 1)))), (sp ((TI .i64).sv (IntKind.i64.wrap (s4 + 1))))] (by kernel_rfl) (AOK.cons (fun ρ a w hs hz hΓ hp => gp (d_move (hΓ 4 rfl))) (AOK.cons (fun ρ a w hs hz hΓ hp => gp (d_add (hp 0 _ rfl rfl).1 (vI rfl))) (AOK.cons (fun ρ a w hs hz hΓ hp => gp (d_assign (hp 1 _ rfl rfl).1)) AOK.nil rfl) rfl) rfl) (fun vs11 => ?_)
      refine T.nil ?_
      obtain rfl := Option.some.inj hu4
      exact T.again hn4 () (fun φ h => T.toh h ⟨fun _ _ h => h, fun _ _ h => h, fun _ _ h => h, fun _ _ h => h, trivial⟩ ⟨rfl, rfl, trivial⟩)
    · replace hu4 := iteF hu4 hc
      refine T.exit ?_
      obtain rfl := Option.some.inj hu4
      repeat (first | refine T.passX ?_ | refine T.inX (by decide) ?_)
      refine T.hereX ?_
      exact T.toh (hk ((s4, sr2), ()) (Eq.symm hn4)) ⟨fun _ _ h => h, fun _ _ h => h, trivial⟩ ⟨rfl, rfl, trivial⟩

theorem c17 (w : World) (v0 : Value) {σ : Heap} (hσ : σ.le (snap w)) {x0 : (List Int)} {r : (List Int)} (hF : laws_toMark x0 = some r) (h0 : Y25.val σ v0 x0) :
    Calls Try.prog 17 #[v0] w (Ret [] w σ (Y25.sv r) []) := by
  unfold laws_toMark at hF
  refine start (args := [v0]) Try.func17 rfl 15 rfl [] [(0, (Y25.sv x0))] [] (sat_start _ hσ) rfl (args1 rfl h0 (args0)) ?_
  refine T.seq ?_
  refine T.region mix 2 [1, 2] [0, 0] [(sp ((TP Y25).sv x0)), (sO SRel.any [(1, (boxR 29 Y25 (List.replicate 2 0)))])] (by kernel_rfl) (AOK.cons (fun ρ a w hs hz hΓ hp => gp (d_box hs.le (hΓ 0 rfl))) (AOK.cons (fun ρ a w hs hz hΓ hp => g_alloc hs.le z29 zc29) AOK.nil rfl) rfl) (fun vs1 => ?_)
  refine T.nil ?_
  refine T.norm ?_
  refine T.seq ?_
  refine T.region mix 1 [3] [0] [(sO SRel.any [(2, (boxR 29 Y25 (List.replicate 2 0)))])] (by kernel_rfl) (AOK.cons (fun ρ a w hs hz hΓ hp => g_alloc hs.le z29 zc29) AOK.nil rfl) (fun vs2 => ?_)
  refine T.nil ?_
  refine T.norm ?_
  refine T.seq ?_
  refine T.seq ?_
  refine T.region mix 1 [4] [0] [(sp ((TI .i64).sv 0))] (by kernel_rfl) (AOK.cons (fun ρ a w hs hz hΓ hp => gp (d_assign (vI rfl))) AOK.nil rfl) (fun vs3 => ?_)
  refine T.nil ?_
  refine T.norm ?_
  obtain ⟨yl4, e5, hF⟩ := bindS hF
  refine T.joinD (ι := (Int × (List Int)) × (Unit)) (fun p => yl4 = p.1) (Γ' := fun p => E [(2, (SRel.eq (vs1 1))), (3, (SRel.eq (vs2 0)))]) (H' := fun p => HL [(1, (boxR 29 Y25 (List.replicate 2 0) (vs1 1))), (2, (boxR 29 Y25 p.1.2 (vs2 0)))]) (fun p hy => ?_) (fun hk => ?_)
  · obtain ⟨⟨o4, or2⟩, _⟩ := p
    cases hy
    refine T.norm ?_
    refine T.seq ?_
    refine T.region mix 1 [14] [0, 1] [(sp (Y25.sv or2))] (by kernel_rfl) (AOK.cons (fun ρ a w hs hz hΓ hp => gp (d_loadO y29 hs 2 rfl (.inl ⟨(hΓ 3 rfl), rfl⟩) (At.refl Y25 or2))) AOK.nil rfl) (fun vs6 => ?_)
    refine T.store 1 y29 rfl (fun ρ a w st => ⟨.inl ⟨(st.env 2), rfl⟩, (st.env 14)⟩) (At.refl Y25 (List.replicate 2 0)) ?_
    refine T.nil ?_
    refine T.norm ?_
    refine T.ret ?_
    obtain rfl := Option.some.inj hF
    refine T.fin0 fun ρ a w st => ?_
    obtain ⟨q0, hr0, hv0⟩ := rv_cell y29 st.sat 1 rfl (st.env 2)
    exact ⟨_, results_one rfl hr0, hv0⟩
  · skip
    refine T.block ?_
    refine T.loop (f := laws_toMark_l1 x0) (σ := (Int × (List Int))) (Z := Unit) (fun s z => E [(1, ((TP Y25).sv x0)), (2, (SRel.eq (vs1 1))), (3, (SRel.eq (vs2 0))), (4, ((TI .i64).sv s.1))]) (fun s z => HL [(1, (boxR 29 Y25 (List.replicate 2 0) (vs1 1))), (2, (boxR 29 Y25 s.2 (vs2 0)))]) e5 () (fun φ h => T.toh h ⟨fun _ _ h => h, fun _ _ h => h.1, fun _ _ h => h.1, fun _ _ h => h, trivial⟩ ⟨rfl, rfl, trivial⟩) (fun k s z uu4 hu4 hn4 => ?_)
    obtain ⟨s4, sr2⟩ := s
    dsimp only [laws_toMark_l1] at hu4
    refine T.seq ?_
    refine T.seq ?_
    refine T.region mix 2 [5, 6] [0, 1] [(sp ((TI .i64).sv s4)), (sp (TB.sv (decide (s4 < 2))))] (by kernel_rfl) (AOK.cons (fun ρ a w hs hz hΓ hp => gp (d_move (hΓ 4 rfl))) (AOK.cons (fun ρ a w hs hz hΓ hp => gp (d_lss (hp 0 _ rfl rfl).1 (vI rfl))) AOK.nil rfl) rfl) (fun vs7 => ?_)
    refine T.nil ?_
    refine T.norm ?_
    refine T.cond (b := (decide (s4 < 2))) (fun _ _ h => h) (fun hc => ?_) (fun hc => ?_)
    · replace hu4 := iteT hu4 hc
      refine T.skip ?_
      refine T.norm ?_
      refine T.seq ?_
      refine T.block ?_
      obtain ⟨x11, e9, hu4⟩ := bindS hu4
      obtain ⟨x13, e10, hu4⟩ := bindS hu4
      refine T.region mix 5 [9, 10, 11, 12, 13] [0, 0, 2, 6, 15, 31] [(sp ((TI .i64).sv s4)), (sp ((TI .i64).sv s4)), (sp ((TP (TI .i16)).sv x11)), (sp ((TI .i16).sv x11)), (sp (SRel.eq (at_ (vs2 0) (0 + s4.toNat * (TI .i16).n))))] (by kernel_rfl) (AOK.cons (fun ρ a w hs hz hΓ hp => gp (d_move (hΓ 4 rfl))) (AOK.cons (fun ρ a w hs hz hΓ hp => gp (d_move (hΓ 4 rfl))) (AOK.cons (fun ρ a w hs hz hΓ hp => gp (d_idxP u25 y24 (hΓ 1 rfl) (hp 1 _ rfl rfl).1 e9)) (AOK.cons (fun ρ a w hs hz hΓ hp => gp (d_load y24 hs.le (hp 2 _ rfl rfl).1)) (AOK.cons (fun ρ a w hs hz hΓ hp => gp (d_idxO u29 y24 hs 2 rfl (.inl ⟨(hΓ 3 rfl), rfl⟩) (At.refl Y25 sr2) (hp 0 _ rfl rfl).1 e10)) AOK.nil rfl) rfl) rfl) rfl) rfl) (fun vs8 => ?_)
      refine T.store 2 y24 rfl (fun ρ a w st => ⟨.inr (st.env 13), (st.env 12)⟩) (At.elem (At.refl Y25 sr2) (idx_get e10).2) ?_
      refine T.nil ?_
      refine T.fallX ?_
      refine T.norm ?_
      refine T.region mix 3 [7, 8, 4] [0, 1, 3] [(sp ((TI .i64).sv s4)), (sp ((TI .i64).sv (IntKind.i64.wrap (s4 + 1)))), (sp ((TI .i64).sv (IntKind.i64.wrap (s4 + 1))))] (by kernel_rfl) (AOK.cons (fun ρ a w hs hz hΓ hp => gp (d_move (hΓ 4 rfl))) (AOK.cons (fun ρ a w hs hz hΓ hp => gp (d_add (hp 0 _ rfl rfl).1 (vI rfl))) (AOK.cons (fun ρ a w hs hz hΓ hp => gp (d_assign (hp 1 _ rfl rfl).1)) AOK.nil rfl) rfl) rfl) (fun vs11 => ?_)
      refine T.nil ?_
      obtain rfl := Option.some.inj hu4
      exact T.again hn4 () (fun φ h => T.toh h ⟨fun _ _ h => h, fun _ _ h => h, fun _ _ h => h, fun _ _ h => h, trivial⟩ ⟨rfl, rfl, trivial⟩)
    · replace hu4 := iteF hu4 hc
      refine T.exit ?_
      obtain rfl := Option.some.inj hu4
      repeat (first | refine T.passX ?_ | refine T.inX (by decide) ?_)
      refine T.hereX ?_
      exact T.toh (hk ((s4, sr2), ()) (Eq.symm hn4)) ⟨fun _ _ h => h, fun _ _ h => h, trivial⟩ ⟨rfl, rfl, trivial⟩

theorem c59 (w : World) (v0 : Value) {σ : Heap} (hσ : σ.le (snap w)) {x0 : (List Int)} {r : Bool} (hF : spec_l06On x0 = some r) (h0 : Y25.val σ v0 x0) :
    Calls Try.prog 59 #[v0] w (Ret [] w σ (TB.sv r) []) := by
  unfold spec_l06On at hF
  refine start (args := [v0]) Try.func59 rfl 21 rfl [] [(0, (Y25.sv x0))] [] (sat_start _ hσ) rfl (args1 rfl h0 (args0)) ?_
  refine T.seq ?_
  refine T.region mix 2 [1, 2] [0, 0] [(sp ((TP Y25).sv x0)), (sp (TB.sv false))] (by kernel_rfl) (AOK.cons (fun ρ a w hs hz hΓ hp => gp (d_box hs.le (hΓ 0 rfl))) (AOK.cons (fun ρ a w hs hz hΓ hp => gp (d_assign (vB _))) AOK.nil rfl) rfl) (fun vs1 => ?_)
  refine T.nil ?_
  refine T.norm ?_
  refine T.seq ?_
  refine T.region mix 19 [3, 4, 5, 6, 7, 8, 9, 10, 11, 12, 13, 14, 15, 16, 17, 18, 19, 20, 2] [0, 1, 3, 7, 15, 31, 63, 127, 255, 511, 1023, 2047, 4095, 8191, 16383, 32767, 65535, 131071, 262143] [(sp ((TP (TI .i16)).sv (nth x0 0))), (sp ((TI .i16).sv (nth x0 0))), (sp (TB.sv (decide (0 ≤ (nth x0 0))))), (sp (TB.sv (decide (0 ≤ (nth x0 0))))), (sp (SRel.when ((decide (0 ≤ (nth x0 0))) = true) ((TP (TI .i16)).sv (nth x0 0)))), (sp (SRel.when ((decide (0 ≤ (nth x0 0))) = true) ((TI .i16).sv (nth x0 0)))), (sp (SRel.when ((decide (0 ≤ (nth x0 0))) = true) (TB.sv (decide ((nth x0 0) < 64))))), (sp (TB.sv ((decide (0 ≤ (nth x0 0))) && (decide ((nth x0 0) < 64))))), (sp (TB.sv ((decide (0 ≤ (nth x0 0))) && (decide ((nth x0 0) < 64))))), (sp (SRel.when (((decide (0 ≤ (nth x0 0))) && (decide ((nth x0 0) < 64))) = true) ((TP (TI .i16)).sv (nth x0 1)))), (sp (SRel.when (((decide (0 ≤ (nth x0 0))) && (decide ((nth x0 0) < 64))) = true) ((TI .i16).sv (nth x0 1)))), (sp (SRel.when (((decide (0 ≤ (nth x0 0))) && (decide ((nth x0 0) < 64))) = true) (TB.sv (decide (0 ≤ (nth x0 1)))))), (sp (TB.sv (((decide (0 ≤ (nth x0 0))) && (decide ((nth x0 0) < 64))) && (decide (0 ≤ (nth x0 1)))))), (sp (TB.sv (((decide (0 ≤ (nth x0 0))) && (decide ((nth x0 0) < 64))) && (decide (0 ≤ (nth x0 1)))))), (sp (SRel.when ((((decide (0 ≤ (nth x0 0))) && (decide ((nth x0 0) < 64))) && (decide (0 ≤ (nth x0 1)))) = true) ((TP (TI .i16)).sv (nth x0 1)))), (sp (SRel.when ((((decide (0 ≤ (nth x0 0))) && (decide ((nth x0 0) < 64))) && (decide (0 ≤ (nth x0 1)))) = true) ((TI .i16).sv (nth x0 1)))), (sp (SRel.when ((((decide (0 ≤ (nth x0 0))) && (decide ((nth x0 0) < 64))) && (decide (0 ≤ (nth x0 1)))) = true) (TB.sv (decide ((nth x0 1) < 64))))), (sp (TB.sv ((((decide (0 ≤ (nth x0 0))) && (decide ((nth x0 0) < 64))) && (decide (0 ≤ (nth x0 1)))) && (decide ((nth x0 1) < 64))))), (sp (TB.sv ((((decide (0 ≤ (nth x0 0))) && (decide ((nth x0 0) < 64))) && (decide (0 ≤ (nth x0 1)))) && (decide ((nth x0 1) < 64)))))] (by kernel_rfl) (AOK.cons (fun ρ a w hs hz hΓ hp => gp (d_idxPc .i64 0 u29 y24 (hΓ 1 rfl) rfl)) (AOK.cons (fun ρ a w hs hz hΓ hp => gp (d_load y24 hs.le (hp 0 _ rfl rfl).1)) (AOK.cons (fun ρ a w hs hz hΓ hp => gp (d_geq (hp 1 _ rfl rfl).1 (vI rfl))) (AOK.cons (fun ρ a w hs hz hΓ hp => gp (d_move (hp 2 _ rfl rfl).1)) (AOK.cons (fun ρ a w hs hz hΓ hp => gg (g := 3) (d := 6) hz rfl (hp 3 _ rfl rfl).1 rfl (fun hc => d_idxPc .i64 0 u29 y24 (hΓ 1 rfl) rfl)) (AOK.cons (fun ρ a w hs hz hΓ hp => gg (g := 3) (d := 6) hz rfl (hp 3 _ rfl rfl).1 rfl (fun hc => d_load y24 hs.le ((hp 4 _ rfl rfl).1 hc))) (AOK.cons (fun ρ a w hs hz hΓ hp => gg (g := 3) (d := 6) hz rfl (hp 3 _ rfl rfl).1 rfl (fun hc => d_lss ((hp 5 _ rfl rfl).1 hc) (vI rfl))) (AOK.cons (fun ρ a w hs hz hΓ hp => gp (d_pick (hp 3 _ rfl rfl).1 (fun hc => pA hc ((hp 6 _ rfl rfl).1 hc)) (fun hc => pAN hc))) (AOK.cons (fun ρ a w hs hz hΓ hp => gp (d_move (hp 7 _ rfl rfl).1)) (AOK.cons (fun ρ a w hs hz hΓ hp => gg (g := 8) (d := 11) hz rfl (hp 8 _ rfl rfl).1 rfl (fun hc => d_idxPc .i64 1 u29 y24 (hΓ 1 rfl) rfl)) (AOK.cons (fun ρ a w hs hz hΓ hp => gg (g := 8) (d := 11) hz rfl (hp 8 _ rfl rfl).1 rfl (fun hc => d_load y24 hs.le ((hp 9 _ rfl rfl).1 hc))) (AOK.cons (fun ρ a w hs hz hΓ hp => gg (g := 8) (d := 11) hz rfl (hp 8 _ rfl rfl).1 rfl (fun hc => d_geq ((hp 10 _ rfl rfl).1 hc) (vI rfl))) (AOK.cons (fun ρ a w hs hz hΓ hp => gp (d_pick (hp 8 _ rfl rfl).1 (fun hc => pA hc ((hp 11 _ rfl rfl).1 hc)) (fun hc => pAN hc))) (AOK.cons (fun ρ a w hs hz hΓ hp => gp (d_move (hp 12 _ rfl rfl).1)) (AOK.cons (fun ρ a w hs hz hΓ hp => gg (g := 13) (d := 16) hz rfl (hp 13 _ rfl rfl).1 rfl (fun hc => d_idxPc .i64 1 u29 y24 (hΓ 1 rfl) rfl)) (AOK.cons (fun ρ a w hs hz hΓ hp => gg (g := 13) (d := 16) hz rfl (hp 13 _ rfl rfl).1 rfl (fun hc => d_load y24 hs.le ((hp 14 _ rfl rfl).1 hc))) (AOK.cons (fun ρ a w hs hz hΓ hp => gg (g := 13) (d := 16) hz rfl (hp 13 _ rfl rfl).1 rfl (fun hc => d_lss ((hp 15 _ rfl rfl).1 hc) (vI rfl))) (AOK.cons (fun ρ a w hs hz hΓ hp => gp (d_pick (hp 13 _ rfl rfl).1 (fun hc => pA hc ((hp 16 _ rfl rfl).1 hc)) (fun hc => pAN hc))) (AOK.cons (fun ρ a w hs hz hΓ hp => gp (d_assign (hp 17 _ rfl rfl).1)) AOK.nil rfl) rfl) rfl) rfl) rfl) rfl) rfl) rfl) rfl) rfl) rfl) rfl) rfl) rfl) rfl) rfl) rfl) rfl) rfl) (fun vs2 => ?_)
  refine T.nil ?_
  refine T.norm ?_
  refine T.ret ?_
  obtain rfl := Option.some.inj hF
  refine T.fin0 fun ρ a w st => ?_
  exact ⟨_, results_one rfl rfl, (st.env 2)⟩

theorem c15 (w : World) (v0 v1 : Value) {σ : Heap} (hσ : σ.le (snap w)) {x0 : (List Int)} {x1 : (List Int)} {r : Bool} (hF : spec_HasInk x0 x1 = some r) (h0 : Y23.val σ v0 x0) (h1 : Y25.val σ v1 x1) :
    Calls Try.prog 15 #[v0, v1] w (Ret [] w σ (TB.sv r) []) := by
  unfold spec_HasInk at hF
  refine start (args := [v0, v1]) Try.func15 rfl 19 rfl [] [(0, (Y23.sv x0)), (1, (Y25.sv x1))] [] (sat_start _ hσ) rfl (args1 rfl h0 (args1 rfl h1 (args0))) ?_
  refine T.seq ?_
  refine T.region mix 3 [2, 3, 4] [0, 0, 0] [(sp ((TP Y23).sv x0)), (sp ((TP Y25).sv x1)), (sp (TB.sv false))] (by kernel_rfl) (AOK.cons (fun ρ a w hs hz hΓ hp => gp (d_box hs.le (hΓ 0 rfl))) (AOK.cons (fun ρ a w hs hz hΓ hp => gp (d_box hs.le (hΓ 1 rfl))) (AOK.cons (fun ρ a w hs hz hΓ hp => gp (d_assign (vB _))) AOK.nil rfl) rfl) rfl) (fun vs1 => ?_)
  refine T.nil ?_
  refine T.norm ?_
  refine T.seq ?_
  obtain ⟨x6, e3, hF⟩ := bindS hF
  obtain ⟨x18, e5, hF⟩ := bindS hF
  obtain ⟨x10, e6⟩ : ∃ (x10 : Int), x6 = true → idx x0 (nth x1 1) = some x10 ∧ (decide ((bitop .and .u64 (Int.fdiv x10 (2 ^ (min (IntKind.u64.wrap (nth x1 0)).toNat IntKind.u64.bits))) 1) = 1)) = x18 := by
    by_cases hb : x6 = true
    · replace e5 := iteT e5 hb
      obtain ⟨x10, e4, e5⟩ := bindS e5
      exact ⟨x10, fun _ => ⟨e4, Option.some.inj e5⟩⟩
    · exact ⟨default, fun h => absurd h hb⟩
  have e7 : x6 = false → false = x18 := fun h => Option.some.inj (iteF e5 h)
  refine T.region mix 15 [5, 6, 7, 8, 9, 10, 11, 12, 13, 14, 15, 16, 17, 18, 4] [0, 1, 3, 7, 15, 31, 63, 7, 135, 391, 1023, 2047, 4095, 8191, 16383] [(sp (Y25.sv x1)), (sp (TB.sv x6)), (sp (TB.sv x6)), (sp (SRel.when (x6 = true) ((TP (TI .i16)).sv (nth x1 1)))), (sp (SRel.when (x6 = true) ((TI .i16).sv (nth x1 1)))), (sp (SRel.when (x6 = true) ((TP (TI .u64)).sv x10))), (sp (SRel.when (x6 = true) ((TI .u64).sv x10))), (sp (SRel.when (x6 = true) ((TP (TI .i16)).sv (nth x1 0)))), (sp (SRel.when (x6 = true) ((TI .i16).sv (nth x1 0)))), (sp (SRel.when (x6 = true) ((TI .u64).sv (IntKind.u64.wrap (nth x1 0))))), (sp (SRel.when (x6 = true) ((TI .u64).sv (Int.fdiv x10 (2 ^ (min (IntKind.u64.wrap (nth x1 0)).toNat IntKind.u64.bits)))))), (sp (SRel.when (x6 = true) ((TI .u64).sv (bitop .and .u64 (Int.fdiv x10 (2 ^ (min (IntKind.u64.wrap (nth x1 0)).toNat IntKind.u64.bits))) 1)))), (sp (SRel.when (x6 = true) (TB.sv (decide ((bitop .and .u64 (Int.fdiv x10 (2 ^ (min (IntKind.u64.wrap (nth x1 0)).toNat IntKind.u64.bits))) 1) = 1))))), (sp (TB.sv x18)), (sp (TB.sv x18))] (by kernel_rfl) (AOK.cons (fun ρ a w hs hz hΓ hp => gp (d_load y29 hs.le (hΓ 3 rfl))) (AOK.cons (fun ρ a w hs hz hΓ hp => gp (d_call fn59 hs.le mapA1 (c59 w _ hs.le e3 ((hp 0 _ rfl rfl).1)))) (AOK.cons (fun ρ a w hs hz hΓ hp => gp (d_move (hp 1 _ rfl rfl).1)) (AOK.cons (fun ρ a w hs hz hΓ hp => gg (g := 2) (d := 7) hz rfl (hp 2 _ rfl rfl).1 rfl (fun hc => d_idxPc .i64 1 u29 y24 (hΓ 3 rfl) rfl)) (AOK.cons (fun ρ a w hs hz hΓ hp => gg (g := 2) (d := 7) hz rfl (hp 2 _ rfl rfl).1 rfl (fun hc => d_load y24 hs.le ((hp 3 _ rfl rfl).1 hc))) (AOK.cons (fun ρ a w hs hz hΓ hp => gg (g := 2) (d := 7) hz rfl (hp 2 _ rfl rfl).1 rfl (fun hc => d_idxP u27 y22 (hΓ 2 rfl) ((hp 4 _ rfl rfl).1 hc) (e6 hc).1)) (AOK.cons (fun ρ a w hs hz hΓ hp => gg (g := 2) (d := 7) hz rfl (hp 2 _ rfl rfl).1 rfl (fun hc => d_load y22 hs.le ((hp 5 _ rfl rfl).1 hc))) (AOK.cons (fun ρ a w hs hz hΓ hp => gg (g := 2) (d := 7) hz rfl (hp 2 _ rfl rfl).1 rfl (fun hc => d_idxPc .i64 0 u29 y24 (hΓ 3 rfl) rfl)) (AOK.cons (fun ρ a w hs hz hΓ hp => gg (g := 2) (d := 7) hz rfl (hp 2 _ rfl rfl).1 rfl (fun hc => d_load y24 hs.le ((hp 7 _ rfl rfl).1 hc))) (AOK.cons (fun ρ a w hs hz hΓ hp => gg (g := 2) (d := 7) hz rfl (hp 2 _ rfl rfl).1 rfl (fun hc => d_conv u24 u94 ((hp 8 _ rfl rfl).1 hc))) (AOK.cons (fun ρ a w hs hz hΓ hp => gg (g := 2) (d := 7) hz rfl (hp 2 _ rfl rfl).1 rfl (fun hc => d_shr ((hp 6 _ rfl rfl).1 hc) ((hp 9 _ rfl rfl).1 hc) (rng_nn (by decide) ((hp 9 _ rfl rfl).1 hc)))) (AOK.cons (fun ρ a w hs hz hΓ hp => gg (g := 2) (d := 7) hz rfl (hp 2 _ rfl rfl).1 rfl (fun hc => d_and ((hp 10 _ rfl rfl).1 hc) (vI rfl))) (AOK.cons (fun ρ a w hs hz hΓ hp => gg (g := 2) (d := 7) hz rfl (hp 2 _ rfl rfl).1 rfl (fun hc => d_eql ((hp 11 _ rfl rfl).1 hc) (vI rfl))) (AOK.cons (fun ρ a w hs hz hΓ hp => gp (d_pick (hp 2 _ rfl rfl).1 (fun hc => (pE ((e6 hc).2) ((hp 12 _ rfl rfl).1 hc))) (fun hc => pC (e7 hc)))) (AOK.cons (fun ρ a w hs hz hΓ hp => gp (d_assign (hp 13 _ rfl rfl).1)) AOK.nil rfl) rfl) rfl) rfl) rfl) rfl) rfl) rfl) rfl) rfl) rfl) rfl) rfl) rfl) rfl) (fun vs2 => ?_)
  refine T.nil ?_
  refine T.norm ?_
  refine T.ret ?_
  obtain rfl := Option.some.inj hF
  refine T.fin0 fun ρ a w st => ?_
  exact ⟨_, results_one rfl rfl, (st.env 4)⟩

theorem c98 (w : World) (v0 v1 v2 : Value) {σ : Heap} (hσ : σ.le (snap w)) {x0 : Int} {x1 : Int} {x2 : Int} {r : Bool} (hF : impl_within x0 x1 x2 = some r) (h0 : (TI .i64).val σ v0 x0) (h1 : (TI .i64).val σ v1 x1) (h2 : (TI .i64).val σ v2 x2) :
    Calls Try.prog 98 #[v0, v1, v2] w (Ret [] w σ (TB.sv r) []) := by
  unfold impl_within at hF
  refine start (args := [v0, v1, v2]) Try.func98 rfl 15 rfl [] [(0, ((TI .i64).sv x0)), (1, ((TI .i64).sv x1)), (2, ((TI .i64).sv x2))] [] (sat_start _ hσ) rfl (args1 rfl h0 (args1 rfl h1 (args1 rfl h2 (args0)))) ?_
  refine T.seq ?_
  refine T.region mix 1 [6] [0] [(sp (TB.sv false))] (by kernel_rfl) (AOK.cons (fun ρ a w hs hz hΓ hp => gp (d_assign (vB _))) AOK.nil rfl) (fun vs1 => ?_)
  refine T.nil ?_
  refine T.norm ?_
  refine T.seq ?_
  refine T.region mix 9 [7, 8, 9, 10, 11, 12, 13, 14, 6] [0, 0, 3, 7, 15, 15, 63, 127, 255] [(sp ((TI .i64).sv x0)), (sp ((TI .i64).sv x1)), (sp (TB.sv (decide (x1 ≤ x0)))), (sp (TB.sv (decide (x1 ≤ x0)))), (sp (SRel.when ((decide (x1 ≤ x0)) = true) ((TI .i64).sv x0))), (sp (SRel.when ((decide (x1 ≤ x0)) = true) ((TI .i64).sv x2))), (sp (SRel.when ((decide (x1 ≤ x0)) = true) (TB.sv (decide (x0 ≤ x2))))), (sp (TB.sv ((decide (x1 ≤ x0)) && (decide (x0 ≤ x2))))), (sp (TB.sv ((decide (x1 ≤ x0)) && (decide (x0 ≤ x2)))))] (by kernel_rfl) (AOK.cons (fun ρ a w hs hz hΓ hp => gp (d_move (hΓ 0 rfl))) (AOK.cons (fun ρ a w hs hz hΓ hp => gp (d_move (hΓ 1 rfl))) (AOK.cons (fun ρ a w hs hz hΓ hp => gp (d_geq (hp 0 _ rfl rfl).1 (hp 1 _ rfl rfl).1)) (AOK.cons (fun ρ a w hs hz hΓ hp => gp (d_move (hp 2 _ rfl rfl).1)) (AOK.cons (fun ρ a w hs hz hΓ hp => gg (g := 3) (d := 10) hz rfl (hp 3 _ rfl rfl).1 rfl (fun hc => d_move (hΓ 0 rfl))) (AOK.cons (fun ρ a w hs hz hΓ hp => gg (g := 3) (d := 10) hz rfl (hp 3 _ rfl rfl).1 rfl (fun hc => d_move (hΓ 2 rfl))) (AOK.cons (fun ρ a w hs hz hΓ hp => gg (g := 3) (d := 10) hz rfl (hp 3 _ rfl rfl).1 rfl (fun hc => d_leq ((hp 4 _ rfl rfl).1 hc) ((hp 5 _ rfl rfl).1 hc))) (AOK.cons (fun ρ a w hs hz hΓ hp => gp (d_pick (hp 3 _ rfl rfl).1 (fun hc => pA hc ((hp 6 _ rfl rfl).1 hc)) (fun hc => pAN hc))) (AOK.cons (fun ρ a w hs hz hΓ hp => gp (d_assign (hp 7 _ rfl rfl).1)) AOK.nil rfl) rfl) rfl) rfl) rfl) rfl) rfl) rfl) rfl) (fun vs2 => ?_)
  refine T.nil ?_
  refine T.norm ?_
  refine T.ret ?_
  obtain rfl := Option.some.inj hF
  refine T.fin0 fun ρ a w st => ?_
  exact ⟨_, results_one rfl rfl, (st.env 6)⟩

theorem c60 (w : World) (v0 : Value) {σ : Heap} (hσ : σ.le (snap w)) {x0 : (List Int)} {r : Bool} (hF : impl_isOn x0 = some r) (h0 : Y25.val σ v0 x0) :
    Calls Try.prog 60 #[v0] w (Ret [] w σ (TB.sv r) []) := by
  unfold impl_isOn at hF
  refine start (args := [v0]) Try.func60 rfl 13 rfl [] [(0, (Y25.sv x0))] [] (sat_start _ hσ) rfl (args1 rfl h0 (args0)) ?_
  refine T.seq ?_
  refine T.region mix 2 [1, 2] [0, 0] [(sp ((TP Y25).sv x0)), (sp (TB.sv false))] (by kernel_rfl) (AOK.cons (fun ρ a w hs hz hΓ hp => gp (d_box hs.le (hΓ 0 rfl))) (AOK.cons (fun ρ a w hs hz hΓ hp => gp (d_assign (vB _))) AOK.nil rfl) rfl) (fun vs1 => ?_)
  refine T.nil ?_
  refine T.norm ?_
  refine T.seq ?_
  obtain ⟨x6, e3, hF⟩ := bindS hF
  obtain ⟨x12, e5, hF⟩ := bindS hF
  obtain ⟨x11, e6⟩ : ∃ (x11 : Bool), x6 = true → impl_within (nth x0 1) 0 63 = some x11 ∧ x11 = x12 := by
    by_cases hb : x6 = true
    · replace e5 := iteT e5 hb
      obtain ⟨x11, e4, e5⟩ := bindS e5
      exact ⟨x11, fun _ => ⟨e4, Option.some.inj e5⟩⟩
    · exact ⟨default, fun h => absurd h hb⟩
  have e7 : x6 = false → false = x12 := fun h => Option.some.inj (iteF e5 h)
  refine T.region mix 11 [3, 4, 5, 6, 7, 8, 9, 10, 11, 12, 2] [0, 1, 3, 7, 15, 31, 63, 127, 255, 511, 1023] [(sp ((TP (TI .i16)).sv (nth x0 0))), (sp ((TI .i16).sv (nth x0 0))), (sp ((TI .i64).sv (nth x0 0))), (sp (TB.sv x6)), (sp (TB.sv x6)), (sp (SRel.when (x6 = true) ((TP (TI .i16)).sv (nth x0 1)))), (sp (SRel.when (x6 = true) ((TI .i16).sv (nth x0 1)))), (sp (SRel.when (x6 = true) ((TI .i64).sv (nth x0 1)))), (sp (SRel.when (x6 = true) (TB.sv x11))), (sp (TB.sv x12)), (sp (TB.sv x12))] (by kernel_rfl) (AOK.cons (fun ρ a w hs hz hΓ hp => gp (d_idxPc .i64 0 u29 y24 (hΓ 1 rfl) rfl)) (AOK.cons (fun ρ a w hs hz hΓ hp => gp (d_load y24 hs.le (hp 0 _ rfl rfl).1)) (AOK.cons (fun ρ a w hs hz hΓ hp => gp (d_widen u24 u2 rfl (hp 1 _ rfl rfl).1)) (AOK.cons (fun ρ a w hs hz hΓ hp => gp (d_call fn98 hs.le mapA3 (c98 w _ _ _ hs.le e3 ((hp 2 _ rfl rfl).1) (vI rfl) (vI rfl)))) (AOK.cons (fun ρ a w hs hz hΓ hp => gp (d_move (hp 3 _ rfl rfl).1)) (AOK.cons (fun ρ a w hs hz hΓ hp => gg (g := 4) (d := 7) hz rfl (hp 4 _ rfl rfl).1 rfl (fun hc => d_idxPc .i64 1 u29 y24 (hΓ 1 rfl) rfl)) (AOK.cons (fun ρ a w hs hz hΓ hp => gg (g := 4) (d := 7) hz rfl (hp 4 _ rfl rfl).1 rfl (fun hc => d_load y24 hs.le ((hp 5 _ rfl rfl).1 hc))) (AOK.cons (fun ρ a w hs hz hΓ hp => gg (g := 4) (d := 7) hz rfl (hp 4 _ rfl rfl).1 rfl (fun hc => d_widen u24 u2 rfl ((hp 6 _ rfl rfl).1 hc))) (AOK.cons (fun ρ a w hs hz hΓ hp => gg (g := 4) (d := 7) hz rfl (hp 4 _ rfl rfl).1 rfl (fun hc => d_call fn98 hs.le mapA3 (c98 w _ _ _ hs.le (e6 hc).1 ((hp 7 _ rfl rfl).1 hc) (vI rfl) (vI rfl)))) (AOK.cons (fun ρ a w hs hz hΓ hp => gp (d_pick (hp 4 _ rfl rfl).1 (fun hc => (pE ((e6 hc).2) ((hp 8 _ rfl rfl).1 hc))) (fun hc => pC (e7 hc)))) (AOK.cons (fun ρ a w hs hz hΓ hp => gp (d_assign (hp 9 _ rfl rfl).1)) AOK.nil rfl) rfl) rfl) rfl) rfl) rfl) rfl) rfl) rfl) rfl) rfl) (fun vs2 => ?_)
  refine T.nil ?_
  refine T.norm ?_
  refine T.ret ?_
  obtain rfl := Option.some.inj hF
  refine T.fin0 fun ρ a w st => ?_
  exact ⟨_, results_one rfl rfl, (st.env 2)⟩

theorem c18 (w : World) (v0 v1 : Value) {σ : Heap} (hσ : σ.le (snap w)) {x0 : (List Int)} {x1 : (List Int)} {r : Bool} (hF : impl_HasInk x0 x1 = some r) (h0 : Y23.val σ v0 x0) (h1 : Y25.val σ v1 x1) :
    Calls Try.prog 18 #[v0, v1] w (Ret [] w σ (TB.sv r) []) := by
  unfold impl_HasInk at hF
  refine start (args := [v0, v1]) Try.func18 rfl 18 rfl [] [(0, (Y23.sv x0)), (1, (Y25.sv x1))] [] (sat_start _ hσ) rfl (args1 rfl h0 (args1 rfl h1 (args0))) ?_
  refine T.seq ?_
  refine T.region mix 3 [2, 3, 4] [0, 0, 0] [(sp ((TP Y23).sv x0)), (sp ((TP Y25).sv x1)), (sp (TB.sv false))] (by kernel_rfl) (AOK.cons (fun ρ a w hs hz hΓ hp => gp (d_box hs.le (hΓ 0 rfl))) (AOK.cons (fun ρ a w hs hz hΓ hp => gp (d_box hs.le (hΓ 1 rfl))) (AOK.cons (fun ρ a w hs hz hΓ hp => gp (d_assign (vB _))) AOK.nil rfl) rfl) rfl) (fun vs1 => ?_)
  refine T.nil ?_
  refine T.norm ?_
  refine T.seq ?_
  obtain ⟨x6, e3, hF⟩ := bindS hF
  obtain ⟨x17, e6, hF⟩ := bindS hF
  obtain ⟨x10, _u14, e7⟩ : ∃ (x10 : Int) (_u14 : Unit), x6 = true → idx x0 (nth x1 1) = some x10 ∧ need (decide (0 ≤ (nth x1 0))) = some _u14 ∧ (decide ((bitop .and .u64 (Int.fdiv x10 (2 ^ (min (nth x1 0).toNat IntKind.u64.bits))) 1) = 1)) = x17 := by
    by_cases hb : x6 = true
    · replace e6 := iteT e6 hb
      obtain ⟨x10, e4, e6⟩ := bindS e6
      obtain ⟨_u14, e5, e6⟩ := bindS e6
      exact ⟨x10, _u14, fun _ => ⟨e4, e5, Option.some.inj e6⟩⟩
    · exact ⟨default, default, fun h => absurd h hb⟩
  have e8 : x6 = false → false = x17 := fun h => Option.some.inj (iteF e6 h)
  refine T.region mix 14 [5, 6, 7, 8, 9, 10, 11, 12, 13, 14, 15, 16, 17, 4] [0, 1, 3, 7, 15, 31, 63, 7, 135, 511, 1023, 2047, 4095, 8191] [(sp (Y25.sv x1)), (sp (TB.sv x6)), (sp (TB.sv x6)), (sp (SRel.when (x6 = true) ((TP (TI .i16)).sv (nth x1 1)))), (sp (SRel.when (x6 = true) ((TI .i16).sv (nth x1 1)))), (sp (SRel.when (x6 = true) ((TP (TI .u64)).sv x10))), (sp (SRel.when (x6 = true) ((TI .u64).sv x10))), (sp (SRel.when (x6 = true) ((TP (TI .i16)).sv (nth x1 0)))), (sp (SRel.when (x6 = true) ((TI .i16).sv (nth x1 0)))), (sp (SRel.when (x6 = true) ((TI .u64).sv (Int.fdiv x10 (2 ^ (min (nth x1 0).toNat IntKind.u64.bits)))))), (sp (SRel.when (x6 = true) ((TI .u64).sv (bitop .and .u64 (Int.fdiv x10 (2 ^ (min (nth x1 0).toNat IntKind.u64.bits))) 1)))), (sp (SRel.when (x6 = true) (TB.sv (decide ((bitop .and .u64 (Int.fdiv x10 (2 ^ (min (nth x1 0).toNat IntKind.u64.bits))) 1) = 1))))), (sp (TB.sv x17)), (sp (TB.sv x17))] (by kernel_rfl) (AOK.cons (fun ρ a w hs hz hΓ hp => gp (d_load y29 hs.le (hΓ 3 rfl))) (AOK.cons (fun ρ a w hs hz hΓ hp => gp (d_call fn60 hs.le mapA1 (c60 w _ hs.le e3 ((hp 0 _ rfl rfl).1)))) (AOK.cons (fun ρ a w hs hz hΓ hp => gp (d_move (hp 1 _ rfl rfl).1)) (AOK.cons (fun ρ a w hs hz hΓ hp => gg (g := 2) (d := 7) hz rfl (hp 2 _ rfl rfl).1 rfl (fun hc => d_idxPc .i64 1 u29 y24 (hΓ 3 rfl) rfl)) (AOK.cons (fun ρ a w hs hz hΓ hp => gg (g := 2) (d := 7) hz rfl (hp 2 _ rfl rfl).1 rfl (fun hc => d_load y24 hs.le ((hp 3 _ rfl rfl).1 hc))) (AOK.cons (fun ρ a w hs hz hΓ hp => gg (g := 2) (d := 7) hz rfl (hp 2 _ rfl rfl).1 rfl (fun hc => d_idxP u27 y22 (hΓ 2 rfl) ((hp 4 _ rfl rfl).1 hc) (e7 hc).1)) (AOK.cons (fun ρ a w hs hz hΓ hp => gg (g := 2) (d := 7) hz rfl (hp 2 _ rfl rfl).1 rfl (fun hc => d_load y22 hs.le ((hp 5 _ rfl rfl).1 hc))) (AOK.cons (fun ρ a w hs hz hΓ hp => gg (g := 2) (d := 7) hz rfl (hp 2 _ rfl rfl).1 rfl (fun hc => d_idxPc .i64 0 u29 y24 (hΓ 3 rfl) rfl)) (AOK.cons (fun ρ a w hs hz hΓ hp => gg (g := 2) (d := 7) hz rfl (hp 2 _ rfl rfl).1 rfl (fun hc => d_load y24 hs.le ((hp 7 _ rfl rfl).1 hc))) (AOK.cons (fun ρ a w hs hz hΓ hp => gg (g := 2) (d := 7) hz rfl (hp 2 _ rfl rfl).1 rfl (fun hc => d_shr ((hp 6 _ rfl rfl).1 hc) ((hp 8 _ rfl rfl).1 hc) (of_decide_eq_true (need_get (e7 hc).2.1)))) (AOK.cons (fun ρ a w hs hz hΓ hp => gg (g := 2) (d := 7) hz rfl (hp 2 _ rfl rfl).1 rfl (fun hc => d_and ((hp 9 _ rfl rfl).1 hc) (vI rfl))) (AOK.cons (fun ρ a w hs hz hΓ hp => gg (g := 2) (d := 7) hz rfl (hp 2 _ rfl rfl).1 rfl (fun hc => d_eql ((hp 10 _ rfl rfl).1 hc) (vI rfl))) (AOK.cons (fun ρ a w hs hz hΓ hp => gp (d_pick (hp 2 _ rfl rfl).1 (fun hc => (pE ((e7 hc).2.2) ((hp 11 _ rfl rfl).1 hc))) (fun hc => pC (e8 hc)))) (AOK.cons (fun ρ a w hs hz hΓ hp => gp (d_assign (hp 12 _ rfl rfl).1)) AOK.nil rfl) rfl) rfl) rfl) rfl) rfl) rfl) rfl) rfl) rfl) rfl) rfl) rfl) rfl) (fun vs2 => ?_)
  refine T.nil ?_
  refine T.norm ?_
  refine T.ret ?_
  obtain rfl := Option.some.inj hF
  refine T.fin0 fun ρ a w st => ?_
  exact ⟨_, results_one rfl rfl, (st.env 4)⟩

theorem c3 (w : World) (v0 v1 : Value) {σ : Heap} (hσ : σ.le (snap w)) {x0 : (List Int)} {x1 : (List Int)} {r : Bool} (hF : laws_FnExactHasInk x0 x1 = some r) (h0 : Y23.val σ v0 x0) (h1 : Y25.val σ v1 x1) :
    Calls Try.prog 3 #[v0, v1] w (Ret [] w σ (TB.sv r) []) := by
  unfold laws_FnExactHasInk at hF
  refine start (args := [v0, v1]) Try.func3 rfl 20 rfl [] [(0, (Y23.sv x0)), (1, (Y25.sv x1))] [] (sat_start _ hσ) rfl (args1 rfl h0 (args1 rfl h1 (args0))) ?_
  refine T.seq ?_
  refine T.region mix 3 [2, 3, 4] [0, 0, 0] [(sp ((TP Y23).sv x0)), (sp ((TP Y25).sv x1)), (sp (TB.sv false))] (by kernel_rfl) (AOK.cons (fun ρ a w hs hz hΓ hp => gp (d_box hs.le (hΓ 0 rfl))) (AOK.cons (fun ρ a w hs hz hΓ hp => gp (d_box hs.le (hΓ 1 rfl))) (AOK.cons (fun ρ a w hs hz hΓ hp => gp (d_assign (vB _))) AOK.nil rfl) rfl) rfl) (fun vs1 => ?_)
  refine T.nil ?_
  refine T.norm ?_
  refine T.seq ?_
  obtain ⟨x8, e3, hF⟩ := bindS hF
  obtain ⟨x10, e4, hF⟩ := bindS hF
  obtain ⟨x11, e5, hF⟩ := bindS hF
  refine T.region mix 6 [7, 8, 9, 10, 11, 5] [0, 1, 0, 7, 15, 31] [(sp (Y23.sv x0)), (sp (Y23.sv x8)), (sp (Y25.sv x1)), (sp (Y25.sv x10)), (sp (TB.sv x11)), (sp (TB.sv x11))] (by kernel_rfl) (AOK.cons (fun ρ a w hs hz hΓ hp => gp (d_load y23 hs.le (hΓ 2 rfl))) (AOK.cons (fun ρ a w hs hz hΓ hp => gp (d_call fn16 hs.le mapA1 (c16 w _ hs.le e3 ((hp 0 _ rfl rfl).1)))) (AOK.cons (fun ρ a w hs hz hΓ hp => gp (d_load y25 hs.le (hΓ 3 rfl))) (AOK.cons (fun ρ a w hs hz hΓ hp => gp (d_call fn17 hs.le mapA1 (c17 w _ hs.le e4 ((hp 2 _ rfl rfl).1)))) (AOK.cons (fun ρ a w hs hz hΓ hp => gp (d_call fn15 hs.le mapA2 (c15 w _ _ hs.le e5 ((hp 1 _ rfl rfl).1) ((hp 3 _ rfl rfl).1)))) (AOK.cons (fun ρ a w hs hz hΓ hp => gp (d_assign (hp 4 _ rfl rfl).1)) AOK.nil rfl) rfl) rfl) rfl) rfl) rfl) (fun vs2 => ?_)
  refine T.nil ?_
  refine T.norm ?_
  refine T.seq ?_
  obtain ⟨x13, e7, hF⟩ := bindS hF
  obtain ⟨x15, e8, hF⟩ := bindS hF
  obtain ⟨x16, e9, hF⟩ := bindS hF
  refine T.region mix 6 [12, 13, 14, 15, 16, 6] [0, 1, 0, 7, 15, 31] [(sp (Y23.sv x0)), (sp (Y23.sv x13)), (sp (Y25.sv x1)), (sp (Y25.sv x15)), (sp (TB.sv x16)), (sp (TB.sv x16))] (by kernel_rfl) (AOK.cons (fun ρ a w hs hz hΓ hp => gp (d_load y23 hs.le (hΓ 2 rfl))) (AOK.cons (fun ρ a w hs hz hΓ hp => gp (d_call fn16 hs.le mapA1 (c16 w _ hs.le e7 ((hp 0 _ rfl rfl).1)))) (AOK.cons (fun ρ a w hs hz hΓ hp => gp (d_load y25 hs.le (hΓ 3 rfl))) (AOK.cons (fun ρ a w hs hz hΓ hp => gp (d_call fn17 hs.le mapA1 (c17 w _ hs.le e8 ((hp 2 _ rfl rfl).1)))) (AOK.cons (fun ρ a w hs hz hΓ hp => gp (d_call fn18 hs.le mapA2 (c18 w _ _ hs.le e9 ((hp 1 _ rfl rfl).1) ((hp 3 _ rfl rfl).1)))) (AOK.cons (fun ρ a w hs hz hΓ hp => gp (d_assign (hp 4 _ rfl rfl).1)) AOK.nil rfl) rfl) rfl) rfl) rfl) rfl) (fun vs6 => ?_)
  refine T.nil ?_
  refine T.norm ?_
  refine T.seq ?_
  refine T.seq ?_
  refine T.region mix 3 [17, 18, 19] [0, 0, 3] [(sp (TB.sv x16)), (sp (TB.sv x11)), (sp (TB.sv (x16 != x11)))] (by kernel_rfl) (AOK.cons (fun ρ a w hs hz hΓ hp => gp (d_move (hΓ 6 rfl))) (AOK.cons (fun ρ a w hs hz hΓ hp => gp (d_move (hΓ 5 rfl))) (AOK.cons (fun ρ a w hs hz hΓ hp => gp (d_neqB u4 (hp 0 _ rfl rfl).1 (hp 1 _ rfl rfl).1)) AOK.nil rfl) rfl) rfl) (fun vs10 => ?_)
  refine T.nil ?_
  refine T.norm ?_
  refine T.cond (b := (x16 != x11)) (fun _ _ h => h) (fun hc => ?_) (fun hc => ?_)
  · replace hF := iteT hF hc
    refine T.seq ?_
    refine T.region mix 1 [4] [0] [(sp (TB.sv false))] (by kernel_rfl) (AOK.cons (fun ρ a w hs hz hΓ hp => gp (d_assign (vB _))) AOK.nil rfl) (fun vs11 => ?_)
    refine T.nil ?_
    refine T.norm ?_
    refine T.ret ?_
    obtain rfl := Option.some.inj hF
    refine T.fin0 fun ρ a w st => ?_
    exact ⟨_, results_one rfl rfl, (st.env 4)⟩
  · replace hF := iteF hF hc
    refine T.skip ?_
    refine T.norm ?_
    refine T.seq ?_
    refine T.region mix 1 [4] [0] [(sp (TB.sv true))] (by kernel_rfl) (AOK.cons (fun ρ a w hs hz hΓ hp => gp (d_assign (vB _))) AOK.nil rfl) (fun vs12 => ?_)
    refine T.nil ?_
    refine T.norm ?_
    refine T.ret ?_
    obtain rfl := Option.some.inj hF
    refine T.fin0 fun ρ a w st => ?_
    exact ⟨_, results_one rfl rfl, (st.env 4)⟩

theorem c100 (w : World) (v0 : Value) {σ : Heap} (hσ : σ.le (snap w)) {x0 : Int} {r : Int} (hF : spec_l06Far x0 = some r) (h0 : (TI .i64).val σ v0 x0) :
    Calls Try.prog 100 #[v0] w (Ret [] w σ ((TI .i64).sv r) []) := by
  unfold spec_l06Far at hF
  refine start (args := [v0]) Try.func100 rfl 8 rfl [] [(0, ((TI .i64).sv x0))] [] (sat_start _ hσ) rfl (args1 rfl h0 (args0)) ?_
  refine T.seq ?_
  refine T.region mix 1 [2] [0] [(sp ((TI .i64).sv 0))] (by kernel_rfl) (AOK.cons (fun ρ a w hs hz hΓ hp => gp (d_assign (vI rfl))) AOK.nil rfl) (fun vs1 => ?_)
  refine T.nil ?_
  refine T.norm ?_
  refine T.seq ?_
  refine T.seq ?_
  refine T.region mix 2 [3, 4] [0, 1] [(sp ((TI .i64).sv x0)), (sp (TB.sv (decide (x0 < 0))))] (by kernel_rfl) (AOK.cons (fun ρ a w hs hz hΓ hp => gp (d_move (hΓ 0 rfl))) (AOK.cons (fun ρ a w hs hz hΓ hp => gp (d_lss (hp 0 _ rfl rfl).1 (vI rfl))) AOK.nil rfl) rfl) (fun vs2 => ?_)
  refine T.nil ?_
  refine T.norm ?_
  refine T.cond (b := (decide (x0 < 0))) (fun _ _ h => h) (fun hc => ?_) (fun hc => ?_)
  · replace hF := iteT hF hc
    refine T.seq ?_
    refine T.region mix 3 [5, 6, 2] [0, 1, 3] [(sp ((TI .i64).sv x0)), (sp ((TI .i64).sv (IntKind.i64.wrap (0 - x0)))), (sp ((TI .i64).sv (IntKind.i64.wrap (0 - x0))))] (by kernel_rfl) (AOK.cons (fun ρ a w hs hz hΓ hp => gp (d_move (hΓ 0 rfl))) (AOK.cons (fun ρ a w hs hz hΓ hp => gp (d_neg (hp 0 _ rfl rfl).1)) (AOK.cons (fun ρ a w hs hz hΓ hp => gp (d_assign (hp 1 _ rfl rfl).1)) AOK.nil rfl) rfl) rfl) (fun vs3 => ?_)
    refine T.nil ?_
    refine T.norm ?_
    refine T.ret ?_
    obtain rfl := Option.some.inj hF
    refine T.fin0 fun ρ a w st => ?_
    exact ⟨_, results_one rfl rfl, (st.env 2)⟩
  · replace hF := iteF hF hc
    refine T.skip ?_
    refine T.norm ?_
    refine T.seq ?_
    refine T.region mix 2 [7, 2] [0, 1] [(sp ((TI .i64).sv x0)), (sp ((TI .i64).sv x0))] (by kernel_rfl) (AOK.cons (fun ρ a w hs hz hΓ hp => gp (d_move (hΓ 0 rfl))) (AOK.cons (fun ρ a w hs hz hΓ hp => gp (d_assign (hp 0 _ rfl rfl).1)) AOK.nil rfl) rfl) (fun vs4 => ?_)
    refine T.nil ?_
    refine T.norm ?_
    refine T.ret ?_
    obtain rfl := Option.some.inj hF
    refine T.fin0 fun ρ a w st => ?_
    exact ⟨_, results_one rfl rfl, (st.env 2)⟩

theorem c99 (w : World) (v0 v1 : Value) {σ : Heap} (hσ : σ.le (snap w)) {x0 : Int} {x1 : Int} {r : Int} (hF : spec_l00Max x0 x1 = some r) (h0 : (TI .i64).val σ v0 x0) (h1 : (TI .i64).val σ v1 x1) :
    Calls Try.prog 99 #[v0, v1] w (Ret [] w σ ((TI .i64).sv r) []) := by
  unfold spec_l00Max at hF
  refine start (args := [v0, v1]) Try.func99 rfl 10 rfl [] [(0, ((TI .i64).sv x0)), (1, ((TI .i64).sv x1))] [] (sat_start _ hσ) rfl (args1 rfl h0 (args1 rfl h1 (args0))) ?_
  refine T.seq ?_
  refine T.region mix 1 [4] [0] [(sp ((TI .i64).sv 0))] (by kernel_rfl) (AOK.cons (fun ρ a w hs hz hΓ hp => gp (d_assign (vI rfl))) AOK.nil rfl) (fun vs1 => ?_)
  refine T.nil ?_
  refine T.norm ?_
  refine T.seq ?_
  refine T.seq ?_
  refine T.region mix 3 [5, 6, 7] [0, 0, 3] [(sp ((TI .i64).sv x0)), (sp ((TI .i64).sv x1)), (sp (TB.sv (decide (x1 < x0))))] (by kernel_rfl) (AOK.cons (fun ρ a w hs hz hΓ hp => gp (d_move (hΓ 0 rfl))) (AOK.cons (fun ρ a w hs hz hΓ hp => gp (d_move (hΓ 1 rfl))) (AOK.cons (fun ρ a w hs hz hΓ hp => gp (d_gtr (hp 0 _ rfl rfl).1 (hp 1 _ rfl rfl).1)) AOK.nil rfl) rfl) rfl) (fun vs2 => ?_)
  refine T.nil ?_
  refine T.norm ?_
  refine T.cond (b := (decide (x1 < x0))) (fun _ _ h => h) (fun hc => ?_) (fun hc => ?_)
  · replace hF := iteT hF hc
    refine T.seq ?_
    refine T.region mix 2 [8, 4] [0, 1] [(sp ((TI .i64).sv x0)), (sp ((TI .i64).sv x0))] (by kernel_rfl) (AOK.cons (fun ρ a w hs hz hΓ hp => gp (d_move (hΓ 0 rfl))) (AOK.cons (fun ρ a w hs hz hΓ hp => gp (d_assign (hp 0 _ rfl rfl).1)) AOK.nil rfl) rfl) (fun vs3 => ?_)
    refine T.nil ?_
    refine T.norm ?_
    refine T.ret ?_
    obtain rfl := Option.some.inj hF
    refine T.fin0 fun ρ a w st => ?_
    exact ⟨_, results_one rfl rfl, (st.env 4)⟩
  · replace hF := iteF hF hc
    refine T.skip ?_
    refine T.norm ?_
    refine T.seq ?_
    refine T.region mix 2 [9, 4] [0, 1] [(sp ((TI .i64).sv x1)), (sp ((TI .i64).sv x1))] (by kernel_rfl) (AOK.cons (fun ρ a w hs hz hΓ hp => gp (d_move (hΓ 1 rfl))) (AOK.cons (fun ρ a w hs hz hΓ hp => gp (d_assign (hp 0 _ rfl rfl).1)) AOK.nil rfl) rfl) (fun vs4 => ?_)
    refine T.nil ?_
    refine T.norm ?_
    refine T.ret ?_
    obtain rfl := Option.some.inj hF
    refine T.fin0 fun ρ a w st => ?_
    exact ⟨_, results_one rfl rfl, (st.env 4)⟩

theorem c61 (w : World) (v0 v1 : Value) {σ : Heap} (hσ : σ.le (snap w)) {x0 : (List Int)} {x1 : (List Int)} {r : Int} (hF : spec_l06Distance x0 x1 = some r) (h0 : Y25.val σ v0 x0) (h1 : Y25.val σ v1 x1) :
    Calls Try.prog 61 #[v0, v1] w (Ret [] w σ ((TI .i64).sv r) []) := by
  unfold spec_l06Distance at hF
  refine start (args := [v0, v1]) Try.func61 rfl 22 rfl [] [(0, (Y25.sv x0)), (1, (Y25.sv x1))] [] (sat_start _ hσ) rfl (args1 rfl h0 (args1 rfl h1 (args0))) ?_
  refine T.seq ?_
  refine T.region mix 3 [2, 3, 4] [0, 0, 0] [(sp ((TP Y25).sv x0)), (sp ((TP Y25).sv x1)), (sp ((TI .i64).sv 0))] (by kernel_rfl) (AOK.cons (fun ρ a w hs hz hΓ hp => gp (d_box hs.le (hΓ 0 rfl))) (AOK.cons (fun ρ a w hs hz hΓ hp => gp (d_box hs.le (hΓ 1 rfl))) (AOK.cons (fun ρ a w hs hz hΓ hp => gp (d_assign (vI rfl))) AOK.nil rfl) rfl) rfl) (fun vs1 => ?_)
  refine T.nil ?_
  refine T.norm ?_
  refine T.seq ?_
  obtain ⟨x12, e3, hF⟩ := bindS hF
  obtain ⟨x20, e4, hF⟩ := bindS hF
  obtain ⟨x21, e5, hF⟩ := bindS hF
  refine T.region mix 18 [5, 6, 7, 8, 9, 10, 11, 12, 13, 14, 15, 16, 17, 18, 19, 20, 21, 4] [0, 1, 3, 0, 8, 24, 63, 127, 0, 256, 768, 0, 2048, 6144, 16128, 32767, 65535, 131071] [(sp ((TP (TI .i16)).sv (nth x0 0))), (sp ((TI .i16).sv (nth x0 0))), (sp ((TI .i64).sv (nth x0 0))), (sp ((TP (TI .i16)).sv (nth x1 0))), (sp ((TI .i16).sv (nth x1 0))), (sp ((TI .i64).sv (nth x1 0))), (sp ((TI .i64).sv (IntKind.i64.wrap ((nth x0 0) - (nth x1 0))))), (sp ((TI .i64).sv x12)), (sp ((TP (TI .i16)).sv (nth x0 1))), (sp ((TI .i16).sv (nth x0 1))), (sp ((TI .i64).sv (nth x0 1))), (sp ((TP (TI .i16)).sv (nth x1 1))), (sp ((TI .i16).sv (nth x1 1))), (sp ((TI .i64).sv (nth x1 1))), (sp ((TI .i64).sv (IntKind.i64.wrap ((nth x0 1) - (nth x1 1))))), (sp ((TI .i64).sv x20)), (sp ((TI .i64).sv x21)), (sp ((TI .i64).sv x21))] (by kernel_rfl) (AOK.cons (fun ρ a w hs hz hΓ hp => gp (d_idxPc .i64 0 u29 y24 (hΓ 2 rfl) rfl)) (AOK.cons (fun ρ a w hs hz hΓ hp => gp (d_load y24 hs.le (hp 0 _ rfl rfl).1)) (AOK.cons (fun ρ a w hs hz hΓ hp => gp (d_widen u24 u2 rfl (hp 1 _ rfl rfl).1)) (AOK.cons (fun ρ a w hs hz hΓ hp => gp (d_idxPc .i64 0 u29 y24 (hΓ 3 rfl) rfl)) (AOK.cons (fun ρ a w hs hz hΓ hp => gp (d_load y24 hs.le (hp 3 _ rfl rfl).1)) (AOK.cons (fun ρ a w hs hz hΓ hp => gp (d_widen u24 u2 rfl (hp 4 _ rfl rfl).1)) (AOK.cons (fun ρ a w hs hz hΓ hp => gp (d_sub (hp 2 _ rfl rfl).1 (hp 5 _ rfl rfl).1)) (AOK.cons (fun ρ a w hs hz hΓ hp => gp (d_call fn100 hs.le mapA1 (c100 w _ hs.le e3 ((hp 6 _ rfl rfl).1)))) (AOK.cons (fun ρ a w hs hz hΓ hp => gp (d_idxPc .i64 1 u29 y24 (hΓ 2 rfl) rfl)) (AOK.cons (fun ρ a w hs hz hΓ hp => gp (d_load y24 hs.le (hp 8 _ rfl rfl).1)) (AOK.cons (fun ρ a w hs hz hΓ hp => gp (d_widen u24 u2 rfl (hp 9 _ rfl rfl).1)) (AOK.cons (fun ρ a w hs hz hΓ hp => gp (d_idxPc .i64 1 u29 y24 (hΓ 3 rfl) rfl)) (AOK.cons (fun ρ a w hs hz hΓ hp => gp (d_load y24 hs.le (hp 11 _ rfl rfl).1)) (AOK.cons (fun ρ a w hs hz hΓ hp => gp (d_widen u24 u2 rfl (hp 12 _ rfl rfl).1)) (AOK.cons (fun ρ a w hs hz hΓ hp => gp (d_sub (hp 10 _ rfl rfl).1 (hp 13 _ rfl rfl).1)) (AOK.cons (fun ρ a w hs hz hΓ hp => gp (d_call fn100 hs.le mapA1 (c100 w _ hs.le e4 ((hp 14 _ rfl rfl).1)))) (AOK.cons (fun ρ a w hs hz hΓ hp => gp (d_call fn99 hs.le mapA2 (c99 w _ _ hs.le e5 ((hp 7 _ rfl rfl).1) ((hp 15 _ rfl rfl).1)))) (AOK.cons (fun ρ a w hs hz hΓ hp => gp (d_assign (hp 16 _ rfl rfl).1)) AOK.nil rfl) rfl) rfl) rfl) rfl) rfl) rfl) rfl) rfl) rfl) rfl) rfl) rfl) rfl) rfl) rfl) rfl) rfl) (fun vs2 => ?_)
  refine T.nil ?_
  refine T.norm ?_
  refine T.ret ?_
  obtain rfl := Option.some.inj hF
  refine T.fin0 fun ρ a w st => ?_
  exact ⟨_, results_one rfl rfl, (st.env 4)⟩

theorem c19 (w : World) (v0 v1 : Value) {σ : Heap} (hσ : σ.le (snap w)) {x0 : (List Int)} {x1 : (List Int)} {r : Int} (hF : spec_DistanceOf x0 x1 = some r) (h0 : Y25.val σ v0 x0) (h1 : Y25.val σ v1 x1) :
    Calls Try.prog 19 #[v0, v1] w (Ret [] w σ ((TI .i64).sv r) []) := by
  unfold spec_DistanceOf at hF
  refine start (args := [v0, v1]) Try.func19 rfl 8 rfl [] [(0, (Y25.sv x0)), (1, (Y25.sv x1))] [] (sat_start _ hσ) rfl (args1 rfl h0 (args1 rfl h1 (args0))) ?_
  refine T.seq ?_
  refine T.region mix 3 [2, 3, 4] [0, 0, 0] [(sp ((TP Y25).sv x0)), (sp ((TP Y25).sv x1)), (sp ((TI .i64).sv 0))] (by kernel_rfl) (AOK.cons (fun ρ a w hs hz hΓ hp => gp (d_box hs.le (hΓ 0 rfl))) (AOK.cons (fun ρ a w hs hz hΓ hp => gp (d_box hs.le (hΓ 1 rfl))) (AOK.cons (fun ρ a w hs hz hΓ hp => gp (d_assign (vI rfl))) AOK.nil rfl) rfl) rfl) (fun vs1 => ?_)
  refine T.nil ?_
  refine T.norm ?_
  refine T.seq ?_
  obtain ⟨x7, e3, hF⟩ := bindS hF
  refine T.region mix 4 [5, 6, 7, 4] [0, 0, 3, 7] [(sp (Y25.sv x0)), (sp (Y25.sv x1)), (sp ((TI .i64).sv x7)), (sp ((TI .i64).sv x7))] (by kernel_rfl) (AOK.cons (fun ρ a w hs hz hΓ hp => gp (d_load y29 hs.le (hΓ 2 rfl))) (AOK.cons (fun ρ a w hs hz hΓ hp => gp (d_load y29 hs.le (hΓ 3 rfl))) (AOK.cons (fun ρ a w hs hz hΓ hp => gp (d_call fn61 hs.le mapA2 (c61 w _ _ hs.le e3 ((hp 0 _ rfl rfl).1) ((hp 1 _ rfl rfl).1)))) (AOK.cons (fun ρ a w hs hz hΓ hp => gp (d_assign (hp 2 _ rfl rfl).1)) AOK.nil rfl) rfl) rfl) rfl) (fun vs2 => ?_)
  refine T.nil ?_
  refine T.norm ?_
  refine T.ret ?_
  obtain rfl := Option.some.inj hF
  refine T.fin0 fun ρ a w st => ?_
  exact ⟨_, results_one rfl rfl, (st.env 4)⟩

theorem c20 (w : World) (v0 v1 : Value) {σ : Heap} (hσ : σ.le (snap w)) {x0 : (List Int)} {x1 : (List Int)} {r : Int} (hF : impl_DistanceOf x0 x1 = some r) (h0 : Y25.val σ v0 x0) (h1 : Y25.val σ v1 x1) :
    Calls Try.prog 20 #[v0, v1] w (Ret [] w σ ((TI .i64).sv r) []) := by
  unfold impl_DistanceOf at hF
  refine start (args := [v0, v1]) Try.func20 rfl 28 rfl [] [(0, (Y25.sv x0)), (1, (Y25.sv x1))] [] (sat_start _ hσ) rfl (args1 rfl h0 (args1 rfl h1 (args0))) ?_
  refine T.seq ?_
  refine T.region mix 3 [2, 3, 4] [0, 0, 0] [(sp ((TP Y25).sv x0)), (sp ((TP Y25).sv x1)), (sp ((TI .i64).sv 0))] (by kernel_rfl) (AOK.cons (fun ρ a w hs hz hΓ hp => gp (d_box hs.le (hΓ 0 rfl))) (AOK.cons (fun ρ a w hs hz hΓ hp => gp (d_box hs.le (hΓ 1 rfl))) (AOK.cons (fun ρ a w hs hz hΓ hp => gp (d_assign (vI rfl))) AOK.nil rfl) rfl) rfl) (fun vs1 => ?_)
  refine T.nil ?_
  refine T.norm ?_
  refine T.seq ?_
  refine T.region mix 16 [7, 8, 9, 10, 11, 12, 13, 14, 15, 16, 17, 18, 19, 20, 5, 6] [0, 1, 3, 0, 8, 24, 63, 0, 128, 384, 0, 1024, 3072, 8064, 127, 32767] [(sp ((TP (TI .i16)).sv (nth x0 0))), (sp ((TI .i16).sv (nth x0 0))), (sp ((TI .i64).sv (nth x0 0))), (sp ((TP (TI .i16)).sv (nth x1 0))), (sp ((TI .i16).sv (nth x1 0))), (sp ((TI .i64).sv (nth x1 0))), (sp ((TI .i64).sv (IntKind.i64.wrap ((nth x0 0) - (nth x1 0))))), (sp ((TP (TI .i16)).sv (nth x0 1))), (sp ((TI .i16).sv (nth x0 1))), (sp ((TI .i64).sv (nth x0 1))), (sp ((TP (TI .i16)).sv (nth x1 1))), (sp ((TI .i16).sv (nth x1 1))), (sp ((TI .i64).sv (nth x1 1))), (sp ((TI .i64).sv (IntKind.i64.wrap ((nth x0 1) - (nth x1 1))))), (sp ((TI .i64).sv (IntKind.i64.wrap ((nth x0 0) - (nth x1 0))))), (sp ((TI .i64).sv (IntKind.i64.wrap ((nth x0 1) - (nth x1 1)))))] (by kernel_rfl) (AOK.cons (fun ρ a w hs hz hΓ hp => gp (d_idxPc .i64 0 u29 y24 (hΓ 2 rfl) rfl)) (AOK.cons (fun ρ a w hs hz hΓ hp => gp (d_load y24 hs.le (hp 0 _ rfl rfl).1)) (AOK.cons (fun ρ a w hs hz hΓ hp => gp (d_widen u24 u2 rfl (hp 1 _ rfl rfl).1)) (AOK.cons (fun ρ a w hs hz hΓ hp => gp (d_idxPc .i64 0 u29 y24 (hΓ 3 rfl) rfl)) (AOK.cons (fun ρ a w hs hz hΓ hp => gp (d_load y24 hs.le (hp 3 _ rfl rfl).1)) (AOK.cons (fun ρ a w hs hz hΓ hp => gp (d_widen u24 u2 rfl (hp 4 _ rfl rfl).1)) (AOK.cons (fun ρ a w hs hz hΓ hp => gp (d_sub (hp 2 _ rfl rfl).1 (hp 5 _ rfl rfl).1)) (AOK.cons (fun ρ a w hs hz hΓ hp => gp (d_idxPc .i64 1 u29 y24 (hΓ 2 rfl) rfl)) (AOK.cons (fun ρ a w hs hz hΓ hp => gp (d_load y24 hs.le (hp 7 _ rfl rfl).1)) (AOK.cons (fun ρ a w hs hz hΓ hp => gp (d_widen u24 u2 rfl (hp 8 _ rfl rfl).1)) (AOK.cons (fun ρ a w hs hz hΓ hp => gp (d_idxPc .i64 1 u29 y24 (hΓ 3 rfl) rfl)) (AOK.cons (fun ρ a w hs hz hΓ hp => gp (d_load y24 hs.le (hp 10 _ rfl rfl).1)) (AOK.cons (fun ρ a w hs hz hΓ hp => gp (d_widen u24 u2 rfl (hp 11 _ rfl rfl).1)) (AOK.cons (fun ρ a w hs hz hΓ hp => gp (d_sub (hp 9 _ rfl rfl).1 (hp 12 _ rfl rfl).1)) (AOK.cons (fun ρ a w hs hz hΓ hp => gp (d_assign (hp 6 _ rfl rfl).1)) (AOK.cons (fun ρ a w hs hz hΓ hp => gp (d_assign (hp 13 _ rfl rfl).1)) AOK.nil rfl) rfl) rfl) rfl) rfl) rfl) rfl) rfl) rfl) rfl) rfl) rfl) rfl) rfl) rfl) rfl) (fun vs2 => ?_)
  refine T.nil ?_
  refine T.norm ?_
  refine T.seq ?_
  refine T.region mix 8 [21, 22, 23, 24, 25, 26, 27, 4] [0, 0, 2, 0, 0, 16, 63, 127] [(sp ((TI .i64).sv (IntKind.i64.wrap ((nth x0 0) - (nth x1 0))))), (sp ((TI .i64).sv (IntKind.i64.wrap ((nth x0 0) - (nth x1 0))))), (sp ((TI .i64).sv (IntKind.i64.wrap (0 - (IntKind.i64.wrap ((nth x0 0) - (nth x1 0))))))), (sp ((TI .i64).sv (IntKind.i64.wrap ((nth x0 1) - (nth x1 1))))), (sp ((TI .i64).sv (IntKind.i64.wrap ((nth x0 1) - (nth x1 1))))), (sp ((TI .i64).sv (IntKind.i64.wrap (0 - (IntKind.i64.wrap ((nth x0 1) - (nth x1 1))))))), (sp ((TI .i64).sv (max (max (max (IntKind.i64.wrap ((nth x0 0) - (nth x1 0))) (IntKind.i64.wrap (0 - (IntKind.i64.wrap ((nth x0 0) - (nth x1 0)))))) (IntKind.i64.wrap ((nth x0 1) - (nth x1 1)))) (IntKind.i64.wrap (0 - (IntKind.i64.wrap ((nth x0 1) - (nth x1 1)))))))), (sp ((TI .i64).sv (max (max (max (IntKind.i64.wrap ((nth x0 0) - (nth x1 0))) (IntKind.i64.wrap (0 - (IntKind.i64.wrap ((nth x0 0) - (nth x1 0)))))) (IntKind.i64.wrap ((nth x0 1) - (nth x1 1)))) (IntKind.i64.wrap (0 - (IntKind.i64.wrap ((nth x0 1) - (nth x1 1))))))))] (by kernel_rfl) (AOK.cons (fun ρ a w hs hz hΓ hp => gp (d_move (hΓ 5 rfl))) (AOK.cons (fun ρ a w hs hz hΓ hp => gp (d_move (hΓ 5 rfl))) (AOK.cons (fun ρ a w hs hz hΓ hp => gp (d_neg (hp 1 _ rfl rfl).1)) (AOK.cons (fun ρ a w hs hz hΓ hp => gp (d_move (hΓ 6 rfl))) (AOK.cons (fun ρ a w hs hz hΓ hp => gp (d_move (hΓ 6 rfl))) (AOK.cons (fun ρ a w hs hz hΓ hp => gp (d_neg (hp 4 _ rfl rfl).1)) (AOK.cons (fun ρ a w hs hz hΓ hp => gp (d_max4 (hp 0 _ rfl rfl).1 (hp 2 _ rfl rfl).1 (hp 3 _ rfl rfl).1 (hp 5 _ rfl rfl).1)) (AOK.cons (fun ρ a w hs hz hΓ hp => gp (d_assign (hp 6 _ rfl rfl).1)) AOK.nil rfl) rfl) rfl) rfl) rfl) rfl) rfl) rfl) (fun vs3 => ?_)
  refine T.nil ?_
  refine T.norm ?_
  refine T.ret ?_
  obtain rfl := Option.some.inj hF
  refine T.fin0 fun ρ a w st => ?_
  exact ⟨_, results_one rfl rfl, (st.env 4)⟩

theorem c4 (w : World) (v0 v1 : Value) {σ : Heap} (hσ : σ.le (snap w)) {x0 : (List Int)} {x1 : (List Int)} {r : Bool} (hF : laws_FnExactDistanceOf x0 x1 = some r) (h0 : Y25.val σ v0 x0) (h1 : Y25.val σ v1 x1) :
    Calls Try.prog 4 #[v0, v1] w (Ret [] w σ (TB.sv r) []) := by
  unfold laws_FnExactDistanceOf at hF
  refine start (args := [v0, v1]) Try.func4 rfl 20 rfl [] [(0, (Y25.sv x0)), (1, (Y25.sv x1))] [] (sat_start _ hσ) rfl (args1 rfl h0 (args1 rfl h1 (args0))) ?_
  refine T.seq ?_
  refine T.region mix 3 [2, 3, 4] [0, 0, 0] [(sp ((TP Y25).sv x0)), (sp ((TP Y25).sv x1)), (sp (TB.sv false))] (by kernel_rfl) (AOK.cons (fun ρ a w hs hz hΓ hp => gp (d_box hs.le (hΓ 0 rfl))) (AOK.cons (fun ρ a w hs hz hΓ hp => gp (d_box hs.le (hΓ 1 rfl))) (AOK.cons (fun ρ a w hs hz hΓ hp => gp (d_assign (vB _))) AOK.nil rfl) rfl) rfl) (fun vs1 => ?_)
  refine T.nil ?_
  refine T.norm ?_
  refine T.seq ?_
  obtain ⟨x8, e3, hF⟩ := bindS hF
  obtain ⟨x10, e4, hF⟩ := bindS hF
  obtain ⟨x11, e5, hF⟩ := bindS hF
  refine T.region mix 6 [7, 8, 9, 10, 11, 5] [0, 1, 0, 7, 15, 31] [(sp (Y25.sv x0)), (sp (Y25.sv x8)), (sp (Y25.sv x1)), (sp (Y25.sv x10)), (sp ((TI .i64).sv x11)), (sp ((TI .i64).sv x11))] (by kernel_rfl) (AOK.cons (fun ρ a w hs hz hΓ hp => gp (d_load y25 hs.le (hΓ 2 rfl))) (AOK.cons (fun ρ a w hs hz hΓ hp => gp (d_call fn17 hs.le mapA1 (c17 w _ hs.le e3 ((hp 0 _ rfl rfl).1)))) (AOK.cons (fun ρ a w hs hz hΓ hp => gp (d_load y25 hs.le (hΓ 3 rfl))) (AOK.cons (fun ρ a w hs hz hΓ hp => gp (d_call fn17 hs.le mapA1 (c17 w _ hs.le e4 ((hp 2 _ rfl rfl).1)))) (AOK.cons (fun ρ a w hs hz hΓ hp => gp (d_call fn19 hs.le mapA2 (c19 w _ _ hs.le e5 ((hp 1 _ rfl rfl).1) ((hp 3 _ rfl rfl).1)))) (AOK.cons (fun ρ a w hs hz hΓ hp => gp (d_assign (hp 4 _ rfl rfl).1)) AOK.nil rfl) rfl) rfl) rfl) rfl) rfl) (fun vs2 => ?_)
  refine T.nil ?_
  refine T.norm ?_
  refine T.seq ?_
  obtain ⟨x13, e7, hF⟩ := bindS hF
  obtain ⟨x15, e8, hF⟩ := bindS hF
  obtain ⟨x16, e9, hF⟩ := bindS hF
  refine T.region mix 6 [12, 13, 14, 15, 16, 6] [0, 1, 0, 7, 15, 31] [(sp (Y25.sv x0)), (sp (Y25.sv x13)), (sp (Y25.sv x1)), (sp (Y25.sv x15)), (sp ((TI .i64).sv x16)), (sp ((TI .i64).sv x16))] (by kernel_rfl) (AOK.cons (fun ρ a w hs hz hΓ hp => gp (d_load y25 hs.le (hΓ 2 rfl))) (AOK.cons (fun ρ a w hs hz hΓ hp => gp (d_call fn17 hs.le mapA1 (c17 w _ hs.le e7 ((hp 0 _ rfl rfl).1)))) (AOK.cons (fun ρ a w hs hz hΓ hp => gp (d_load y25 hs.le (hΓ 3 rfl))) (AOK.cons (fun ρ a w hs hz hΓ hp => gp (d_call fn17 hs.le mapA1 (c17 w _ hs.le e8 ((hp 2 _ rfl rfl).1)))) (AOK.cons (fun ρ a w hs hz hΓ hp => gp (d_call fn20 hs.le mapA2 (c20 w _ _ hs.le e9 ((hp 1 _ rfl rfl).1) ((hp 3 _ rfl rfl).1)))) (AOK.cons (fun ρ a w hs hz hΓ hp => gp (d_assign (hp 4 _ rfl rfl).1)) AOK.nil rfl) rfl) rfl) rfl) rfl) rfl) (fun vs6 => ?_)
  refine T.nil ?_
  refine T.norm ?_
  refine T.seq ?_
  refine T.seq ?_
  refine T.region mix 3 [17, 18, 19] [0, 0, 3] [(sp ((TI .i64).sv x16)), (sp ((TI .i64).sv x11)), (sp (TB.sv (decide (x16 ≠ x11))))] (by kernel_rfl) (AOK.cons (fun ρ a w hs hz hΓ hp => gp (d_move (hΓ 6 rfl))) (AOK.cons (fun ρ a w hs hz hΓ hp => gp (d_move (hΓ 5 rfl))) (AOK.cons (fun ρ a w hs hz hΓ hp => gp (d_neq (hp 0 _ rfl rfl).1 (hp 1 _ rfl rfl).1)) AOK.nil rfl) rfl) rfl) (fun vs10 => ?_)
  refine T.nil ?_
  refine T.norm ?_
  refine T.cond (b := (decide (x16 ≠ x11))) (fun _ _ h => h) (fun hc => ?_) (fun hc => ?_)
  · replace hF := iteT hF hc
    refine T.seq ?_
    refine T.region mix 1 [4] [0] [(sp (TB.sv false))] (by kernel_rfl) (AOK.cons (fun ρ a w hs hz hΓ hp => gp (d_assign (vB _))) AOK.nil rfl) (fun vs11 => ?_)
    refine T.nil ?_
    refine T.norm ?_
    refine T.ret ?_
    obtain rfl := Option.some.inj hF
    refine T.fin0 fun ρ a w st => ?_
    exact ⟨_, results_one rfl rfl, (st.env 4)⟩
  · replace hF := iteF hF hc
    refine T.skip ?_
    refine T.norm ?_
    refine T.seq ?_
    refine T.region mix 1 [4] [0] [(sp (TB.sv true))] (by kernel_rfl) (AOK.cons (fun ρ a w hs hz hΓ hp => gp (d_assign (vB _))) AOK.nil rfl) (fun vs12 => ?_)
    refine T.nil ?_
    refine T.norm ?_
    refine T.ret ?_
    obtain rfl := Option.some.inj hF
    refine T.fin0 fun ρ a w st => ?_
    exact ⟨_, results_one rfl rfl, (st.env 4)⟩

theorem c62 (w : World) (v0 v1 : Value) {σ : Heap} (hσ : σ.le (snap w)) {x0 : Int} {x1 : Int} {r : Bool} (hF : spec_l06Drawn x0 x1 = some r) (h0 : (TI .i8).val σ v0 x0) (h1 : (TI .i64).val σ v1 x1) :
    Calls Try.prog 62 #[v0, v1] w (Ret [] w σ (TB.sv r) []) := by
  unfold spec_l06Drawn at hF
  refine start (args := [v0, v1]) Try.func62 rfl 28 rfl [] [(0, ((TI .i8).sv x0)), (1, ((TI .i64).sv x1))] [] (sat_start _ hσ) rfl (args1 rfl h0 (args1 rfl h1 (args0))) ?_
  refine T.seq ?_
  refine T.region mix 1 [4] [0] [(sp (TB.sv false))] (by kernel_rfl) (AOK.cons (fun ρ a w hs hz hΓ hp => gp (d_assign (vB _))) AOK.nil rfl) (fun vs1 => ?_)
  refine T.nil ?_
  refine T.norm ?_
  refine T.seq ?_
  refine T.seq ?_
  refine T.region mix 1 [5] [0] [(sp ((TI .i8).sv x0))] (by kernel_rfl) (AOK.cons (fun ρ a w hs hz hΓ hp => gp (d_move (hΓ 0 rfl))) AOK.nil rfl) (fun vs2 => ?_)
  refine T.nil ?_
  refine T.norm ?_
  refine T.block ?_
  refine T.seq ?_
  refine T.region mix 2 [7, 6] [0, 1] [(sp (TB.sv (decide (x0 = 0)))), (sp (TB.sv (decide (x0 = 0))))] (by kernel_rfl) (AOK.cons (fun ρ a w hs hz hΓ hp => gp (d_eql (hΓ 5 rfl) (vI rfl))) (AOK.cons (fun ρ a w hs hz hΓ hp => gp (d_assign (hp 0 _ rfl rfl).1)) AOK.nil rfl) rfl) (fun vs3 => ?_)
  refine T.nil ?_
  refine T.norm ?_
  refine T.cond (b := (decide (x0 = 0))) (fun _ _ h => h) (fun hc => ?_) (fun hc => ?_)
  · replace hF := iteT hF hc
    refine T.seq ?_
    refine T.region mix 1 [4] [0] [(sp (TB.sv true))] (by kernel_rfl) (AOK.cons (fun ρ a w hs hz hΓ hp => gp (d_assign (vB _))) AOK.nil rfl) (fun vs4 => ?_)
    refine T.nil ?_
    refine T.norm ?_
    refine T.ret ?_
    obtain rfl := Option.some.inj hF
    refine T.fin0 fun ρ a w st => ?_
    exact ⟨_, results_one rfl rfl, (st.env 4)⟩
  · replace hF := iteF hF hc
    refine T.seq ?_
    refine T.region mix 2 [9, 8] [0, 1] [(sp (TB.sv (decide (x0 = 1)))), (sp (TB.sv (decide (x0 = 1))))] (by kernel_rfl) (AOK.cons (fun ρ a w hs hz hΓ hp => gp (d_eql (hΓ 5 rfl) (vI rfl))) (AOK.cons (fun ρ a w hs hz hΓ hp => gp (d_assign (hp 0 _ rfl rfl).1)) AOK.nil rfl) rfl) (fun vs5 => ?_)
    refine T.nil ?_
    refine T.norm ?_
    refine T.cond (b := (decide (x0 = 1))) (fun _ _ h => h) (fun hc => ?_) (fun hc => ?_)
    · replace hF := iteT hF hc
      refine T.seq ?_
      refine T.region mix 4 [10, 11, 12, 4] [0, 1, 3, 7] [(sp ((TI .i64).sv x1)), (sp ((TI .i64).sv (Int.tmod x1 6))), (sp (TB.sv (decide ((Int.tmod x1 6) < 4)))), (sp (TB.sv (decide ((Int.tmod x1 6) < 4))))] (by kernel_rfl) (AOK.cons (fun ρ a w hs hz hΓ hp => gp (d_move (hΓ 1 rfl))) (AOK.cons (fun ρ a w hs hz hΓ hp => gp (d_rem (hp 0 _ rfl rfl).1 (vI rfl) (by decide))) (AOK.cons (fun ρ a w hs hz hΓ hp => gp (d_lss (hp 1 _ rfl rfl).1 (vI rfl))) (AOK.cons (fun ρ a w hs hz hΓ hp => gp (d_assign (hp 2 _ rfl rfl).1)) AOK.nil rfl) rfl) rfl) rfl) (fun vs6 => ?_)
      refine T.nil ?_
      refine T.norm ?_
      refine T.ret ?_
      obtain rfl := Option.some.inj hF
      refine T.fin0 fun ρ a w st => ?_
      exact ⟨_, results_one rfl rfl, (st.env 4)⟩
    · replace hF := iteF hF hc
      refine T.seq ?_
      refine T.region mix 2 [14, 13] [0, 1] [(sp (TB.sv (decide (x0 = 2)))), (sp (TB.sv (decide (x0 = 2))))] (by kernel_rfl) (AOK.cons (fun ρ a w hs hz hΓ hp => gp (d_eql (hΓ 5 rfl) (vI rfl))) (AOK.cons (fun ρ a w hs hz hΓ hp => gp (d_assign (hp 0 _ rfl rfl).1)) AOK.nil rfl) rfl) (fun vs7 => ?_)
      refine T.nil ?_
      refine T.norm ?_
      refine T.cond (b := (decide (x0 = 2))) (fun _ _ h => h) (fun hc => ?_) (fun hc => ?_)
      · replace hF := iteT hF hc
        refine T.seq ?_
        refine T.region mix 4 [15, 16, 17, 4] [0, 1, 3, 7] [(sp ((TI .i64).sv x1)), (sp ((TI .i64).sv (Int.tmod x1 2))), (sp (TB.sv (decide ((Int.tmod x1 2) = 0)))), (sp (TB.sv (decide ((Int.tmod x1 2) = 0))))] (by kernel_rfl) (AOK.cons (fun ρ a w hs hz hΓ hp => gp (d_move (hΓ 1 rfl))) (AOK.cons (fun ρ a w hs hz hΓ hp => gp (d_rem (hp 0 _ rfl rfl).1 (vI rfl) (by decide))) (AOK.cons (fun ρ a w hs hz hΓ hp => gp (d_eql (hp 1 _ rfl rfl).1 (vI rfl))) (AOK.cons (fun ρ a w hs hz hΓ hp => gp (d_assign (hp 2 _ rfl rfl).1)) AOK.nil rfl) rfl) rfl) rfl) (fun vs8 => ?_)
        refine T.nil ?_
        refine T.norm ?_
        refine T.ret ?_
        obtain rfl := Option.some.inj hF
        refine T.fin0 fun ρ a w st => ?_
        exact ⟨_, results_one rfl rfl, (st.env 4)⟩
      · replace hF := iteF hF hc
        refine T.seq ?_
        refine T.region mix 2 [19, 18] [0, 1] [(sp (TB.sv (decide (x0 = 3)))), (sp (TB.sv (decide (x0 = 3))))] (by kernel_rfl) (AOK.cons (fun ρ a w hs hz hΓ hp => gp (d_eql (hΓ 5 rfl) (vI rfl))) (AOK.cons (fun ρ a w hs hz hΓ hp => gp (d_assign (hp 0 _ rfl rfl).1)) AOK.nil rfl) rfl) (fun vs9 => ?_)
        refine T.nil ?_
        refine T.norm ?_
        refine T.cond (b := (decide (x0 = 3))) (fun _ _ h => h) (fun hc => ?_) (fun hc => ?_)
        · replace hF := iteT hF hc
          refine T.seq ?_
          refine T.region mix 9 [20, 21, 22, 23, 24, 25, 26, 27, 4] [0, 1, 3, 7, 15, 31, 63, 127, 255] [(sp ((TI .i64).sv x1)), (sp ((TI .i64).sv (Int.tmod x1 8))), (sp (TB.sv (decide ((Int.tmod x1 8) < 5)))), (sp (TB.sv (decide ((Int.tmod x1 8) < 5)))), (sp (SRel.when ((decide ((Int.tmod x1 8) < 5)) = false) ((TI .i64).sv x1))), (sp (SRel.when ((decide ((Int.tmod x1 8) < 5)) = false) ((TI .i64).sv (Int.tmod x1 8)))), (sp (SRel.when ((decide ((Int.tmod x1 8) < 5)) = false) (TB.sv (decide ((Int.tmod x1 8) = 6))))), (sp (TB.sv ((decide ((Int.tmod x1 8) < 5)) || (decide ((Int.tmod x1 8) = 6))))), (sp (TB.sv ((decide ((Int.tmod x1 8) < 5)) || (decide ((Int.tmod x1 8) = 6)))))] (by kernel_rfl) (AOK.cons (fun ρ a w hs hz hΓ hp => gp (d_move (hΓ 1 rfl))) (AOK.cons (fun ρ a w hs hz hΓ hp => gp (d_rem (hp 0 _ rfl rfl).1 (vI rfl) (by decide))) (AOK.cons (fun ρ a w hs hz hΓ hp => gp (d_lss (hp 1 _ rfl rfl).1 (vI rfl))) (AOK.cons (fun ρ a w hs hz hΓ hp => gp (d_move (hp 2 _ rfl rfl).1)) (AOK.cons (fun ρ a w hs hz hΓ hp => gg (g := 3) (d := 23) hz rfl (hp 3 _ rfl rfl).1 rfl (fun hc => d_move (hΓ 1 rfl))) (AOK.cons (fun ρ a w hs hz hΓ hp => gg (g := 3) (d := 23) hz rfl (hp 3 _ rfl rfl).1 rfl (fun hc => d_rem ((hp 4 _ rfl rfl).1 hc) (vI rfl) (by decide))) (AOK.cons (fun ρ a w hs hz hΓ hp => gg (g := 3) (d := 23) hz rfl (hp 3 _ rfl rfl).1 rfl (fun hc => d_eql ((hp 5 _ rfl rfl).1 hc) (vI rfl))) (AOK.cons (fun ρ a w hs hz hΓ hp => gp (d_pick (hp 3 _ rfl rfl).1 (fun hc => pON hc) (fun hc => pO hc ((hp 6 _ rfl rfl).1 hc)))) (AOK.cons (fun ρ a w hs hz hΓ hp => gp (d_assign (hp 7 _ rfl rfl).1)) AOK.nil rfl) rfl) rfl) rfl) rfl) rfl) rfl) rfl) rfl) (fun vs10 => ?_)
          refine T.nil ?_
          refine T.norm ?_
          refine T.ret ?_
          obtain rfl := Option.some.inj hF
          refine T.fin0 fun ρ a w st => ?_
          exact ⟨_, results_one rfl rfl, (st.env 4)⟩
        · replace hF := iteF hF hc
          refine T.skip ?_
          refine T.fallX ?_
          refine T.norm ?_
          refine T.seq ?_
          refine T.region mix 1 [4] [0] [(sp (TB.sv false))] (by kernel_rfl) (AOK.cons (fun ρ a w hs hz hΓ hp => gp (d_assign (vB _))) AOK.nil rfl) (fun vs11 => ?_)
          refine T.nil ?_
          refine T.norm ?_
          refine T.ret ?_
          obtain rfl := Option.some.inj hF
          refine T.fin0 fun ρ a w st => ?_
          exact ⟨_, results_one rfl rfl, (st.env 4)⟩

theorem c21 (w : World) (v0 v1 : Value) {σ : Heap} (hσ : σ.le (snap w)) {x0 : Int} {x1 : Int} {r : Bool} (hF : spec_IsDrawn x0 x1 = some r) (h0 : (TI .i8).val σ v0 x0) (h1 : (TI .i64).val σ v1 x1) :
    Calls Try.prog 21 #[v0, v1] w (Ret [] w σ (TB.sv r) []) := by
  unfold spec_IsDrawn at hF
  refine start (args := [v0, v1]) Try.func21 rfl 12 rfl [] [(0, ((TI .i8).sv x0)), (1, ((TI .i64).sv x1))] [] (sat_start _ hσ) rfl (args1 rfl h0 (args1 rfl h1 (args0))) ?_
  refine T.seq ?_
  refine T.region mix 1 [4] [0] [(sp (TB.sv false))] (by kernel_rfl) (AOK.cons (fun ρ a w hs hz hΓ hp => gp (d_assign (vB _))) AOK.nil rfl) (fun vs1 => ?_)
  refine T.nil ?_
  refine T.norm ?_
  refine T.seq ?_
  obtain ⟨x11, e4, hF⟩ := bindS hF
  obtain ⟨x10, e5⟩ : ∃ (x10 : Bool), (decide (0 ≤ x1)) = true → spec_l06Drawn x0 x1 = some x10 ∧ x10 = x11 := by
    by_cases hb : (decide (0 ≤ x1)) = true
    · replace e4 := iteT e4 hb
      obtain ⟨x10, e3, e4⟩ := bindS e4
      exact ⟨x10, fun _ => ⟨e3, Option.some.inj e4⟩⟩
    · exact ⟨default, fun h => absurd h hb⟩
  have e6 : (decide (0 ≤ x1)) = false → false = x11 := fun h => Option.some.inj (iteF e4 h)
  refine T.region mix 8 [5, 6, 7, 8, 9, 10, 11, 4] [0, 1, 3, 7, 7, 31, 63, 127] [(sp ((TI .i64).sv x1)), (sp (TB.sv (decide (0 ≤ x1)))), (sp (TB.sv (decide (0 ≤ x1)))), (sp (SRel.when ((decide (0 ≤ x1)) = true) ((TI .i8).sv x0))), (sp (SRel.when ((decide (0 ≤ x1)) = true) ((TI .i64).sv x1))), (sp (SRel.when ((decide (0 ≤ x1)) = true) (TB.sv x10))), (sp (TB.sv x11)), (sp (TB.sv x11))] (by kernel_rfl) (AOK.cons (fun ρ a w hs hz hΓ hp => gp (d_move (hΓ 1 rfl))) (AOK.cons (fun ρ a w hs hz hΓ hp => gp (d_geq (hp 0 _ rfl rfl).1 (vI rfl))) (AOK.cons (fun ρ a w hs hz hΓ hp => gp (d_move (hp 1 _ rfl rfl).1)) (AOK.cons (fun ρ a w hs hz hΓ hp => gg (g := 2) (d := 7) hz rfl (hp 2 _ rfl rfl).1 rfl (fun hc => d_move (hΓ 0 rfl))) (AOK.cons (fun ρ a w hs hz hΓ hp => gg (g := 2) (d := 7) hz rfl (hp 2 _ rfl rfl).1 rfl (fun hc => d_move (hΓ 1 rfl))) (AOK.cons (fun ρ a w hs hz hΓ hp => gg (g := 2) (d := 7) hz rfl (hp 2 _ rfl rfl).1 rfl (fun hc => d_call fn62 hs.le mapA2 (c62 w _ _ hs.le (e5 hc).1 ((hp 3 _ rfl rfl).1 hc) ((hp 4 _ rfl rfl).1 hc)))) (AOK.cons (fun ρ a w hs hz hΓ hp => gp (d_pick (hp 2 _ rfl rfl).1 (fun hc => (pE ((e5 hc).2) ((hp 5 _ rfl rfl).1 hc))) (fun hc => pC (e6 hc)))) (AOK.cons (fun ρ a w hs hz hΓ hp => gp (d_assign (hp 6 _ rfl rfl).1)) AOK.nil rfl) rfl) rfl) rfl) rfl) rfl) rfl) rfl) (fun vs2 => ?_)
  refine T.nil ?_
  refine T.norm ?_
  refine T.ret ?_
  obtain rfl := Option.some.inj hF
  refine T.fin0 fun ρ a w st => ?_
  exact ⟨_, results_one rfl rfl, (st.env 4)⟩

theorem c22 (w : World) (v0 v1 : Value) {σ : Heap} (hσ : σ.le (snap w)) {x0 : Int} {x1 : Int} {r : Bool} (hF : impl_IsDrawn x0 x1 = some r) (h0 : (TI .i8).val σ v0 x0) (h1 : (TI .i64).val σ v1 x1) :
    Calls Try.prog 22 #[v0, v1] w (Ret [] w σ (TB.sv r) []) := by
  unfold impl_IsDrawn at hF
  refine start (args := [v0, v1]) Try.func22 rfl 30 rfl [] [(0, ((TI .i8).sv x0)), (1, ((TI .i64).sv x1))] [] (sat_start _ hσ) rfl (args1 rfl h0 (args1 rfl h1 (args0))) ?_
  refine T.seq ?_
  refine T.region mix 1 [4] [0] [(sp (TB.sv false))] (by kernel_rfl) (AOK.cons (fun ρ a w hs hz hΓ hp => gp (d_assign (vB _))) AOK.nil rfl) (fun vs1 => ?_)
  refine T.nil ?_
  refine T.norm ?_
  refine T.seq ?_
  refine T.seq ?_
  refine T.region mix 2 [5, 6] [0, 1] [(sp ((TI .i64).sv x1)), (sp (TB.sv (decide (x1 < 0))))] (by kernel_rfl) (AOK.cons (fun ρ a w hs hz hΓ hp => gp (d_move (hΓ 1 rfl))) (AOK.cons (fun ρ a w hs hz hΓ hp => gp (d_lss (hp 0 _ rfl rfl).1 (vI rfl))) AOK.nil rfl) rfl) (fun vs2 => ?_)
  refine T.nil ?_
  refine T.norm ?_
  refine T.cond (b := (decide (x1 < 0))) (fun _ _ h => h) (fun hc => ?_) (fun hc => ?_)
  · replace hF := iteT hF hc
    refine T.seq ?_
    refine T.region mix 1 [4] [0] [(sp (TB.sv false))] (by kernel_rfl) (AOK.cons (fun ρ a w hs hz hΓ hp => gp (d_assign (vB _))) AOK.nil rfl) (fun vs3 => ?_)
    refine T.nil ?_
    refine T.norm ?_
    refine T.ret ?_
    obtain rfl := Option.some.inj hF
    refine T.fin0 fun ρ a w st => ?_
    exact ⟨_, results_one rfl rfl, (st.env 4)⟩
  · replace hF := iteF hF hc
    refine T.skip ?_
    refine T.norm ?_
    refine T.seq ?_
    refine T.seq ?_
    refine T.region mix 1 [7] [0] [(sp ((TI .i8).sv x0))] (by kernel_rfl) (AOK.cons (fun ρ a w hs hz hΓ hp => gp (d_move (hΓ 0 rfl))) AOK.nil rfl) (fun vs4 => ?_)
    refine T.nil ?_
    refine T.norm ?_
    refine T.block ?_
    refine T.seq ?_
    refine T.region mix 2 [9, 8] [0, 1] [(sp (TB.sv (decide (x0 = 0)))), (sp (TB.sv (decide (x0 = 0))))] (by kernel_rfl) (AOK.cons (fun ρ a w hs hz hΓ hp => gp (d_eql (hΓ 7 rfl) (vI rfl))) (AOK.cons (fun ρ a w hs hz hΓ hp => gp (d_assign (hp 0 _ rfl rfl).1)) AOK.nil rfl) rfl) (fun vs5 => ?_)
    refine T.nil ?_
    refine T.norm ?_
    refine T.cond (b := (decide (x0 = 0))) (fun _ _ h => h) (fun hc => ?_) (fun hc => ?_)
    · replace hF := iteT hF hc
      refine T.seq ?_
      refine T.region mix 1 [4] [0] [(sp (TB.sv true))] (by kernel_rfl) (AOK.cons (fun ρ a w hs hz hΓ hp => gp (d_assign (vB _))) AOK.nil rfl) (fun vs6 => ?_)
      refine T.nil ?_
      refine T.norm ?_
      refine T.ret ?_
      obtain rfl := Option.some.inj hF
      refine T.fin0 fun ρ a w st => ?_
      exact ⟨_, results_one rfl rfl, (st.env 4)⟩
    · replace hF := iteF hF hc
      refine T.seq ?_
      refine T.region mix 2 [11, 10] [0, 1] [(sp (TB.sv (decide (x0 = 1)))), (sp (TB.sv (decide (x0 = 1))))] (by kernel_rfl) (AOK.cons (fun ρ a w hs hz hΓ hp => gp (d_eql (hΓ 7 rfl) (vI rfl))) (AOK.cons (fun ρ a w hs hz hΓ hp => gp (d_assign (hp 0 _ rfl rfl).1)) AOK.nil rfl) rfl) (fun vs7 => ?_)
      refine T.nil ?_
      refine T.norm ?_
      refine T.cond (b := (decide (x0 = 1))) (fun _ _ h => h) (fun hc => ?_) (fun hc => ?_)
      · replace hF := iteT hF hc
        refine T.seq ?_
        refine T.region mix 4 [12, 13, 14, 4] [0, 1, 3, 7] [(sp ((TI .i64).sv x1)), (sp ((TI .i64).sv (Int.tmod x1 6))), (sp (TB.sv (decide ((Int.tmod x1 6) < 4)))), (sp (TB.sv (decide ((Int.tmod x1 6) < 4))))] (by kernel_rfl) (AOK.cons (fun ρ a w hs hz hΓ hp => gp (d_move (hΓ 1 rfl))) (AOK.cons (fun ρ a w hs hz hΓ hp => gp (d_rem (hp 0 _ rfl rfl).1 (vI rfl) (by decide))) (AOK.cons (fun ρ a w hs hz hΓ hp => gp (d_lss (hp 1 _ rfl rfl).1 (vI rfl))) (AOK.cons (fun ρ a w hs hz hΓ hp => gp (d_assign (hp 2 _ rfl rfl).1)) AOK.nil rfl) rfl) rfl) rfl) (fun vs8 => ?_)
        refine T.nil ?_
        refine T.norm ?_
        refine T.ret ?_
        obtain rfl := Option.some.inj hF
        refine T.fin0 fun ρ a w st => ?_
        exact ⟨_, results_one rfl rfl, (st.env 4)⟩
      · replace hF := iteF hF hc
        refine T.seq ?_
        refine T.region mix 2 [16, 15] [0, 1] [(sp (TB.sv (decide (x0 = 2)))), (sp (TB.sv (decide (x0 = 2))))] (by kernel_rfl) (AOK.cons (fun ρ a w hs hz hΓ hp => gp (d_eql (hΓ 7 rfl) (vI rfl))) (AOK.cons (fun ρ a w hs hz hΓ hp => gp (d_assign (hp 0 _ rfl rfl).1)) AOK.nil rfl) rfl) (fun vs9 => ?_)
        refine T.nil ?_
        refine T.norm ?_
        refine T.cond (b := (decide (x0 = 2))) (fun _ _ h => h) (fun hc => ?_) (fun hc => ?_)
        · replace hF := iteT hF hc
          refine T.seq ?_
          refine T.region mix 4 [17, 18, 19, 4] [0, 1, 3, 7] [(sp ((TI .i64).sv x1)), (sp ((TI .i64).sv (Int.tmod x1 2))), (sp (TB.sv (decide ((Int.tmod x1 2) = 0)))), (sp (TB.sv (decide ((Int.tmod x1 2) = 0))))] (by kernel_rfl) (AOK.cons (fun ρ a w hs hz hΓ hp => gp (d_move (hΓ 1 rfl))) (AOK.cons (fun ρ a w hs hz hΓ hp => gp (d_rem (hp 0 _ rfl rfl).1 (vI rfl) (by decide))) (AOK.cons (fun ρ a w hs hz hΓ hp => gp (d_eql (hp 1 _ rfl rfl).1 (vI rfl))) (AOK.cons (fun ρ a w hs hz hΓ hp => gp (d_assign (hp 2 _ rfl rfl).1)) AOK.nil rfl) rfl) rfl) rfl) (fun vs10 => ?_)
          refine T.nil ?_
          refine T.norm ?_
          refine T.ret ?_
          obtain rfl := Option.some.inj hF
          refine T.fin0 fun ρ a w st => ?_
          exact ⟨_, results_one rfl rfl, (st.env 4)⟩
        · replace hF := iteF hF hc
          refine T.seq ?_
          refine T.region mix 2 [21, 20] [0, 1] [(sp (TB.sv (decide (x0 = 3)))), (sp (TB.sv (decide (x0 = 3))))] (by kernel_rfl) (AOK.cons (fun ρ a w hs hz hΓ hp => gp (d_eql (hΓ 7 rfl) (vI rfl))) (AOK.cons (fun ρ a w hs hz hΓ hp => gp (d_assign (hp 0 _ rfl rfl).1)) AOK.nil rfl) rfl) (fun vs11 => ?_)
          refine T.nil ?_
          refine T.norm ?_
          refine T.cond (b := (decide (x0 = 3))) (fun _ _ h => h) (fun hc => ?_) (fun hc => ?_)
          · replace hF := iteT hF hc
            refine T.seq ?_
            refine T.region mix 9 [22, 23, 24, 25, 26, 27, 28, 29, 4] [0, 1, 3, 7, 15, 31, 63, 127, 255] [(sp ((TI .i64).sv x1)), (sp ((TI .i64).sv (Int.tmod x1 8))), (sp (TB.sv (decide ((Int.tmod x1 8) < 5)))), (sp (TB.sv (decide ((Int.tmod x1 8) < 5)))), (sp (SRel.when ((decide ((Int.tmod x1 8) < 5)) = false) ((TI .i64).sv x1))), (sp (SRel.when ((decide ((Int.tmod x1 8) < 5)) = false) ((TI .i64).sv (Int.tmod x1 8)))), (sp (SRel.when ((decide ((Int.tmod x1 8) < 5)) = false) (TB.sv (decide ((Int.tmod x1 8) = 6))))), (sp (TB.sv ((decide ((Int.tmod x1 8) < 5)) || (decide ((Int.tmod x1 8) = 6))))), (sp (TB.sv ((decide ((Int.tmod x1 8) < 5)) || (decide ((Int.tmod x1 8) = 6)))))] (by kernel_rfl) (AOK.cons (fun ρ a w hs hz hΓ hp => gp (d_move (hΓ 1 rfl))) (AOK.cons (fun ρ a w hs hz hΓ hp => gp (d_rem (hp 0 _ rfl rfl).1 (vI rfl) (by decide))) (AOK.cons (fun ρ a w hs hz hΓ hp => gp (d_lss (hp 1 _ rfl rfl).1 (vI rfl))) (AOK.cons (fun ρ a w hs hz hΓ hp => gp (d_move (hp 2 _ rfl rfl).1)) (AOK.cons (fun ρ a w hs hz hΓ hp => gg (g := 3) (d := 25) hz rfl (hp 3 _ rfl rfl).1 rfl (fun hc => d_move (hΓ 1 rfl))) (AOK.cons (fun ρ a w hs hz hΓ hp => gg (g := 3) (d := 25) hz rfl (hp 3 _ rfl rfl).1 rfl (fun hc => d_rem ((hp 4 _ rfl rfl).1 hc) (vI rfl) (by decide))) (AOK.cons (fun ρ a w hs hz hΓ hp => gg (g := 3) (d := 25) hz rfl (hp 3 _ rfl rfl).1 rfl (fun hc => d_eql ((hp 5 _ rfl rfl).1 hc) (vI rfl))) (AOK.cons (fun ρ a w hs hz hΓ hp => gp (d_pick (hp 3 _ rfl rfl).1 (fun hc => pON hc) (fun hc => pO hc ((hp 6 _ rfl rfl).1 hc)))) (AOK.cons (fun ρ a w hs hz hΓ hp => gp (d_assign (hp 7 _ rfl rfl).1)) AOK.nil rfl) rfl) rfl) rfl) rfl) rfl) rfl) rfl) rfl) (fun vs12 => ?_)
            refine T.nil ?_
            refine T.norm ?_
            refine T.ret ?_
            obtain rfl := Option.some.inj hF
            refine T.fin0 fun ρ a w st => ?_
            exact ⟨_, results_one rfl rfl, (st.env 4)⟩
          · replace hF := iteF hF hc
            refine T.skip ?_
            refine T.fallX ?_
            refine T.norm ?_
            refine T.seq ?_
            refine T.region mix 1 [4] [0] [(sp (TB.sv false))] (by kernel_rfl) (AOK.cons (fun ρ a w hs hz hΓ hp => gp (d_assign (vB _))) AOK.nil rfl) (fun vs13 => ?_)
            refine T.nil ?_
            refine T.norm ?_
            refine T.ret ?_
            obtain rfl := Option.some.inj hF
            refine T.fin0 fun ρ a w st => ?_
            exact ⟨_, results_one rfl rfl, (st.env 4)⟩

theorem c5 (w : World) (v0 v1 : Value) {σ : Heap} (hσ : σ.le (snap w)) {x0 : Int} {x1 : Int} {r : Bool} (hF : laws_FnExactIsDrawn x0 x1 = some r) (h0 : (TI .i8).val σ v0 x0) (h1 : (TI .i64).val σ v1 x1) :
    Calls Try.prog 5 #[v0, v1] w (Ret [] w σ (TB.sv r) []) := by
  unfold laws_FnExactIsDrawn at hF
  refine start (args := [v0, v1]) Try.func5 rfl 16 rfl [] [(0, ((TI .i8).sv x0)), (1, ((TI .i64).sv x1))] [] (sat_start _ hσ) rfl (args1 rfl h0 (args1 rfl h1 (args0))) ?_
  refine T.seq ?_
  refine T.region mix 1 [4] [0] [(sp (TB.sv false))] (by kernel_rfl) (AOK.cons (fun ρ a w hs hz hΓ hp => gp (d_assign (vB _))) AOK.nil rfl) (fun vs1 => ?_)
  refine T.nil ?_
  refine T.norm ?_
  refine T.seq ?_
  obtain ⟨x9, e3, hF⟩ := bindS hF
  refine T.region mix 4 [7, 8, 9, 5] [0, 0, 3, 7] [(sp ((TI .i8).sv x0)), (sp ((TI .i64).sv x1)), (sp (TB.sv x9)), (sp (TB.sv x9))] (by kernel_rfl) (AOK.cons (fun ρ a w hs hz hΓ hp => gp (d_move (hΓ 0 rfl))) (AOK.cons (fun ρ a w hs hz hΓ hp => gp (d_move (hΓ 1 rfl))) (AOK.cons (fun ρ a w hs hz hΓ hp => gp (d_call fn21 hs.le mapA2 (c21 w _ _ hs.le e3 ((hp 0 _ rfl rfl).1) ((hp 1 _ rfl rfl).1)))) (AOK.cons (fun ρ a w hs hz hΓ hp => gp (d_assign (hp 2 _ rfl rfl).1)) AOK.nil rfl) rfl) rfl) rfl) (fun vs2 => ?_)
  refine T.nil ?_
  refine T.norm ?_
  refine T.seq ?_
  obtain ⟨x12, e5, hF⟩ := bindS hF
  refine T.region mix 4 [10, 11, 12, 6] [0, 0, 3, 7] [(sp ((TI .i8).sv x0)), (sp ((TI .i64).sv x1)), (sp (TB.sv x12)), (sp (TB.sv x12))] (by kernel_rfl) (AOK.cons (fun ρ a w hs hz hΓ hp => gp (d_move (hΓ 0 rfl))) (AOK.cons (fun ρ a w hs hz hΓ hp => gp (d_move (hΓ 1 rfl))) (AOK.cons (fun ρ a w hs hz hΓ hp => gp (d_call fn22 hs.le mapA2 (c22 w _ _ hs.le e5 ((hp 0 _ rfl rfl).1) ((hp 1 _ rfl rfl).1)))) (AOK.cons (fun ρ a w hs hz hΓ hp => gp (d_assign (hp 2 _ rfl rfl).1)) AOK.nil rfl) rfl) rfl) rfl) (fun vs4 => ?_)
  refine T.nil ?_
  refine T.norm ?_
  refine T.seq ?_
  refine T.seq ?_
  refine T.region mix 3 [13, 14, 15] [0, 0, 3] [(sp (TB.sv x12)), (sp (TB.sv x9)), (sp (TB.sv (x12 != x9)))] (by kernel_rfl) (AOK.cons (fun ρ a w hs hz hΓ hp => gp (d_move (hΓ 6 rfl))) (AOK.cons (fun ρ a w hs hz hΓ hp => gp (d_move (hΓ 5 rfl))) (AOK.cons (fun ρ a w hs hz hΓ hp => gp (d_neqB u4 (hp 0 _ rfl rfl).1 (hp 1 _ rfl rfl).1)) AOK.nil rfl) rfl) rfl) (fun vs6 => ?_)
  refine T.nil ?_
  refine T.norm ?_
  refine T.cond (b := (x12 != x9)) (fun _ _ h => h) (fun hc => ?_) (fun hc => ?_)
  · replace hF := iteT hF hc
    refine T.seq ?_
    refine T.region mix 1 [4] [0] [(sp (TB.sv false))] (by kernel_rfl) (AOK.cons (fun ρ a w hs hz hΓ hp => gp (d_assign (vB _))) AOK.nil rfl) (fun vs7 => ?_)
    refine T.nil ?_
    refine T.norm ?_
    refine T.ret ?_
    obtain rfl := Option.some.inj hF
    refine T.fin0 fun ρ a w st => ?_
    exact ⟨_, results_one rfl rfl, (st.env 4)⟩
  · replace hF := iteF hF hc
    refine T.skip ?_
    refine T.norm ?_
    refine T.seq ?_
    refine T.region mix 1 [4] [0] [(sp (TB.sv true))] (by kernel_rfl) (AOK.cons (fun ρ a w hs hz hΓ hp => gp (d_assign (vB _))) AOK.nil rfl) (fun vs8 => ?_)
    refine T.nil ?_
    refine T.norm ?_
    refine T.ret ?_
    obtain rfl := Option.some.inj hF
    refine T.fin0 fun ρ a w st => ?_
    exact ⟨_, results_one rfl rfl, (st.env 4)⟩

theorem c24 (w : World) (v0 : Value) {σ : Heap} (hσ : σ.le (snap w)) {x0 : ((List Int) × (List Int) × Int)} {r : ((List Int) × (List Int) × Int)} (hF : laws_toStroke x0 = some r) (h0 : Y36.val σ v0 x0) :
    Calls Try.prog 24 #[v0] w (Ret [] w σ (Y36.sv r) []) := by
  unfold laws_toStroke at hF
  refine start (args := [v0]) Try.func24 rfl 16 rfl [] [(0, (Y36.sv x0))] [] (sat_start _ hσ) rfl (args1 rfl h0 (args0)) ?_
  refine T.seq ?_
  refine T.region mix 2 [1, 2] [0, 0] [(sp ((TP Y36).sv x0)), (sO SRel.any [(1, (boxR 40 Y36 ((List.replicate 2 0), (List.replicate 2 0), 0)))])] (by kernel_rfl) (AOK.cons (fun ρ a w hs hz hΓ hp => gp (d_box hs.le (hΓ 0 rfl))) (AOK.cons (fun ρ a w hs hz hΓ hp => g_alloc hs.le z40 zc40) AOK.nil rfl) rfl) (fun vs1 => ?_)
  refine T.nil ?_
  refine T.norm ?_
  refine T.seq ?_
  refine T.region mix 1 [3] [0] [(sO SRel.any [(2, (boxR 40 Y36 ((List.replicate 2 0), (List.replicate 2 0), 0)))])] (by kernel_rfl) (AOK.cons (fun ρ a w hs hz hΓ hp => g_alloc hs.le z40 zc40) AOK.nil rfl) (fun vs2 => ?_)
  refine T.nil ?_
  refine T.norm ?_
  refine T.seq ?_
  obtain ⟨x6, e4, hF⟩ := bindS hF
  refine T.region mix 4 [4, 5, 6, 7] [0, 1, 3, 7, 15] [(sp ((TP Y25).sv x0.1)), (sp (Y25.sv x0.1)), (sp (Y25.sv x6)), (sp (SRel.eq (at_ (vs2 0) (0 + 0))))] (by kernel_rfl) (AOK.cons (fun ρ a w hs hz hΓ hp => gp (d_fieldP fa37_0 (hΓ 1 rfl) (At.fst (At.refl _ _)))) (AOK.cons (fun ρ a w hs hz hΓ hp => gp (d_load y25 hs.le (hp 0 _ rfl rfl).1)) (AOK.cons (fun ρ a w hs hz hΓ hp => gp (d_call fn17 hs.le mapA1 (c17 w _ hs.le e4 ((hp 1 _ rfl rfl).1)))) (AOK.cons (fun ρ a w hs hz hΓ hp => gp (d_fieldO fa40_0 hs 2 rfl (.inl ⟨(hΓ 3 rfl).1, rfl⟩))) AOK.nil rfl) rfl) rfl) rfl) (fun vs3 => ?_)
  refine T.store 2 y29 rfl (fun ρ a w st => ⟨.inr (st.env 7), (st.env 6)⟩) (At.fst (At.refl Y36 ((List.replicate 2 0), (List.replicate 2 0), 0))) ?_
  refine T.nil ?_
  refine T.norm ?_
  refine T.seq ?_
  obtain ⟨x10, e6, hF⟩ := bindS hF
  refine T.region mix 4 [8, 9, 10, 11] [0, 1, 3, 7, 15] [(sp ((TP Y25).sv x0.2.1)), (sp (Y25.sv x0.2.1)), (sp (Y25.sv x10)), (sp (SRel.eq (at_ (vs2 0) (0 + 2))))] (by kernel_rfl) (AOK.cons (fun ρ a w hs hz hΓ hp => gp (d_fieldP fa37_1 (hΓ 1 rfl) (At.fst (At.snd (At.refl _ _))))) (AOK.cons (fun ρ a w hs hz hΓ hp => gp (d_load y25 hs.le (hp 0 _ rfl rfl).1)) (AOK.cons (fun ρ a w hs hz hΓ hp => gp (d_call fn17 hs.le mapA1 (c17 w _ hs.le e6 ((hp 1 _ rfl rfl).1)))) (AOK.cons (fun ρ a w hs hz hΓ hp => gp (d_fieldO fa40_1 hs 2 rfl (.inl ⟨(hΓ 3 rfl).1, rfl⟩))) AOK.nil rfl) rfl) rfl) rfl) (fun vs5 => ?_)
  refine T.store 2 y29 rfl (fun ρ a w st => ⟨.inr (st.env 11), (st.env 10)⟩) (At.fst (At.snd (At.refl Y36 (x6, (List.replicate 2 0), 0)))) ?_
  refine T.nil ?_
  refine T.norm ?_
  refine T.seq ?_
  refine T.region mix 3 [12, 13, 14] [0, 1, 3, 7] [(sp ((TP (TI .i8)).sv x0.2.2)), (sp ((TI .i8).sv x0.2.2)), (sp (SRel.eq (at_ (vs2 0) (0 + 4))))] (by kernel_rfl) (AOK.cons (fun ρ a w hs hz hΓ hp => gp (d_fieldP fa37_2 (hΓ 1 rfl) (At.snd (At.snd (At.refl _ _))))) (AOK.cons (fun ρ a w hs hz hΓ hp => gp (d_load y34 hs.le (hp 0 _ rfl rfl).1)) (AOK.cons (fun ρ a w hs hz hΓ hp => gp (d_fieldO fa40_2 hs 2 rfl (.inl ⟨(hΓ 3 rfl).1, rfl⟩))) AOK.nil rfl) rfl) rfl) (fun vs7 => ?_)
  refine T.store 2 y34 rfl (fun ρ a w st => ⟨.inr (st.env 14), (st.env 13)⟩) (At.snd (At.snd (At.refl Y36 (x6, x10, 0)))) ?_
  refine T.nil ?_
  refine T.norm ?_
  refine T.seq ?_
  refine T.region mix 1 [15] [0, 1] [(sp (Y36.sv (x6, x10, x0.2.2)))] (by kernel_rfl) (AOK.cons (fun ρ a w hs hz hΓ hp => gp (d_loadO y40 hs 2 rfl (.inl ⟨(hΓ 3 rfl).1, rfl⟩) (At.refl Y36 (x6, x10, x0.2.2)))) AOK.nil rfl) (fun vs8 => ?_)
  refine T.store 1 y40 rfl (fun ρ a w st => ⟨.inl ⟨(st.env 2).1, rfl⟩, (st.env 15)⟩) (At.refl Y36 ((List.replicate 2 0), (List.replicate 2 0), 0)) ?_
  refine T.nil ?_
  refine T.norm ?_
  refine T.ret ?_
  obtain rfl := Option.some.inj hF
  refine T.fin0 fun ρ a w st => ?_
  obtain ⟨q0, hr0, hv0⟩ := rv_cell y40 st.sat 1 rfl (st.env 2).1
  exact ⟨_, results_one rfl hr0, hv0⟩

theorem c118 (w : World) (v0 v1 v2 : Value) {σ : Heap} (hσ : σ.le (snap w)) {x0 : Int} {x1 : Int} {x2 : Int} {r : Bool} (hF : spec_l00In x0 x1 x2 = some r) (h0 : (TI .i64).val σ v0 x0) (h1 : (TI .i64).val σ v1 x1) (h2 : (TI .i64).val σ v2 x2) :
    Calls Try.prog 118 #[v0, v1, v2] w (Ret [] w σ (TB.sv r) []) := by
  unfold spec_l00In at hF
  refine start (args := [v0, v1, v2]) Try.func118 rfl 15 rfl [] [(0, ((TI .i64).sv x0)), (1, ((TI .i64).sv x1)), (2, ((TI .i64).sv x2))] [] (sat_start _ hσ) rfl (args1 rfl h0 (args1 rfl h1 (args1 rfl h2 (args0)))) ?_
  refine T.seq ?_
  refine T.region mix 1 [6] [0] [(sp (TB.sv false))] (by kernel_rfl) (AOK.cons (fun ρ a w hs hz hΓ hp => gp (d_assign (vB _))) AOK.nil rfl) (fun vs1 => ?_)
  refine T.nil ?_
  refine T.norm ?_
  refine T.seq ?_
  refine T.region mix 9 [7, 8, 9, 10, 11, 12, 13, 14, 6] [0, 0, 3, 7, 15, 15, 63, 127, 255] [(sp ((TI .i64).sv x0)), (sp ((TI .i64).sv x1)), (sp (TB.sv (decide (x1 ≤ x0)))), (sp (TB.sv (decide (x1 ≤ x0)))), (sp (SRel.when ((decide (x1 ≤ x0)) = true) ((TI .i64).sv x0))), (sp (SRel.when ((decide (x1 ≤ x0)) = true) ((TI .i64).sv x2))), (sp (SRel.when ((decide (x1 ≤ x0)) = true) (TB.sv (decide (x0 ≤ x2))))), (sp (TB.sv ((decide (x1 ≤ x0)) && (decide (x0 ≤ x2))))), (sp (TB.sv ((decide (x1 ≤ x0)) && (decide (x0 ≤ x2)))))] (by kernel_rfl) (AOK.cons (fun ρ a w hs hz hΓ hp => gp (d_move (hΓ 0 rfl))) (AOK.cons (fun ρ a w hs hz hΓ hp => gp (d_move (hΓ 1 rfl))) (AOK.cons (fun ρ a w hs hz hΓ hp => gp (d_geq (hp 0 _ rfl rfl).1 (hp 1 _ rfl rfl).1)) (AOK.cons (fun ρ a w hs hz hΓ hp => gp (d_move (hp 2 _ rfl rfl).1)) (AOK.cons (fun ρ a w hs hz hΓ hp => gg (g := 3) (d := 10) hz rfl (hp 3 _ rfl rfl).1 rfl (fun hc => d_move (hΓ 0 rfl))) (AOK.cons (fun ρ a w hs hz hΓ hp => gg (g := 3) (d := 10) hz rfl (hp 3 _ rfl rfl).1 rfl (fun hc => d_move (hΓ 2 rfl))) (AOK.cons (fun ρ a w hs hz hΓ hp => gg (g := 3) (d := 10) hz rfl (hp 3 _ rfl rfl).1 rfl (fun hc => d_leq ((hp 4 _ rfl rfl).1 hc) ((hp 5 _ rfl rfl).1 hc))) (AOK.cons (fun ρ a w hs hz hΓ hp => gp (d_pick (hp 3 _ rfl rfl).1 (fun hc => pA hc ((hp 6 _ rfl rfl).1 hc)) (fun hc => pAN hc))) (AOK.cons (fun ρ a w hs hz hΓ hp => gp (d_assign (hp 7 _ rfl rfl).1)) AOK.nil rfl) rfl) rfl) rfl) rfl) rfl) rfl) rfl) rfl) (fun vs2 => ?_)
  refine T.nil ?_
  refine T.norm ?_
  refine T.ret ?_
  obtain rfl := Option.some.inj hF
  refine T.fin0 fun ρ a w st => ?_
  exact ⟨_, results_one rfl rfl, (st.env 6)⟩

theorem c84 (w : World) (v0 : Value) {σ : Heap} (hσ : σ.le (snap w)) {x0 : (List Int)} {r : Bool} (hF : spec_l06Mark x0 = some r) (h0 : Y25.val σ v0 x0) :
    Calls Try.prog 84 #[v0] w (Ret [] w σ (TB.sv r) []) := by
  unfold spec_l06Mark at hF
  refine start (args := [v0]) Try.func84 rfl 13 rfl [] [(0, (Y25.sv x0))] [] (sat_start _ hσ) rfl (args1 rfl h0 (args0)) ?_
  refine T.seq ?_
  refine T.region mix 2 [1, 2] [0, 0] [(sp ((TP Y25).sv x0)), (sp (TB.sv false))] (by kernel_rfl) (AOK.cons (fun ρ a w hs hz hΓ hp => gp (d_box hs.le (hΓ 0 rfl))) (AOK.cons (fun ρ a w hs hz hΓ hp => gp (d_assign (vB _))) AOK.nil rfl) rfl) (fun vs1 => ?_)
  refine T.nil ?_
  refine T.norm ?_
  refine T.seq ?_
  obtain ⟨x6, e3, hF⟩ := bindS hF
  obtain ⟨x12, e5, hF⟩ := bindS hF
  obtain ⟨x11, e6⟩ : ∃ (x11 : Bool), x6 = true → spec_l00In (nth x0 1) (-500) 500 = some x11 ∧ x11 = x12 := by
    by_cases hb : x6 = true
    · replace e5 := iteT e5 hb
      obtain ⟨x11, e4, e5⟩ := bindS e5
      exact ⟨x11, fun _ => ⟨e4, Option.some.inj e5⟩⟩
    · exact ⟨default, fun h => absurd h hb⟩
  have e7 : x6 = false → false = x12 := fun h => Option.some.inj (iteF e5 h)
  refine T.region mix 11 [3, 4, 5, 6, 7, 8, 9, 10, 11, 12, 2] [0, 1, 3, 7, 15, 31, 63, 127, 255, 511, 1023] [(sp ((TP (TI .i16)).sv (nth x0 0))), (sp ((TI .i16).sv (nth x0 0))), (sp ((TI .i64).sv (nth x0 0))), (sp (TB.sv x6)), (sp (TB.sv x6)), (sp (SRel.when (x6 = true) ((TP (TI .i16)).sv (nth x0 1)))), (sp (SRel.when (x6 = true) ((TI .i16).sv (nth x0 1)))), (sp (SRel.when (x6 = true) ((TI .i64).sv (nth x0 1)))), (sp (SRel.when (x6 = true) (TB.sv x11))), (sp (TB.sv x12)), (sp (TB.sv x12))] (by kernel_rfl) (AOK.cons (fun ρ a w hs hz hΓ hp => gp (d_idxPc .i64 0 u29 y24 (hΓ 1 rfl) rfl)) (AOK.cons (fun ρ a w hs hz hΓ hp => gp (d_load y24 hs.le (hp 0 _ rfl rfl).1)) (AOK.cons (fun ρ a w hs hz hΓ hp => gp (d_widen u24 u2 rfl (hp 1 _ rfl rfl).1)) (AOK.cons (fun ρ a w hs hz hΓ hp => gp (d_call fn118 hs.le mapA3 (c118 w _ _ _ hs.le e3 ((hp 2 _ rfl rfl).1) (vI rfl) (vI rfl)))) (AOK.cons (fun ρ a w hs hz hΓ hp => gp (d_move (hp 3 _ rfl rfl).1)) (AOK.cons (fun ρ a w hs hz hΓ hp => gg (g := 4) (d := 7) hz rfl (hp 4 _ rfl rfl).1 rfl (fun hc => d_idxPc .i64 1 u29 y24 (hΓ 1 rfl) rfl)) (AOK.cons (fun ρ a w hs hz hΓ hp => gg (g := 4) (d := 7) hz rfl (hp 4 _ rfl rfl).1 rfl (fun hc => d_load y24 hs.le ((hp 5 _ rfl rfl).1 hc))) (AOK.cons (fun ρ a w hs hz hΓ hp => gg (g := 4) (d := 7) hz rfl (hp 4 _ rfl rfl).1 rfl (fun hc => d_widen u24 u2 rfl ((hp 6 _ rfl rfl).1 hc))) (AOK.cons (fun ρ a w hs hz hΓ hp => gg (g := 4) (d := 7) hz rfl (hp 4 _ rfl rfl).1 rfl (fun hc => d_call fn118 hs.le mapA3 (c118 w _ _ _ hs.le (e6 hc).1 ((hp 7 _ rfl rfl).1 hc) (vI rfl) (vI rfl)))) (AOK.cons (fun ρ a w hs hz hΓ hp => gp (d_pick (hp 4 _ rfl rfl).1 (fun hc => (pE ((e6 hc).2) ((hp 8 _ rfl rfl).1 hc))) (fun hc => pC (e7 hc)))) (AOK.cons (fun ρ a w hs hz hΓ hp => gp (d_assign (hp 9 _ rfl rfl).1)) AOK.nil rfl) rfl) rfl) rfl) rfl) rfl) rfl) rfl) rfl) rfl) rfl) (fun vs2 => ?_)
  refine T.nil ?_
  refine T.norm ?_
  refine T.ret ?_
  obtain rfl := Option.some.inj hF
  refine T.fin0 fun ρ a w st => ?_
  exact ⟨_, results_one rfl rfl, (st.env 2)⟩

theorem c101 (w : World) (v0 : Value) {σ : Heap} (hσ : σ.le (snap w)) {x0 : Int} {r : Bool} (hF : spec_l06Dash x0 = some r) (h0 : (TI .i8).val σ v0 x0) :
    Calls Try.prog 101 #[v0] w (Ret [] w σ (TB.sv r) []) := by
  unfold spec_l06Dash at hF
  refine start (args := [v0]) Try.func101 rfl 9 rfl [] [(0, ((TI .i8).sv x0))] [] (sat_start _ hσ) rfl (args1 rfl h0 (args0)) ?_
  refine T.seq ?_
  refine T.region mix 1 [2] [0] [(sp (TB.sv false))] (by kernel_rfl) (AOK.cons (fun ρ a w hs hz hΓ hp => gp (d_assign (vB _))) AOK.nil rfl) (fun vs1 => ?_)
  refine T.nil ?_
  refine T.norm ?_
  refine T.seq ?_
  refine T.region mix 7 [3, 4, 5, 6, 7, 8, 2] [0, 1, 3, 7, 15, 31, 63] [(sp ((TI .i8).sv x0)), (sp (TB.sv (decide (0 ≤ x0)))), (sp (TB.sv (decide (0 ≤ x0)))), (sp (SRel.when ((decide (0 ≤ x0)) = true) ((TI .i8).sv x0))), (sp (SRel.when ((decide (0 ≤ x0)) = true) (TB.sv (decide (x0 ≤ 3))))), (sp (TB.sv ((decide (0 ≤ x0)) && (decide (x0 ≤ 3))))), (sp (TB.sv ((decide (0 ≤ x0)) && (decide (x0 ≤ 3)))))] (by kernel_rfl) (AOK.cons (fun ρ a w hs hz hΓ hp => gp (d_move (hΓ 0 rfl))) (AOK.cons (fun ρ a w hs hz hΓ hp => gp (d_geq (hp 0 _ rfl rfl).1 (vI rfl))) (AOK.cons (fun ρ a w hs hz hΓ hp => gp (d_move (hp 1 _ rfl rfl).1)) (AOK.cons (fun ρ a w hs hz hΓ hp => gg (g := 2) (d := 5) hz rfl (hp 2 _ rfl rfl).1 rfl (fun hc => d_move (hΓ 0 rfl))) (AOK.cons (fun ρ a w hs hz hΓ hp => gg (g := 2) (d := 5) hz rfl (hp 2 _ rfl rfl).1 rfl (fun hc => d_leq ((hp 3 _ rfl rfl).1 hc) (vI rfl))) (AOK.cons (fun ρ a w hs hz hΓ hp => gp (d_pick (hp 2 _ rfl rfl).1 (fun hc => pA hc ((hp 4 _ rfl rfl).1 hc)) (fun hc => pAN hc))) (AOK.cons (fun ρ a w hs hz hΓ hp => gp (d_assign (hp 5 _ rfl rfl).1)) AOK.nil rfl) rfl) rfl) rfl) rfl) rfl) rfl) (fun vs2 => ?_)
  refine T.nil ?_
  refine T.norm ?_
  refine T.ret ?_
  obtain rfl := Option.some.inj hF
  refine T.fin0 fun ρ a w st => ?_
  exact ⟨_, results_one rfl rfl, (st.env 2)⟩

theorem c63 (w : World) (v0 : Value) {σ : Heap} (hσ : σ.le (snap w)) {x0 : ((List Int) × (List Int) × Int)} {r : Bool} (hF : spec_l06Ok x0 = some r) (h0 : (TP Y36).val σ v0 x0) :
    Calls Try.prog 63 #[v0] w (Ret [] w σ (TB.sv r) []) := by
  unfold spec_l06Ok at hF
  refine start (args := [v0]) Try.func63 rfl 22 rfl [] [(0, ((TP Y36).sv x0))] [] (sat_start _ hσ) rfl (args1 rfl h0 (args0)) ?_
  refine T.seq ?_
  refine T.region mix 1 [2] [0] [(sp (TB.sv false))] (by kernel_rfl) (AOK.cons (fun ρ a w hs hz hΓ hp => gp (d_assign (vB _))) AOK.nil rfl) (fun vs1 => ?_)
  refine T.nil ?_
  refine T.norm ?_
  refine T.seq ?_
  obtain ⟨x7, e3, hF⟩ := bindS hF
  obtain ⟨x14, e5, hF⟩ := bindS hF
  obtain ⟨x13, e6⟩ : ∃ (x13 : Bool), x7 = true → spec_l06Mark x0.2.1 = some x13 ∧ x13 = x14 := by
    by_cases hb : x7 = true
    · replace e5 := iteT e5 hb
      obtain ⟨x13, e4, e5⟩ := bindS e5
      exact ⟨x13, fun _ => ⟨e4, Option.some.inj e5⟩⟩
    · exact ⟨default, fun h => absurd h hb⟩
  have e7 : x7 = false → false = x14 := fun h => Option.some.inj (iteF e5 h)
  obtain ⟨x21, e9, hF⟩ := bindS hF
  obtain ⟨x20, e10⟩ : ∃ (x20 : Bool), x14 = true → spec_l06Dash x0.2.2 = some x20 ∧ x20 = x21 := by
    by_cases hb : x14 = true
    · replace e9 := iteT e9 hb
      obtain ⟨x20, e8, e9⟩ := bindS e9
      exact ⟨x20, fun _ => ⟨e8, Option.some.inj e9⟩⟩
    · exact ⟨default, fun h => absurd h hb⟩
  have e11 : x14 = false → false = x21 := fun h => Option.some.inj (iteF e9 h)
  refine T.region mix 20 [3, 4, 5, 6, 7, 8, 9, 10, 11, 12, 13, 14, 15, 16, 17, 18, 19, 20, 21, 2] [0, 1, 3, 7, 15, 31, 63, 127, 255, 511, 1023, 2047, 4095, 8191, 16383, 32767, 65535, 131071, 262143, 524287] [(sp ((TP Y36).sv x0)), (sp ((TP Y36).sv x0)), (sp ((TP Y25).sv x0.1)), (sp (Y25.sv x0.1)), (sp (TB.sv x7)), (sp (TB.sv x7)), (sp (SRel.when (x7 = true) ((TP Y36).sv x0))), (sp (SRel.when (x7 = true) ((TP Y36).sv x0))), (sp (SRel.when (x7 = true) ((TP Y25).sv x0.2.1))), (sp (SRel.when (x7 = true) (Y25.sv x0.2.1))), (sp (SRel.when (x7 = true) (TB.sv x13))), (sp (TB.sv x14)), (sp (TB.sv x14)), (sp (SRel.when (x14 = true) ((TP Y36).sv x0))), (sp (SRel.when (x14 = true) ((TP Y36).sv x0))), (sp (SRel.when (x14 = true) ((TP (TI .i8)).sv x0.2.2))), (sp (SRel.when (x14 = true) ((TI .i8).sv x0.2.2))), (sp (SRel.when (x14 = true) (TB.sv x20))), (sp (TB.sv x21)), (sp (TB.sv x21))] (by kernel_rfl) (AOK.cons (fun ρ a w hs hz hΓ hp => gp (d_move (hΓ 0 rfl))) (AOK.cons (fun ρ a w hs hz hΓ hp => gp (d_nilCheckP (hp 0 _ rfl rfl).1)) (AOK.cons (fun ρ a w hs hz hΓ hp => gp (d_fieldP fa40_0 (hp 1 _ rfl rfl).1 (At.fst (At.refl _ _)))) (AOK.cons (fun ρ a w hs hz hΓ hp => gp (d_load y29 hs.le (hp 2 _ rfl rfl).1)) (AOK.cons (fun ρ a w hs hz hΓ hp => gp (d_call fn84 hs.le mapA1 (c84 w _ hs.le e3 ((hp 3 _ rfl rfl).1)))) (AOK.cons (fun ρ a w hs hz hΓ hp => gp (d_move (hp 4 _ rfl rfl).1)) (AOK.cons (fun ρ a w hs hz hΓ hp => gg (g := 5) (d := 8) hz rfl (hp 5 _ rfl rfl).1 rfl (fun hc => d_move (hΓ 0 rfl))) (AOK.cons (fun ρ a w hs hz hΓ hp => gg (g := 5) (d := 8) hz rfl (hp 5 _ rfl rfl).1 rfl (fun hc => d_nilCheckP ((hp 6 _ rfl rfl).1 hc))) (AOK.cons (fun ρ a w hs hz hΓ hp => gg (g := 5) (d := 8) hz rfl (hp 5 _ rfl rfl).1 rfl (fun hc => d_fieldP fa40_1 ((hp 7 _ rfl rfl).1 hc) (At.fst (At.snd (At.refl _ _))))) (AOK.cons (fun ρ a w hs hz hΓ hp => gg (g := 5) (d := 8) hz rfl (hp 5 _ rfl rfl).1 rfl (fun hc => d_load y29 hs.le ((hp 8 _ rfl rfl).1 hc))) (AOK.cons (fun ρ a w hs hz hΓ hp => gg (g := 5) (d := 8) hz rfl (hp 5 _ rfl rfl).1 rfl (fun hc => d_call fn84 hs.le mapA1 (c84 w _ hs.le (e6 hc).1 ((hp 9 _ rfl rfl).1 hc)))) (AOK.cons (fun ρ a w hs hz hΓ hp => gp (d_pick (hp 5 _ rfl rfl).1 (fun hc => (pE ((e6 hc).2) ((hp 10 _ rfl rfl).1 hc))) (fun hc => pC (e7 hc)))) (AOK.cons (fun ρ a w hs hz hΓ hp => gp (d_move (hp 11 _ rfl rfl).1)) (AOK.cons (fun ρ a w hs hz hΓ hp => gg (g := 12) (d := 15) hz rfl (hp 12 _ rfl rfl).1 rfl (fun hc => d_move (hΓ 0 rfl))) (AOK.cons (fun ρ a w hs hz hΓ hp => gg (g := 12) (d := 15) hz rfl (hp 12 _ rfl rfl).1 rfl (fun hc => d_nilCheckP ((hp 13 _ rfl rfl).1 hc))) (AOK.cons (fun ρ a w hs hz hΓ hp => gg (g := 12) (d := 15) hz rfl (hp 12 _ rfl rfl).1 rfl (fun hc => d_fieldP fa40_2 ((hp 14 _ rfl rfl).1 hc) (At.snd (At.snd (At.refl _ _))))) (AOK.cons (fun ρ a w hs hz hΓ hp => gg (g := 12) (d := 15) hz rfl (hp 12 _ rfl rfl).1 rfl (fun hc => d_load y34 hs.le ((hp 15 _ rfl rfl).1 hc))) (AOK.cons (fun ρ a w hs hz hΓ hp => gg (g := 12) (d := 15) hz rfl (hp 12 _ rfl rfl).1 rfl (fun hc => d_call fn101 hs.le mapA1 (c101 w _ hs.le (e10 hc).1 ((hp 16 _ rfl rfl).1 hc)))) (AOK.cons (fun ρ a w hs hz hΓ hp => gp (d_pick (hp 12 _ rfl rfl).1 (fun hc => (pE ((e10 hc).2) ((hp 17 _ rfl rfl).1 hc))) (fun hc => pC (e11 hc)))) (AOK.cons (fun ρ a w hs hz hΓ hp => gp (d_assign (hp 18 _ rfl rfl).1)) AOK.nil rfl) rfl) rfl) rfl) rfl) rfl) rfl) rfl) rfl) rfl) rfl) rfl) rfl) rfl) rfl) rfl) rfl) rfl) rfl) rfl) (fun vs2 => ?_)
  refine T.nil ?_
  refine T.norm ?_
  refine T.ret ?_
  obtain rfl := Option.some.inj hF
  refine T.fin0 fun ρ a w st => ?_
  exact ⟨_, results_one rfl rfl, (st.env 2)⟩

theorem c23 (w : World) (v0 : Value) {σ : Heap} (hσ : σ.le (snap w)) {x0 : ((List Int) × (List Int) × Int)} {r : Bool} (hF : spec_ValidStroke x0 = some r) (h0 : Y36.val σ v0 x0) :
    Calls Try.prog 23 #[v0] w (Ret [] w σ (TB.sv r) []) := by
  unfold spec_ValidStroke at hF
  refine start (args := [v0]) Try.func23 rfl 4 rfl [] [(0, (Y36.sv x0))] [] (sat_start _ hσ) rfl (args1 rfl h0 (args0)) ?_
  refine T.seq ?_
  refine T.region mix 2 [1, 2] [0, 0] [(sp ((TP Y36).sv x0)), (sp (TB.sv false))] (by kernel_rfl) (AOK.cons (fun ρ a w hs hz hΓ hp => gp (d_box hs.le (hΓ 0 rfl))) (AOK.cons (fun ρ a w hs hz hΓ hp => gp (d_assign (vB _))) AOK.nil rfl) rfl) (fun vs1 => ?_)
  refine T.nil ?_
  refine T.norm ?_
  refine T.seq ?_
  obtain ⟨x3, e3, hF⟩ := bindS hF
  refine T.region mix 2 [3, 2] [0, 1] [(sp (TB.sv x3)), (sp (TB.sv x3))] (by kernel_rfl) (AOK.cons (fun ρ a w hs hz hΓ hp => gp (d_call fn63 hs.le mapA1 (c63 w _ hs.le e3 (hΓ 1 rfl)))) (AOK.cons (fun ρ a w hs hz hΓ hp => gp (d_assign (hp 0 _ rfl rfl).1)) AOK.nil rfl) rfl) (fun vs2 => ?_)
  refine T.nil ?_
  refine T.norm ?_
  refine T.ret ?_
  obtain rfl := Option.some.inj hF
  refine T.fin0 fun ρ a w st => ?_
  exact ⟨_, results_one rfl rfl, (st.env 2)⟩

theorem c119 (w : World) (v0 v1 : Value) {σ : Heap} (hσ : σ.le (snap w)) {x0 : (List (List Int))} {x1 : ((List Int) → Option Bool)} {r : Int} (hF : slices_IndexFunc_Mark_Mark x0 x1 = some r) (h0 : Y64.val σ v0 x0) (h1 : (fn1 Try.prog Y25 TB x1).p σ v1) :
    Calls Try.prog 119 #[v0, v1] w (Ret [] w σ ((TI .i64).sv r) []) := by
  unfold slices_IndexFunc_Mark_Mark at hF
  refine start (args := [v0, v1]) Try.func119 rfl 19 rfl [] [(0, (Y64.sv x0)), (1, (fn1 Try.prog Y25 TB x1))] [] (sat_start _ hσ) rfl (args1 rfl h0 (args1 rfl h1 (args0))) ?_
  refine T.seq ?_
  refine T.region mix 1 [4] [0] [(sp ((TI .i64).sv 0))] (by kernel_rfl) (AOK.cons (fun ρ a w hs hz hΓ hp => gp (d_assign (vI rfl))) AOK.nil rfl) (fun vs1 => ?_)
  refine T.nil ?_
  refine T.norm ?_
  refine T.seq ?_
  refine T.seq ?_
  refine T.region mix 3 [6, 7, 8] [0, 1, 0] [(sp (Y64.sv x0)), (sp ((TI .i64).sv (x0.length : Int))), (sp ((TI .i64).sv 0))] (by kernel_rfl) (AOK.cons (fun ρ a w hs hz hΓ hp => gp (d_move (hΓ 0 rfl))) (AOK.cons (fun ρ a w hs hz hΓ hp => gp (d_lenR u64 (hp 0 _ rfl rfl).1)) (AOK.cons (fun ρ a w hs hz hΓ hp => gp (d_move (vI rfl))) AOK.nil rfl) rfl) rfl) (fun vs2 => ?_)
  refine T.nil ?_
  refine T.norm ?_
  obtain ⟨yl3, e4, hF⟩ := bindS hF
  refine T.joinD (ι := Int × (Unit)) (fun p => yl3 = .inl p.1) (Γ' := fun p => E []) (H' := fun p => HL []) (fun p hy => ?_) (fun hk => ?_)
  · obtain ⟨o8, _⟩ := p
    cases hy
    refine T.norm ?_
    refine T.seq ?_
    refine T.region mix 1 [4] [0] [(sp ((TI .i64).sv (-1)))] (by kernel_rfl) (AOK.cons (fun ρ a w hs hz hΓ hp => gp (d_assign (vI rfl))) AOK.nil rfl) (fun vs5 => ?_)
    refine T.nil ?_
    refine T.norm ?_
    refine T.ret ?_
    obtain rfl := Option.some.inj hF
    refine T.fin0 fun ρ a w st => ?_
    exact ⟨_, results_one rfl rfl, (st.env 4)⟩
  · skip
    refine T.block ?_
    refine T.loop (f := slices_IndexFunc_Mark_Mark_l1 x0 x1) (σ := Int) (Z := Unit) (fun s z => E [(0, (Y64.sv x0)), (1, (fn1 Try.prog Y25 TB x1)), (7, ((TI .i64).sv (x0.length : Int))), (8, ((TI .i64).sv s))]) (fun s z => HL []) e4 () (fun φ h => T.toh h ⟨fun _ _ h => h, fun _ _ h => h, fun _ _ h => h, fun _ _ h => h, trivial⟩ trivial) (fun k s z uu3 hu3 hn3 => ?_)
    obtain ⟨s8, rfl⟩ : ∃ q, q = s := ⟨_, rfl⟩
    dsimp only [slices_IndexFunc_Mark_Mark_l1] at hu3
    refine T.seq ?_
    refine T.region mix 1 [9] [0] [(sp (TB.sv (decide (s8 < (x0.length : Int)))))] (by kernel_rfl) (AOK.cons (fun ρ a w hs hz hΓ hp => gp (d_lss (hΓ 8 rfl) (hΓ 7 rfl))) AOK.nil rfl) (fun vs6 => ?_)
    refine T.nil ?_
    refine T.norm ?_
    refine T.seq ?_
    refine T.cond (b := (decide (s8 < (x0.length : Int)))) (fun _ _ h => h) (fun hc => ?_) (fun hc => ?_)
    · replace hu3 := iteT hu3 hc
      refine T.skip ?_
      refine T.norm ?_
      refine T.seq ?_
      refine T.block ?_
      refine T.seq ?_
      refine T.region mix 2 [10, 5] [0, 1] [(sp ((TI .i64).sv s8)), (sp ((TI .i64).sv s8))] (by kernel_rfl) (AOK.cons (fun ρ a w hs hz hΓ hp => gp (d_move (hΓ 8 rfl))) (AOK.cons (fun ρ a w hs hz hΓ hp => gp (d_assign (hp 0 _ rfl rfl).1)) AOK.nil rfl) rfl) (fun vs7 => ?_)
      refine T.nil ?_
      refine T.norm ?_
      refine T.seq ?_
      obtain ⟨x14, e9, hu3⟩ := bindS hu3
      obtain ⟨x16, e10, hu3⟩ := bindS hu3
      refine T.region mix 6 [11, 12, 13, 14, 15, 16] [0, 0, 0, 6, 14, 31] [(sp (fn1 Try.prog Y25 TB x1)), (sp (Y64.sv x0)), (sp ((TI .i64).sv s8)), (sp ((TP Y25).sv x14)), (sp (Y25.sv x14)), (sp (TB.sv x16))] (by kernel_rfl) (AOK.cons (fun ρ a w hs hz hΓ hp => gp (d_move (hΓ 1 rfl))) (AOK.cons (fun ρ a w hs hz hΓ hp => gp (d_move (hΓ 0 rfl))) (AOK.cons (fun ρ a w hs hz hΓ hp => gp (d_move (hΓ 5 rfl))) (AOK.cons (fun ρ a w hs hz hΓ hp => gp (d_idxR u64 y29 (hp 1 _ rfl rfl).1 (hp 2 _ rfl rfl).1 e9)) (AOK.cons (fun ρ a w hs hz hΓ hp => gp (d_load y29 hs.le (hp 3 _ rfl rfl).1)) (AOK.cons (fun ρ a w hs hz hΓ hp => gp (d_callV1 hs.le flat_TB ((hp 0 _ rfl rfl).1) ((hp 4 _ rfl rfl).1) e10)) AOK.nil rfl) rfl) rfl) rfl) rfl) rfl) (fun vs8 => ?_)
      refine T.nil ?_
      refine T.norm ?_
      refine T.cond (b := x16) (fun _ _ h => h) (fun hc => ?_) (fun hc => ?_)
      · replace hu3 := iteT hu3 hc
        refine T.seq ?_
        refine T.region mix 2 [17, 4] [0, 1] [(sp ((TI .i64).sv s8)), (sp ((TI .i64).sv s8))] (by kernel_rfl) (AOK.cons (fun ρ a w hs hz hΓ hp => gp (d_move (hΓ 5 rfl))) (AOK.cons (fun ρ a w hs hz hΓ hp => gp (d_assign (hp 0 _ rfl rfl).1)) AOK.nil rfl) rfl) (fun vs11 => ?_)
        refine T.nil ?_
        refine T.norm ?_
        refine T.ret ?_
        obtain rfl := Option.some.inj hu3
        cases hn3
        obtain rfl := Option.some.inj hF
        refine T.fin0 fun ρ a w st => ?_
        exact ⟨_, results_one rfl rfl, (st.env 4)⟩
      · replace hu3 := iteF hu3 hc
        refine T.skip ?_
        refine T.fallX ?_
        refine T.norm ?_
        refine T.region mix 2 [18, 8] [0, 1] [(sp ((TI .i64).sv (IntKind.i64.wrap (s8 + 1)))), (sp ((TI .i64).sv (IntKind.i64.wrap (s8 + 1))))] (by kernel_rfl) (AOK.cons (fun ρ a w hs hz hΓ hp => gp (d_add (hΓ 8 rfl) (vI rfl))) (AOK.cons (fun ρ a w hs hz hΓ hp => gp (d_move (hp 0 _ rfl rfl).1)) AOK.nil rfl) rfl) (fun vs12 => ?_)
        refine T.nil ?_
        obtain rfl := Option.some.inj hu3
        exact T.again hn3 () (fun φ h => T.toh h ⟨fun _ _ h => h, fun _ _ h => h, fun _ _ h => h, fun _ _ h => h, trivial⟩ trivial)
    · replace hu3 := iteF hu3 hc
      refine T.exit ?_
      obtain rfl := Option.some.inj hu3
      repeat (first | refine T.passX ?_ | refine T.inX (by decide) ?_)
      refine T.hereX ?_
      exact T.toh (hk (s8, ()) (Eq.symm hn3)) trivial trivial

theorem c102 (w : World) (v0 v1 : Value) {σ : Heap} (hσ : σ.le (snap w)) {x0 : (List (List Int))} {x1 : ((List Int) → Option Bool)} {r : Bool} (hF : slices_ContainsFunc_Mark_Mark x0 x1 = some r) (h0 : Y64.val σ v0 x0) (h1 : (fn1 Try.prog Y25 TB x1).p σ v1) :
    Calls Try.prog 102 #[v0, v1] w (Ret [] w σ (TB.sv r) []) := by
  unfold slices_ContainsFunc_Mark_Mark at hF
  refine start (args := [v0, v1]) Try.func102 rfl 9 rfl [] [(0, (Y64.sv x0)), (1, (fn1 Try.prog Y25 TB x1))] [] (sat_start _ hσ) rfl (args1 rfl h0 (args1 rfl h1 (args0))) ?_
  refine T.seq ?_
  refine T.region mix 1 [4] [0] [(sp (TB.sv false))] (by kernel_rfl) (AOK.cons (fun ρ a w hs hz hΓ hp => gp (d_assign (vB _))) AOK.nil rfl) (fun vs1 => ?_)
  refine T.nil ?_
  refine T.norm ?_
  refine T.seq ?_
  obtain ⟨x7, e3, hF⟩ := bindS hF
  refine T.region mix 5 [5, 6, 7, 8, 4] [0, 0, 3, 7, 15] [(sp (Y64.sv x0)), (sp (fn1 Try.prog Y25 TB x1)), (sp ((TI .i64).sv x7)), (sp (TB.sv (decide (0 ≤ x7)))), (sp (TB.sv (decide (0 ≤ x7))))] (by kernel_rfl) (AOK.cons (fun ρ a w hs hz hΓ hp => gp (d_move (hΓ 0 rfl))) (AOK.cons (fun ρ a w hs hz hΓ hp => gp (d_move (hΓ 1 rfl))) (AOK.cons (fun ρ a w hs hz hΓ hp => gp (d_call fn119 hs.le mapA2 (c119 w _ _ hs.le e3 ((hp 0 _ rfl rfl).1) ((hp 1 _ rfl rfl).1)))) (AOK.cons (fun ρ a w hs hz hΓ hp => gp (d_geq (hp 2 _ rfl rfl).1 (vI rfl))) (AOK.cons (fun ρ a w hs hz hΓ hp => gp (d_assign (hp 3 _ rfl rfl).1)) AOK.nil rfl) rfl) rfl) rfl) rfl) (fun vs2 => ?_)
  refine T.nil ?_
  refine T.norm ?_
  refine T.ret ?_
  obtain rfl := Option.some.inj hF
  refine T.fin0 fun ρ a w st => ?_
  exact ⟨_, results_one rfl rfl, (st.env 4)⟩

theorem c103 (w : World) (v0 : Value) {σ : Heap} (hσ : σ.le (snap w)) {x0 : (List Int)} {r : Bool} (hF : impl_areMarks_c1 x0 = some r) (h0 : Y25.val σ v0 x0) :
    Calls Try.prog 103 #[v0] w (Ret [] w σ (TB.sv r) []) := by
  unfold impl_areMarks_c1 at hF
  refine start (args := [v0]) Try.func103 rfl 15 rfl [] [(0, (Y25.sv x0))] [] (sat_start _ hσ) rfl (args1 rfl h0 (args0)) ?_
  refine T.seq ?_
  refine T.region mix 2 [1, 2] [0, 0] [(sp ((TP Y25).sv x0)), (sp (TB.sv false))] (by kernel_rfl) (AOK.cons (fun ρ a w hs hz hΓ hp => gp (d_box hs.le (hΓ 0 rfl))) (AOK.cons (fun ρ a w hs hz hΓ hp => gp (d_assign (vB _))) AOK.nil rfl) rfl) (fun vs1 => ?_)
  refine T.nil ?_
  refine T.norm ?_
  refine T.seq ?_
  obtain ⟨x6, e3, hF⟩ := bindS hF
  obtain ⟨x14, e5, hF⟩ := bindS hF
  obtain ⟨x12, e6⟩ : ∃ (x12 : Bool), (!x6) = false → impl_within (nth x0 1) (-500) 500 = some x12 ∧ (!x12) = x14 := by
    by_cases hb : (!x6) = false
    · replace e5 := iteF e5 hb
      obtain ⟨x12, e4, e5⟩ := bindS e5
      exact ⟨x12, fun _ => ⟨e4, Option.some.inj e5⟩⟩
    · exact ⟨default, fun h => absurd h hb⟩
  have e7 : (!x6) = true → true = x14 := fun h => Option.some.inj (iteT e5 h)
  refine T.region mix 13 [3, 4, 5, 6, 7, 8, 9, 10, 11, 12, 13, 14, 2] [0, 1, 3, 7, 15, 31, 63, 127, 255, 511, 1023, 2047, 4095] [(sp ((TP (TI .i16)).sv (nth x0 0))), (sp ((TI .i16).sv (nth x0 0))), (sp ((TI .i64).sv (nth x0 0))), (sp (TB.sv x6)), (sp (TB.sv (!x6))), (sp (TB.sv (!x6))), (sp (SRel.when ((!x6) = false) ((TP (TI .i16)).sv (nth x0 1)))), (sp (SRel.when ((!x6) = false) ((TI .i16).sv (nth x0 1)))), (sp (SRel.when ((!x6) = false) ((TI .i64).sv (nth x0 1)))), (sp (SRel.when ((!x6) = false) (TB.sv x12))), (sp (SRel.when ((!x6) = false) (TB.sv (!x12)))), (sp (TB.sv x14)), (sp (TB.sv x14))] (by kernel_rfl) (AOK.cons (fun ρ a w hs hz hΓ hp => gp (d_idxPc .i64 0 u29 y24 (hΓ 1 rfl) rfl)) (AOK.cons (fun ρ a w hs hz hΓ hp => gp (d_load y24 hs.le (hp 0 _ rfl rfl).1)) (AOK.cons (fun ρ a w hs hz hΓ hp => gp (d_widen u24 u2 rfl (hp 1 _ rfl rfl).1)) (AOK.cons (fun ρ a w hs hz hΓ hp => gp (d_call fn98 hs.le mapA3 (c98 w _ _ _ hs.le e3 ((hp 2 _ rfl rfl).1) (vI rfl) (vI rfl)))) (AOK.cons (fun ρ a w hs hz hΓ hp => gp (d_not (hp 3 _ rfl rfl).1)) (AOK.cons (fun ρ a w hs hz hΓ hp => gp (d_move (hp 4 _ rfl rfl).1)) (AOK.cons (fun ρ a w hs hz hΓ hp => gg (g := 5) (d := 8) hz rfl (hp 5 _ rfl rfl).1 rfl (fun hc => d_idxPc .i64 1 u29 y24 (hΓ 1 rfl) rfl)) (AOK.cons (fun ρ a w hs hz hΓ hp => gg (g := 5) (d := 8) hz rfl (hp 5 _ rfl rfl).1 rfl (fun hc => d_load y24 hs.le ((hp 6 _ rfl rfl).1 hc))) (AOK.cons (fun ρ a w hs hz hΓ hp => gg (g := 5) (d := 8) hz rfl (hp 5 _ rfl rfl).1 rfl (fun hc => d_widen u24 u2 rfl ((hp 7 _ rfl rfl).1 hc))) (AOK.cons (fun ρ a w hs hz hΓ hp => gg (g := 5) (d := 8) hz rfl (hp 5 _ rfl rfl).1 rfl (fun hc => d_call fn98 hs.le mapA3 (c98 w _ _ _ hs.le (e6 hc).1 ((hp 8 _ rfl rfl).1 hc) (vI rfl) (vI rfl)))) (AOK.cons (fun ρ a w hs hz hΓ hp => gg (g := 5) (d := 8) hz rfl (hp 5 _ rfl rfl).1 rfl (fun hc => d_not ((hp 9 _ rfl rfl).1 hc))) (AOK.cons (fun ρ a w hs hz hΓ hp => gp (d_pick (hp 5 _ rfl rfl).1 (fun hc => pC (e7 hc)) (fun hc => (pE ((e6 hc).2) ((hp 10 _ rfl rfl).1 hc))))) (AOK.cons (fun ρ a w hs hz hΓ hp => gp (d_assign (hp 11 _ rfl rfl).1)) AOK.nil rfl) rfl) rfl) rfl) rfl) rfl) rfl) rfl) rfl) rfl) rfl) rfl) rfl) (fun vs2 => ?_)
  refine T.nil ?_
  refine T.norm ?_
  refine T.ret ?_
  obtain rfl := Option.some.inj hF
  refine T.fin0 fun ρ a w st => ?_
  exact ⟨_, results_one rfl rfl, (st.env 2)⟩

theorem c64 (w : World) (v0 : Value) {σ : Heap} (hσ : σ.le (snap w)) {x0 : (List (List Int))} {r : Bool} (hF : impl_areMarks x0 = some r) (h0 : Y64.val σ v0 x0) :
    Calls Try.prog 64 #[v0] w (Ret [] w σ (TB.sv r) []) := by
  unfold impl_areMarks at hF
  refine start (args := [v0]) Try.func64 rfl 6 rfl [] [(0, (Y64.sv x0))] [] (sat_start _ hσ) rfl (args1 rfl h0 (args0)) ?_
  refine T.seq ?_
  refine T.region mix 1 [2] [0] [(sp (TB.sv false))] (by kernel_rfl) (AOK.cons (fun ρ a w hs hz hΓ hp => gp (d_assign (vB _))) AOK.nil rfl) (fun vs1 => ?_)
  refine T.nil ?_
  refine T.norm ?_
  refine T.seq ?_
  obtain ⟨x4, e3, hF⟩ := bindS hF
  refine T.region mix 4 [3, 4, 5, 2] [0, 1, 3, 7] [(sp (Y64.sv x0)), (sp (TB.sv x4)), (sp (TB.sv (!x4))), (sp (TB.sv (!x4)))] (by kernel_rfl) (AOK.cons (fun ρ a w hs hz hΓ hp => gp (d_move (hΓ 0 rfl))) (AOK.cons (fun ρ a w hs hz hΓ hp => gp (d_call fn102 hs.le mapA2 (c102 w _ _ hs.le e3 ((hp 0 _ rfl rfl).1) (fv1 fn103 flat_TB (fun w σ u0 x0 y hσ h0 hf => c103 w _  hσ hf h0))))) (AOK.cons (fun ρ a w hs hz hΓ hp => gp (d_not (hp 1 _ rfl rfl).1)) (AOK.cons (fun ρ a w hs hz hΓ hp => gp (d_assign (hp 2 _ rfl rfl).1)) AOK.nil rfl) rfl) rfl) rfl) (fun vs2 => ?_)
  refine T.nil ?_
  refine T.norm ?_
  refine T.ret ?_
  obtain rfl := Option.some.inj hF
  refine T.fin0 fun ρ a w st => ?_
  exact ⟨_, results_one rfl rfl, (st.env 2)⟩

theorem c65 (w : World) (v0 : Value) {σ : Heap} (hσ : σ.le (snap w)) {x0 : Int} {r : Bool} (hF : impl_isDash x0 = some r) (h0 : (TI .i8).val σ v0 x0) :
    Calls Try.prog 65 #[v0] w (Ret [] w σ (TB.sv r) []) := by
  unfold impl_isDash at hF
  refine start (args := [v0]) Try.func65 rfl 6 rfl [] [(0, ((TI .i8).sv x0))] [] (sat_start _ hσ) rfl (args1 rfl h0 (args0)) ?_
  refine T.seq ?_
  refine T.region mix 1 [2] [0] [(sp (TB.sv false))] (by kernel_rfl) (AOK.cons (fun ρ a w hs hz hΓ hp => gp (d_assign (vB _))) AOK.nil rfl) (fun vs1 => ?_)
  refine T.nil ?_
  refine T.norm ?_
  refine T.seq ?_
  obtain ⟨x5, e3, hF⟩ := bindS hF
  refine T.region mix 4 [3, 4, 5, 2] [0, 1, 3, 7] [(sp ((TI .i8).sv x0)), (sp ((TI .i64).sv x0)), (sp (TB.sv x5)), (sp (TB.sv x5))] (by kernel_rfl) (AOK.cons (fun ρ a w hs hz hΓ hp => gp (d_move (hΓ 0 rfl))) (AOK.cons (fun ρ a w hs hz hΓ hp => gp (d_widen u34 u2 rfl (hp 0 _ rfl rfl).1)) (AOK.cons (fun ρ a w hs hz hΓ hp => gp (d_call fn98 hs.le mapA3 (c98 w _ _ _ hs.le e3 ((hp 1 _ rfl rfl).1) (vI rfl) (vI rfl)))) (AOK.cons (fun ρ a w hs hz hΓ hp => gp (d_assign (hp 2 _ rfl rfl).1)) AOK.nil rfl) rfl) rfl) rfl) (fun vs2 => ?_)
  refine T.nil ?_
  refine T.norm ?_
  refine T.ret ?_
  obtain rfl := Option.some.inj hF
  refine T.fin0 fun ρ a w st => ?_
  exact ⟨_, results_one rfl rfl, (st.env 2)⟩

theorem c25 (w : World) (v0 : Value) {σ : Heap} (hσ : σ.le (snap w)) {x0 : ((List Int) × (List Int) × Int)} {r : Bool} (hF : impl_ValidStroke x0 = some r) (h0 : Y36.val σ v0 x0) :
    Calls Try.prog 25 #[v0] w (Ret [] w σ (TB.sv r) []) := by
  unfold impl_ValidStroke at hF
  refine start (args := [v0]) Try.func25 rfl 14 rfl [] [(0, (Y36.sv x0))] [] (sat_start _ hσ) rfl (args1 rfl h0 (args0)) ?_
  refine T.seq ?_
  refine T.region mix 2 [1, 2] [0, 0] [(sp ((TP Y36).sv x0)), (sp (TB.sv false))] (by kernel_rfl) (AOK.cons (fun ρ a w hs hz hΓ hp => gp (d_box hs.le (hΓ 0 rfl))) (AOK.cons (fun ρ a w hs hz hΓ hp => gp (d_assign (vB _))) AOK.nil rfl) rfl) (fun vs1 => ?_)
  refine T.nil ?_
  refine T.norm ?_
  refine T.seq ?_
  obtain ⟨x8, e3, hF⟩ := bindS hF
  obtain ⟨x13, e5, hF⟩ := bindS hF
  obtain ⟨x12, e6⟩ : ∃ (x12 : Bool), x8 = true → impl_isDash x0.2.2 = some x12 ∧ x12 = x13 := by
    by_cases hb : x8 = true
    · replace e5 := iteT e5 hb
      obtain ⟨x12, e4, e5⟩ := bindS e5
      exact ⟨x12, fun _ => ⟨e4, Option.some.inj e5⟩⟩
    · exact ⟨default, fun h => absurd h hb⟩
  have e7 : x8 = false → false = x13 := fun h => Option.some.inj (iteF e5 h)
  refine T.region mix 12 [3, 4, 5, 6, 7, 8, 9, 10, 11, 12, 13, 2] [0, 1, 0, 4, 15, 31, 63, 127, 255, 511, 1023, 2047] [(sp ((TP Y25).sv x0.1)), (sp (Y25.sv x0.1)), (sp ((TP Y25).sv x0.2.1)), (sp (Y25.sv x0.2.1)), (sp (Y64.sv ([x0.1, x0.2.1] : List (List Int)))), (sp (TB.sv x8)), (sp (TB.sv x8)), (sp (SRel.when (x8 = true) ((TP (TI .i8)).sv x0.2.2))), (sp (SRel.when (x8 = true) ((TI .i8).sv x0.2.2))), (sp (SRel.when (x8 = true) (TB.sv x12))), (sp (TB.sv x13)), (sp (TB.sv x13))] (by kernel_rfl) (AOK.cons (fun ρ a w hs hz hΓ hp => gp (d_fieldP fa40_0 (hΓ 1 rfl) (At.fst (At.refl _ _)))) (AOK.cons (fun ρ a w hs hz hΓ hp => gp (d_load y29 hs.le (hp 0 _ rfl rfl).1)) (AOK.cons (fun ρ a w hs hz hΓ hp => gp (d_fieldP fa40_1 (hΓ 1 rfl) (At.fst (At.snd (At.refl _ _))))) (AOK.cons (fun ρ a w hs hz hΓ hp => gp (d_load y29 hs.le (hp 2 _ rfl rfl).1)) (AOK.cons (fun ρ a w hs hz hΓ hp => gp (d_buildSl hs.le u64 y29 z29 (by decide) (by decide) zc29 (Fills.part rfl (hp 1 _ rfl rfl).1 (At.nth (At.refl _ _) 0 rfl) (Fills.part rfl (hp 3 _ rfl rfl).1 (At.nth (At.refl _ _) 1 rfl) (Fills.done _))))) (AOK.cons (fun ρ a w hs hz hΓ hp => gp (d_call fn64 hs.le mapA1 (c64 w _ hs.le e3 ((hp 4 _ rfl rfl).1)))) (AOK.cons (fun ρ a w hs hz hΓ hp => gp (d_move (hp 5 _ rfl rfl).1)) (AOK.cons (fun ρ a w hs hz hΓ hp => gg (g := 6) (d := 9) hz rfl (hp 6 _ rfl rfl).1 rfl (fun hc => d_fieldP fa40_2 (hΓ 1 rfl) (At.snd (At.snd (At.refl _ _))))) (AOK.cons (fun ρ a w hs hz hΓ hp => gg (g := 6) (d := 9) hz rfl (hp 6 _ rfl rfl).1 rfl (fun hc => d_load y34 hs.le ((hp 7 _ rfl rfl).1 hc))) (AOK.cons (fun ρ a w hs hz hΓ hp => gg (g := 6) (d := 9) hz rfl (hp 6 _ rfl rfl).1 rfl (fun hc => d_call fn65 hs.le mapA1 (c65 w _ hs.le (e6 hc).1 ((hp 8 _ rfl rfl).1 hc)))) (AOK.cons (fun ρ a w hs hz hΓ hp => gp (d_pick (hp 6 _ rfl rfl).1 (fun hc => (pE ((e6 hc).2) ((hp 9 _ rfl rfl).1 hc))) (fun hc => pC (e7 hc)))) (AOK.cons (fun ρ a w hs hz hΓ hp => gp (d_assign (hp 10 _ rfl rfl).1)) AOK.nil rfl) rfl) rfl) rfl) rfl) rfl) rfl) rfl) rfl) rfl) rfl) rfl) (fun vs2 => ?_)
  refine T.nil ?_
  refine T.norm ?_
  refine T.ret ?_
  obtain rfl := Option.some.inj hF
  refine T.fin0 fun ρ a w st => ?_
  exact ⟨_, results_one rfl rfl, (st.env 2)⟩

theorem c6 (w : World) (v0 : Value) {σ : Heap} (hσ : σ.le (snap w)) {x0 : ((List Int) × (List Int) × Int)} {r : Bool} (hF : laws_FnExactValidStroke x0 = some r) (h0 : Y36.val σ v0 x0) :
    Calls Try.prog 6 #[v0] w (Ret [] w σ (TB.sv r) []) := by
  unfold laws_FnExactValidStroke at hF
  refine start (args := [v0]) Try.func6 rfl 14 rfl [] [(0, (Y36.sv x0))] [] (sat_start _ hσ) rfl (args1 rfl h0 (args0)) ?_
  refine T.seq ?_
  refine T.region mix 2 [1, 2] [0, 0] [(sp ((TP Y36).sv x0)), (sp (TB.sv false))] (by kernel_rfl) (AOK.cons (fun ρ a w hs hz hΓ hp => gp (d_box hs.le (hΓ 0 rfl))) (AOK.cons (fun ρ a w hs hz hΓ hp => gp (d_assign (vB _))) AOK.nil rfl) rfl) (fun vs1 => ?_)
  refine T.nil ?_
  refine T.norm ?_
  refine T.seq ?_
  obtain ⟨x6, e3, hF⟩ := bindS hF
  obtain ⟨x7, e4, hF⟩ := bindS hF
  refine T.region mix 4 [5, 6, 7, 3] [0, 1, 3, 7] [(sp (Y36.sv x0)), (sp (Y36.sv x6)), (sp (TB.sv x7)), (sp (TB.sv x7))] (by kernel_rfl) (AOK.cons (fun ρ a w hs hz hΓ hp => gp (d_load y37 hs.le (hΓ 1 rfl))) (AOK.cons (fun ρ a w hs hz hΓ hp => gp (d_call fn24 hs.le mapA1 (c24 w _ hs.le e3 ((hp 0 _ rfl rfl).1)))) (AOK.cons (fun ρ a w hs hz hΓ hp => gp (d_call fn23 hs.le mapA1 (c23 w _ hs.le e4 ((hp 1 _ rfl rfl).1)))) (AOK.cons (fun ρ a w hs hz hΓ hp => gp (d_assign (hp 2 _ rfl rfl).1)) AOK.nil rfl) rfl) rfl) rfl) (fun vs2 => ?_)
  refine T.nil ?_
  refine T.norm ?_
  refine T.seq ?_
  obtain ⟨x9, e6, hF⟩ := bindS hF
  obtain ⟨x10, e7, hF⟩ := bindS hF
  refine T.region mix 4 [8, 9, 10, 4] [0, 1, 3, 7] [(sp (Y36.sv x0)), (sp (Y36.sv x9)), (sp (TB.sv x10)), (sp (TB.sv x10))] (by kernel_rfl) (AOK.cons (fun ρ a w hs hz hΓ hp => gp (d_load y37 hs.le (hΓ 1 rfl))) (AOK.cons (fun ρ a w hs hz hΓ hp => gp (d_call fn24 hs.le mapA1 (c24 w _ hs.le e6 ((hp 0 _ rfl rfl).1)))) (AOK.cons (fun ρ a w hs hz hΓ hp => gp (d_call fn25 hs.le mapA1 (c25 w _ hs.le e7 ((hp 1 _ rfl rfl).1)))) (AOK.cons (fun ρ a w hs hz hΓ hp => gp (d_assign (hp 2 _ rfl rfl).1)) AOK.nil rfl) rfl) rfl) rfl) (fun vs5 => ?_)
  refine T.nil ?_
  refine T.norm ?_
  refine T.seq ?_
  refine T.seq ?_
  refine T.region mix 3 [11, 12, 13] [0, 0, 3] [(sp (TB.sv x10)), (sp (TB.sv x7)), (sp (TB.sv (x10 != x7)))] (by kernel_rfl) (AOK.cons (fun ρ a w hs hz hΓ hp => gp (d_move (hΓ 4 rfl))) (AOK.cons (fun ρ a w hs hz hΓ hp => gp (d_move (hΓ 3 rfl))) (AOK.cons (fun ρ a w hs hz hΓ hp => gp (d_neqB u4 (hp 0 _ rfl rfl).1 (hp 1 _ rfl rfl).1)) AOK.nil rfl) rfl) rfl) (fun vs8 => ?_)
  refine T.nil ?_
  refine T.norm ?_
  refine T.cond (b := (x10 != x7)) (fun _ _ h => h) (fun hc => ?_) (fun hc => ?_)
  · replace hF := iteT hF hc
    refine T.seq ?_
    refine T.region mix 1 [2] [0] [(sp (TB.sv false))] (by kernel_rfl) (AOK.cons (fun ρ a w hs hz hΓ hp => gp (d_assign (vB _))) AOK.nil rfl) (fun vs9 => ?_)
    refine T.nil ?_
    refine T.norm ?_
    refine T.ret ?_
    obtain rfl := Option.some.inj hF
    refine T.fin0 fun ρ a w st => ?_
    exact ⟨_, results_one rfl rfl, (st.env 2)⟩
  · replace hF := iteF hF hc
    refine T.skip ?_
    refine T.norm ?_
    refine T.seq ?_
    refine T.region mix 1 [2] [0] [(sp (TB.sv true))] (by kernel_rfl) (AOK.cons (fun ρ a w hs hz hΓ hp => gp (d_assign (vB _))) AOK.nil rfl) (fun vs10 => ?_)
    refine T.nil ?_
    refine T.norm ?_
    refine T.ret ?_
    obtain rfl := Option.some.inj hF
    refine T.fin0 fun ρ a w st => ?_
    exact ⟨_, results_one rfl rfl, (st.env 2)⟩

theorem c26 (w : World) (v0 : Value) {σ : Heap} (hσ : σ.le (snap w)) {x0 : (List Int)} {r : Int} (hF : spec_CountInk x0 = some r) (h0 : Y23.val σ v0 x0) :
    Calls Try.prog 26 #[v0] w (Ret [] w σ ((TI .i64).sv r) []) := by
  unfold spec_CountInk at hF
  refine start (args := [v0]) Try.func26 rfl 23 rfl [] [(0, (Y23.sv x0))] [] (sat_start _ hσ) rfl (args1 rfl h0 (args0)) ?_
  refine T.seq ?_
  refine T.region mix 2 [1, 2] [0, 0] [(sp ((TP Y23).sv x0)), (sp ((TI .i64).sv 0))] (by kernel_rfl) (AOK.cons (fun ρ a w hs hz hΓ hp => gp (d_box hs.le (hΓ 0 rfl))) (AOK.cons (fun ρ a w hs hz hΓ hp => gp (d_assign (vI rfl))) AOK.nil rfl) rfl) (fun vs1 => ?_)
  refine T.nil ?_
  refine T.norm ?_
  refine T.seq ?_
  refine T.region mix 1 [3] [0] [(sp ((TI .i64).sv 0))] (by kernel_rfl) (AOK.cons (fun ρ a w hs hz hΓ hp => gp (d_assign (vI rfl))) AOK.nil rfl) (fun vs2 => ?_)
  refine T.nil ?_
  refine T.norm ?_
  refine T.seq ?_
  refine T.seq ?_
  refine T.region mix 1 [4] [0] [(sp ((TI .i64).sv 0))] (by kernel_rfl) (AOK.cons (fun ρ a w hs hz hΓ hp => gp (d_assign (vI rfl))) AOK.nil rfl) (fun vs3 => ?_)
  refine T.nil ?_
  refine T.norm ?_
  obtain ⟨yl4, e5, hF⟩ := bindS hF
  refine T.joinD (ι := (Int × Int) × (Unit)) (fun p => yl4 = p.1) (Γ' := fun p => E [(3, ((TI .i64).sv p.1.1))]) (H' := fun p => HL []) (fun p hy => ?_) (fun hk => ?_)
  · obtain ⟨⟨o3, o4⟩, _⟩ := p
    cases hy
    refine T.norm ?_
    refine T.seq ?_
    refine T.region mix 2 [22, 2] [0, 1] [(sp ((TI .i64).sv o3)), (sp ((TI .i64).sv o3))] (by kernel_rfl) (AOK.cons (fun ρ a w hs hz hΓ hp => gp (d_move (hΓ 3 rfl))) (AOK.cons (fun ρ a w hs hz hΓ hp => gp (d_assign (hp 0 _ rfl rfl).1)) AOK.nil rfl) rfl) (fun vs6 => ?_)
    refine T.nil ?_
    refine T.norm ?_
    refine T.ret ?_
    obtain rfl := Option.some.inj hF
    refine T.fin0 fun ρ a w st => ?_
    exact ⟨_, results_one rfl rfl, (st.env 2)⟩
  · skip
    refine T.block ?_
    refine T.loop (f := spec_CountInk_l1 x0) (σ := (Int × Int)) (Z := Unit) (fun s z => E [(1, ((TP Y23).sv x0)), (3, ((TI .i64).sv s.1)), (4, ((TI .i64).sv s.2))]) (fun s z => HL []) e5 () (fun φ h => T.toh h ⟨fun _ _ h => h, fun _ _ h => h, fun _ _ h => h, trivial⟩ trivial) (fun k s z uu4 hu4 hn4 => ?_)
    obtain ⟨s3, s4⟩ := s
    dsimp only [spec_CountInk_l1] at hu4
    refine T.seq ?_
    refine T.seq ?_
    refine T.region mix 2 [6, 7] [0, 1] [(sp ((TI .i64).sv s4)), (sp (TB.sv (decide (s4 < 64))))] (by kernel_rfl) (AOK.cons (fun ρ a w hs hz hΓ hp => gp (d_move (hΓ 4 rfl))) (AOK.cons (fun ρ a w hs hz hΓ hp => gp (d_lss (hp 0 _ rfl rfl).1 (vI rfl))) AOK.nil rfl) rfl) (fun vs7 => ?_)
    refine T.nil ?_
    refine T.norm ?_
    refine T.cond (b := (decide (s4 < 64))) (fun _ _ h => h) (fun hc => ?_) (fun hc => ?_)
    · replace hu4 := iteT hu4 hc
      refine T.skip ?_
      refine T.norm ?_
      refine T.seq ?_
      refine T.block ?_
      refine T.seq ?_
      obtain ⟨x11, e9, hu4⟩ := bindS hu4
      refine T.region mix 4 [10, 11, 12, 5] [0, 1, 3, 7] [(sp ((TI .i64).sv s4)), (sp ((TP (TI .u64)).sv x11)), (sp ((TI .u64).sv x11)), (sp ((TI .u64).sv x11))] (by kernel_rfl) (AOK.cons (fun ρ a w hs hz hΓ hp => gp (d_move (hΓ 4 rfl))) (AOK.cons (fun ρ a w hs hz hΓ hp => gp (d_idxP u27 y22 (hΓ 1 rfl) (hp 0 _ rfl rfl).1 e9)) (AOK.cons (fun ρ a w hs hz hΓ hp => gp (d_load y22 hs.le (hp 1 _ rfl rfl).1)) (AOK.cons (fun ρ a w hs hz hΓ hp => gp (d_assign (hp 2 _ rfl rfl).1)) AOK.nil rfl) rfl) rfl) rfl) (fun vs8 => ?_)
      refine T.nil ?_
      refine T.norm ?_
      obtain ⟨yl10, e11, hu4⟩ := bindS hu4
      refine T.joinD (ι := (Int × Int) × (Unit)) (fun p => yl10 = p.1) (Γ' := fun p => E [(1, ((TP Y23).sv x0)), (3, ((TI .i64).sv p.1.1)), (4, ((TI .i64).sv s4))]) (H' := fun p => HL []) (fun p hy => ?_) (fun hk => ?_)
      · obtain ⟨⟨o3_13, o5⟩, _⟩ := p
        cases hy
        refine T.fallX ?_
        refine T.norm ?_
        refine T.region mix 3 [8, 9, 4] [0, 1, 3] [(sp ((TI .i64).sv s4)), (sp ((TI .i64).sv (IntKind.i64.wrap (s4 + 1)))), (sp ((TI .i64).sv (IntKind.i64.wrap (s4 + 1))))] (by kernel_rfl) (AOK.cons (fun ρ a w hs hz hΓ hp => gp (d_move (hΓ 4 rfl))) (AOK.cons (fun ρ a w hs hz hΓ hp => gp (d_add (hp 0 _ rfl rfl).1 (vI rfl))) (AOK.cons (fun ρ a w hs hz hΓ hp => gp (d_assign (hp 1 _ rfl rfl).1)) AOK.nil rfl) rfl) rfl) (fun vs14 => ?_)
        refine T.nil ?_
        obtain rfl := Option.some.inj hu4
        exact T.again hn4 () (fun φ h => T.toh h ⟨fun _ _ h => h, fun _ _ h => h, fun _ _ h => h, trivial⟩ trivial)
      · skip
        refine T.block ?_
        refine T.loop (f := spec_CountInk_l2) (σ := (Int × Int)) (Z := Unit) (fun s z => E [(1, ((TP Y23).sv x0)), (3, ((TI .i64).sv s.1)), (4, ((TI .i64).sv s4)), (5, ((TI .u64).sv s.2))]) (fun s z => HL []) e11 () (fun φ h => T.toh h ⟨fun _ _ h => h, fun _ _ h => h, fun _ _ h => h, fun _ _ h => h, trivial⟩ trivial) (fun k s z uu10 hu10 hn10 => ?_)
        obtain ⟨s3_12, s5⟩ := s
        dsimp only [spec_CountInk_l2] at hu10
        refine T.seq ?_
        refine T.seq ?_
        refine T.region mix 2 [13, 14] [0, 1] [(sp ((TI .u64).sv s5)), (sp (TB.sv (decide (s5 ≠ 0))))] (by kernel_rfl) (AOK.cons (fun ρ a w hs hz hΓ hp => gp (d_move (hΓ 5 rfl))) (AOK.cons (fun ρ a w hs hz hΓ hp => gp (d_neq (hp 0 _ rfl rfl).1 (vI rfl))) AOK.nil rfl) rfl) (fun vs15 => ?_)
        refine T.nil ?_
        refine T.norm ?_
        refine T.cond (b := (decide (s5 ≠ 0))) (fun _ _ h => h) (fun hc => ?_) (fun hc => ?_)
        · replace hu10 := iteT hu10 hc
          refine T.skip ?_
          refine T.norm ?_
          refine T.seq ?_
          refine T.block ?_
          refine T.region mix 6 [17, 18, 19, 20, 21, 3] [0, 0, 2, 6, 15, 31] [(sp ((TI .i64).sv s3_12)), (sp ((TI .u64).sv s5)), (sp ((TI .u64).sv (bitop .and .u64 s5 1))), (sp ((TI .i64).sv (IntKind.i64.wrap (bitop .and .u64 s5 1)))), (sp ((TI .i64).sv (IntKind.i64.wrap (s3_12 + (IntKind.i64.wrap (bitop .and .u64 s5 1)))))), (sp ((TI .i64).sv (IntKind.i64.wrap (s3_12 + (IntKind.i64.wrap (bitop .and .u64 s5 1))))))] (by kernel_rfl) (AOK.cons (fun ρ a w hs hz hΓ hp => gp (d_move (hΓ 3 rfl))) (AOK.cons (fun ρ a w hs hz hΓ hp => gp (d_move (hΓ 5 rfl))) (AOK.cons (fun ρ a w hs hz hΓ hp => gp (d_and (hp 1 _ rfl rfl).1 (vI rfl))) (AOK.cons (fun ρ a w hs hz hΓ hp => gp (d_conv u22 u2 (hp 2 _ rfl rfl).1)) (AOK.cons (fun ρ a w hs hz hΓ hp => gp (d_add (hp 0 _ rfl rfl).1 (hp 3 _ rfl rfl).1)) (AOK.cons (fun ρ a w hs hz hΓ hp => gp (d_assign (hp 4 _ rfl rfl).1)) AOK.nil rfl) rfl) rfl) rfl) rfl) rfl) (fun vs16 => ?_)
          refine T.nil ?_
          refine T.fallX ?_
          refine T.norm ?_
          refine T.region mix 3 [15, 16, 5] [0, 1, 3] [(sp ((TI .u64).sv s5)), (sp ((TI .u64).sv (Int.fdiv s5 (2 ^ (min (1 : Int).toNat IntKind.u64.bits))))), (sp ((TI .u64).sv (Int.fdiv s5 (2 ^ (min (1 : Int).toNat IntKind.u64.bits)))))] (by kernel_rfl) (AOK.cons (fun ρ a w hs hz hΓ hp => gp (d_move (hΓ 5 rfl))) (AOK.cons (fun ρ a w hs hz hΓ hp => gp (d_shr (hp 0 _ rfl rfl).1 (vI rfl) (by decide))) (AOK.cons (fun ρ a w hs hz hΓ hp => gp (d_assign (hp 1 _ rfl rfl).1)) AOK.nil rfl) rfl) rfl) (fun vs17 => ?_)
          refine T.nil ?_
          obtain rfl := Option.some.inj hu10
          exact T.again hn10 () (fun φ h => T.toh h ⟨fun _ _ h => h, fun _ _ h => h, fun _ _ h => h, fun _ _ h => h, trivial⟩ trivial)
        · replace hu10 := iteF hu10 hc
          refine T.exit ?_
          obtain rfl := Option.some.inj hu10
          repeat (first | refine T.passX ?_ | refine T.inX (by decide) ?_)
          refine T.hereX ?_
          exact T.toh (hk ((s3_12, s5), ()) (Eq.symm hn10)) ⟨fun _ _ h => h, fun _ _ h => h, fun _ _ h => h, trivial⟩ trivial
    · replace hu4 := iteF hu4 hc
      refine T.exit ?_
      obtain rfl := Option.some.inj hu4
      repeat (first | refine T.passX ?_ | refine T.inX (by decide) ?_)
      refine T.hereX ?_
      exact T.toh (hk ((s3, s4), ()) (Eq.symm hn4)) ⟨fun _ _ h => h, trivial⟩ trivial

theorem c66 (w : World) (v0 : Value) {σ : Heap} (hσ : σ.le (snap w)) {x0 : Int} {r : Int} (hF : math_bits_OnesCount64 x0 = some r) (h0 : (TI .u64).val σ v0 x0) :
    Calls Try.prog 66 #[v0] w (Ret [] w σ ((TI .i64).sv r) []) := by
  unfold math_bits_OnesCount64 at hF
  refine start (args := [v0]) Try.func66 rfl 35 rfl [] [(0, ((TI .u64).sv x0))] [] (sat_start _ hσ) rfl (args1 rfl h0 (args0)) ?_
  refine T.seq ?_
  refine T.region mix 1 [2] [0] [(sp ((TI .i64).sv 0))] (by kernel_rfl) (AOK.cons (fun ρ a w hs hz hΓ hp => gp (d_assign (vI rfl))) AOK.nil rfl) (fun vs1 => ?_)
  refine T.nil ?_
  refine T.norm ?_
  refine T.seq ?_
  refine T.region mix 7 [3, 4, 5, 6, 7, 8, 0] [0, 1, 3, 0, 8, 31, 63] [(sp ((TI .u64).sv x0)), (sp ((TI .u64).sv (Int.fdiv x0 (2 ^ (min (1 : Int).toNat IntKind.u64.bits))))), (sp ((TI .u64).sv (bitop .and .u64 (Int.fdiv x0 (2 ^ (min (1 : Int).toNat IntKind.u64.bits))) 6148914691236517205))), (sp ((TI .u64).sv x0)), (sp ((TI .u64).sv (bitop .and .u64 x0 6148914691236517205))), (sp ((TI .u64).sv (IntKind.u64.wrap ((bitop .and .u64 (Int.fdiv x0 (2 ^ (min (1 : Int).toNat IntKind.u64.bits))) 6148914691236517205) + (bitop .and .u64 x0 6148914691236517205))))), (sp ((TI .u64).sv (IntKind.u64.wrap ((bitop .and .u64 (Int.fdiv x0 (2 ^ (min (1 : Int).toNat IntKind.u64.bits))) 6148914691236517205) + (bitop .and .u64 x0 6148914691236517205)))))] (by kernel_rfl) (AOK.cons (fun ρ a w hs hz hΓ hp => gp (d_move (hΓ 0 rfl))) (AOK.cons (fun ρ a w hs hz hΓ hp => gp (d_shr (hp 0 _ rfl rfl).1 (vI rfl) (by decide))) (AOK.cons (fun ρ a w hs hz hΓ hp => gp (d_and (hp 1 _ rfl rfl).1 (vI rfl))) (AOK.cons (fun ρ a w hs hz hΓ hp => gp (d_move (hΓ 0 rfl))) (AOK.cons (fun ρ a w hs hz hΓ hp => gp (d_and (hp 3 _ rfl rfl).1 (vI rfl))) (AOK.cons (fun ρ a w hs hz hΓ hp => gp (d_add (hp 2 _ rfl rfl).1 (hp 4 _ rfl rfl).1)) (AOK.cons (fun ρ a w hs hz hΓ hp => gp (d_assign (hp 5 _ rfl rfl).1)) AOK.nil rfl) rfl) rfl) rfl) rfl) rfl) rfl) (fun vs2 => ?_)
  refine T.nil ?_
  refine T.norm ?_
  refine T.seq ?_
  refine T.region mix 7 [9, 10, 11, 12, 13, 14, 0] [0, 1, 3, 0, 8, 31, 63] [(sp ((TI .u64).sv (IntKind.u64.wrap ((bitop .and .u64 (Int.fdiv x0 (2 ^ (min (1 : Int).toNat IntKind.u64.bits))) 6148914691236517205) + (bitop .and .u64 x0 6148914691236517205))))), (sp ((TI .u64).sv (Int.fdiv (IntKind.u64.wrap ((bitop .and .u64 (Int.fdiv x0 (2 ^ (min (1 : Int).toNat IntKind.u64.bits))) 6148914691236517205) + (bitop .and .u64 x0 6148914691236517205))) (2 ^ (min (2 : Int).toNat IntKind.u64.bits))))), (sp ((TI .u64).sv (bitop .and .u64 (Int.fdiv (IntKind.u64.wrap ((bitop .and .u64 (Int.fdiv x0 (2 ^ (min (1 : Int).toNat IntKind.u64.bits))) 6148914691236517205) + (bitop .and .u64 x0 6148914691236517205))) (2 ^ (min (2 : Int).toNat IntKind.u64.bits))) 3689348814741910323))), (sp ((TI .u64).sv (IntKind.u64.wrap ((bitop .and .u64 (Int.fdiv x0 (2 ^ (min (1 : Int).toNat IntKind.u64.bits))) 6148914691236517205) + (bitop .and .u64 x0 6148914691236517205))))), (sp ((TI .u64).sv (bitop .and .u64 (IntKind.u64.wrap ((bitop .and .u64 (Int.fdiv x0 (2 ^ (min (1 : Int).toNat IntKind.u64.bits))) 6148914691236517205) + (bitop .and .u64 x0 6148914691236517205))) 3689348814741910323))), (sp ((TI .u64).sv (IntKind.u64.wrap ((bitop .and .u64 (Int.fdiv (IntKind.u64.wrap ((bitop .and .u64 (Int.fdiv x0 (2 ^ (min (1 : Int).toNat IntKind.u64.bits))) 6148914691236517205) + (bitop .and .u64 x0 6148914691236517205))) (2 ^ (min (2 : Int).toNat IntKind.u64.bits))) 3689348814741910323) + (bitop .and .u64 (IntKind.u64.wrap ((bitop .and .u64 (Int.fdiv x0 (2 ^ (min (1 : Int).toNat IntKind.u64.bits))) 6148914691236517205) + (bitop .and .u64 x0 6148914691236517205))) 3689348814741910323))))), (sp ((TI .u64).sv (IntKind.u64.wrap ((bitop .and .u64 (Int.fdiv (IntKind.u64.wrap ((bitop .and .u64 (Int.fdiv x0 (2 ^ (min (1 : Int).toNat IntKind.u64.bits))) 6148914691236517205) + (bitop .and .u64 x0 6148914691236517205))) (2 ^ (min (2 : Int).toNat IntKind.u64.bits))) 3689348814741910323) + (bitop .and .u64 (IntKind.u64.wrap ((bitop .and .u64 (Int.fdiv x0 (2 ^ (min (1 : Int).toNat IntKind.u64.bits))) 6148914691236517205) + (bitop .and .u64 x0 6148914691236517205))) 3689348814741910323)))))] (by kernel_rfl) (AOK.cons (fun ρ a w hs hz hΓ hp => gp (d_move (hΓ 0 rfl))) (AOK.cons (fun ρ a w hs hz hΓ hp => gp (d_shr (hp 0 _ rfl rfl).1 (vI rfl) (by decide))) (AOK.cons (fun ρ a w hs hz hΓ hp => gp (d_and (hp 1 _ rfl rfl).1 (vI rfl))) (AOK.cons (fun ρ a w hs hz hΓ hp => gp (d_move (hΓ 0 rfl))) (AOK.cons (fun ρ a w hs hz hΓ hp => gp (d_and (hp 3 _ rfl rfl).1 (vI rfl))) (AOK.cons (fun ρ a w hs hz hΓ hp => gp (d_add (hp 2 _ rfl rfl).1 (hp 4 _ rfl rfl).1)) (AOK.cons (fun ρ a w hs hz hΓ hp => gp (d_assign (hp 5 _ rfl rfl).1)) AOK.nil rfl) rfl) rfl) rfl) rfl) rfl) rfl) (fun vs3 => ?_)
  refine T.nil ?_
  refine T.norm ?_
  refine T.seq ?_
  refine T.region mix 6 [15, 16, 17, 18, 19, 0] [0, 1, 0, 7, 15, 31] [(sp ((TI .u64).sv (IntKind.u64.wrap ((bitop .and .u64 (Int.fdiv (IntKind.u64.wrap ((bitop .and .u64 (Int.fdiv x0 (2 ^ (min (1 : Int).toNat IntKind.u64.bits))) 6148914691236517205) + (bitop .and .u64 x0 6148914691236517205))) (2 ^ (min (2 : Int).toNat IntKind.u64.bits))) 3689348814741910323) + (bitop .and .u64 (IntKind.u64.wrap ((bitop .and .u64 (Int.fdiv x0 (2 ^ (min (1 : Int).toNat IntKind.u64.bits))) 6148914691236517205) + (bitop .and .u64 x0 6148914691236517205))) 3689348814741910323))))), (sp ((TI .u64).sv (Int.fdiv (IntKind.u64.wrap ((bitop .and .u64 (Int.fdiv (IntKind.u64.wrap ((bitop .and .u64 (Int.fdiv x0 (2 ^ (min (1 : Int).toNat IntKind.u64.bits))) 6148914691236517205) + (bitop .and .u64 x0 6148914691236517205))) (2 ^ (min (2 : Int).toNat IntKind.u64.bits))) 3689348814741910323) + (bitop .and .u64 (IntKind.u64.wrap ((bitop .and .u64 (Int.fdiv x0 (2 ^ (min (1 : Int).toNat IntKind.u64.bits))) 6148914691236517205) + (bitop .and .u64 x0 6148914691236517205))) 3689348814741910323))) (2 ^ (min (4 : Int).toNat IntKind.u64.bits))))), (sp ((TI .u64).sv (IntKind.u64.wrap ((bitop .and .u64 (Int.fdiv (IntKind.u64.wrap ((bitop .and .u64 (Int.fdiv x0 (2 ^ (min (1 : Int).toNat IntKind.u64.bits))) 6148914691236517205) + (bitop .and .u64 x0 6148914691236517205))) (2 ^ (min (2 : Int).toNat IntKind.u64.bits))) 3689348814741910323) + (bitop .and .u64 (IntKind.u64.wrap ((bitop .and .u64 (Int.fdiv x0 (2 ^ (min (1 : Int).toNat IntKind.u64.bits))) 6148914691236517205) + (bitop .and .u64 x0 6148914691236517205))) 3689348814741910323))))), (sp ((TI .u64).sv (IntKind.u64.wrap ((Int.fdiv (IntKind.u64.wrap ((bitop .and .u64 (Int.fdiv (IntKind.u64.wrap ((bitop .and .u64 (Int.fdiv x0 (2 ^ (min (1 : Int).toNat IntKind.u64.bits))) 6148914691236517205) + (bitop .and .u64 x0 6148914691236517205))) (2 ^ (min (2 : Int).toNat IntKind.u64.bits))) 3689348814741910323) + (bitop .and .u64 (IntKind.u64.wrap ((bitop .and .u64 (Int.fdiv x0 (2 ^ (min (1 : Int).toNat IntKind.u64.bits))) 6148914691236517205) + (bitop .and .u64 x0 6148914691236517205))) 3689348814741910323))) (2 ^ (min (4 : Int).toNat IntKind.u64.bits))) + (IntKind.u64.wrap ((bitop .and .u64 (Int.fdiv (IntKind.u64.wrap ((bitop .and .u64 (Int.fdiv x0 (2 ^ (min (1 : Int).toNat IntKind.u64.bits))) 6148914691236517205) + (bitop .and .u64 x0 6148914691236517205))) (2 ^ (min (2 : Int).toNat IntKind.u64.bits))) 3689348814741910323) + (bitop .and .u64 (IntKind.u64.wrap ((bitop .and .u64 (Int.fdiv x0 (2 ^ (min (1 : Int).toNat IntKind.u64.bits))) 6148914691236517205) + (bitop .and .u64 x0 6148914691236517205))) 3689348814741910323))))))), (sp ((TI .u64).sv (bitop .and .u64 (IntKind.u64.wrap ((Int.fdiv (IntKind.u64.wrap ((bitop .and .u64 (Int.fdiv (IntKind.u64.wrap ((bitop .and .u64 (Int.fdiv x0 (2 ^ (min (1 : Int).toNat IntKind.u64.bits))) 6148914691236517205) + (bitop .and .u64 x0 6148914691236517205))) (2 ^ (min (2 : Int).toNat IntKind.u64.bits))) 3689348814741910323) + (bitop .and .u64 (IntKind.u64.wrap ((bitop .and .u64 (Int.fdiv x0 (2 ^ (min (1 : Int).toNat IntKind.u64.bits))) 6148914691236517205) + (bitop .and .u64 x0 6148914691236517205))) 3689348814741910323))) (2 ^ (min (4 : Int).toNat IntKind.u64.bits))) + (IntKind.u64.wrap ((bitop .and .u64 (Int.fdiv (IntKind.u64.wrap ((bitop .and .u64 (Int.fdiv x0 (2 ^ (min (1 : Int).toNat IntKind.u64.bits))) 6148914691236517205) + (bitop .and .u64 x0 6148914691236517205))) (2 ^ (min (2 : Int).toNat IntKind.u64.bits))) 3689348814741910323) + (bitop .and .u64 (IntKind.u64.wrap ((bitop .and .u64 (Int.fdiv x0 (2 ^ (min (1 : Int).toNat IntKind.u64.bits))) 6148914691236517205) + (bitop .and .u64 x0 6148914691236517205))) 3689348814741910323))))) 1085102592571150095))), (sp ((TI .u64).sv (bitop .and .u64 (IntKind.u64.wrap ((Int.fdiv (IntKind.u64.wrap ((bitop .and .u64 (Int.fdiv (IntKind.u64.wrap ((bitop .and .u64 (Int.fdiv x0 (2 ^ (min (1 : Int).toNat IntKind.u64.bits))) 6148914691236517205) + (bitop .and .u64 x0 6148914691236517205))) (2 ^ (min (2 : Int).toNat IntKind.u64.bits))) 3689348814741910323) + (bitop .and .u64 (IntKind.u64.wrap ((bitop .and .u64 (Int.fdiv x0 (2 ^ (min (1 : Int).toNat IntKind.u64.bits))) 6148914691236517205) + (bitop .and .u64 x0 6148914691236517205))) 3689348814741910323))) (2 ^ (min (4 : Int).toNat IntKind.u64.bits))) + (IntKind.u64.wrap ((bitop .and .u64 (Int.fdiv (IntKind.u64.wrap ((bitop .and .u64 (Int.fdiv x0 (2 ^ (min (1 : Int).toNat IntKind.u64.bits))) 6148914691236517205) + (bitop .and .u64 x0 6148914691236517205))) (2 ^ (min (2 : Int).toNat IntKind.u64.bits))) 3689348814741910323) + (bitop .and .u64 (IntKind.u64.wrap ((bitop .and .u64 (Int.fdiv x0 (2 ^ (min (1 : Int).toNat IntKind.u64.bits))) 6148914691236517205) + (bitop .and .u64 x0 6148914691236517205))) 3689348814741910323))))) 1085102592571150095)))] (by kernel_rfl) (AOK.cons (fun ρ a w hs hz hΓ hp => gp (d_move (hΓ 0 rfl))) (AOK.cons (fun ρ a w hs hz hΓ hp => gp (d_shr (hp 0 _ rfl rfl).1 (vI rfl) (by decide))) (AOK.cons (fun ρ a w hs hz hΓ hp => gp (d_move (hΓ 0 rfl))) (AOK.cons (fun ρ a w hs hz hΓ hp => gp (d_add (hp 1 _ rfl rfl).1 (hp 2 _ rfl rfl).1)) (AOK.cons (fun ρ a w hs hz hΓ hp => gp (d_and (hp 3 _ rfl rfl).1 (vI rfl))) (AOK.cons (fun ρ a w hs hz hΓ hp => gp (d_assign (hp 4 _ rfl rfl).1)) AOK.nil rfl) rfl) rfl) rfl) rfl) rfl) (fun vs4 => ?_)
  refine T.nil ?_
  refine T.norm ?_
  refine T.seq ?_
  refine T.region mix 5 [20, 21, 22, 23, 0] [0, 0, 2, 7, 15] [(sp ((TI .u64).sv (bitop .and .u64 (IntKind.u64.wrap ((Int.fdiv (IntKind.u64.wrap ((bitop .and .u64 (Int.fdiv (IntKind.u64.wrap ((bitop .and .u64 (Int.fdiv x0 (2 ^ (min (1 : Int).toNat IntKind.u64.bits))) 6148914691236517205) + (bitop .and .u64 x0 6148914691236517205))) (2 ^ (min (2 : Int).toNat IntKind.u64.bits))) 3689348814741910323) + (bitop .and .u64 (IntKind.u64.wrap ((bitop .and .u64 (Int.fdiv x0 (2 ^ (min (1 : Int).toNat IntKind.u64.bits))) 6148914691236517205) + (bitop .and .u64 x0 6148914691236517205))) 3689348814741910323))) (2 ^ (min (4 : Int).toNat IntKind.u64.bits))) + (IntKind.u64.wrap ((bitop .and .u64 (Int.fdiv (IntKind.u64.wrap ((bitop .and .u64 (Int.fdiv x0 (2 ^ (min (1 : Int).toNat IntKind.u64.bits))) 6148914691236517205) + (bitop .and .u64 x0 6148914691236517205))) (2 ^ (min (2 : Int).toNat IntKind.u64.bits))) 3689348814741910323) + (bitop .and .u64 (IntKind.u64.wrap ((bitop .and .u64 (Int.fdiv x0 (2 ^ (min (1 : Int).toNat IntKind.u64.bits))) 6148914691236517205) + (bitop .and .u64 x0 6148914691236517205))) 3689348814741910323))))) 1085102592571150095))), (sp ((TI .u64).sv (bitop .and .u64 (IntKind.u64.wrap ((Int.fdiv (IntKind.u64.wrap ((bitop .and .u64 (Int.fdiv (IntKind.u64.wrap ((bitop .and .u64 (Int.fdiv x0 (2 ^ (min (1 : Int).toNat IntKind.u64.bits))) 6148914691236517205) + (bitop .and .u64 x0 6148914691236517205))) (2 ^ (min (2 : Int).toNat IntKind.u64.bits))) 3689348814741910323) + (bitop .and .u64 (IntKind.u64.wrap ((bitop .and .u64 (Int.fdiv x0 (2 ^ (min (1 : Int).toNat IntKind.u64.bits))) 6148914691236517205) + (bitop .and .u64 x0 6148914691236517205))) 3689348814741910323))) (2 ^ (min (4 : Int).toNat IntKind.u64.bits))) + (IntKind.u64.wrap ((bitop .and .u64 (Int.fdiv (IntKind.u64.wrap ((bitop .and .u64 (Int.fdiv x0 (2 ^ (min (1 : Int).toNat IntKind.u64.bits))) 6148914691236517205) + (bitop .and .u64 x0 6148914691236517205))) (2 ^ (min (2 : Int).toNat IntKind.u64.bits))) 3689348814741910323) + (bitop .and .u64 (IntKind.u64.wrap ((bitop .and .u64 (Int.fdiv x0 (2 ^ (min (1 : Int).toNat IntKind.u64.bits))) 6148914691236517205) + (bitop .and .u64 x0 6148914691236517205))) 3689348814741910323))))) 1085102592571150095))), (sp ((TI .u64).sv (Int.fdiv (bitop .and .u64 (IntKind.u64.wrap ((Int.fdiv (IntKind.u64.wrap ((bitop .and .u64 (Int.fdiv (IntKind.u64.wrap ((bitop .and .u64 (Int.fdiv x0 (2 ^ (min (1 : Int).toNat IntKind.u64.bits))) 6148914691236517205) + (bitop .and .u64 x0 6148914691236517205))) (2 ^ (min (2 : Int).toNat IntKind.u64.bits))) 3689348814741910323) + (bitop .and .u64 (IntKind.u64.wrap ((bitop .and .u64 (Int.fdiv x0 (2 ^ (min (1 : Int).toNat IntKind.u64.bits))) 6148914691236517205) + (bitop .and .u64 x0 6148914691236517205))) 3689348814741910323))) (2 ^ (min (4 : Int).toNat IntKind.u64.bits))) + (IntKind.u64.wrap ((bitop .and .u64 (Int.fdiv (IntKind.u64.wrap ((bitop .and .u64 (Int.fdiv x0 (2 ^ (min (1 : Int).toNat IntKind.u64.bits))) 6148914691236517205) + (bitop .and .u64 x0 6148914691236517205))) (2 ^ (min (2 : Int).toNat IntKind.u64.bits))) 3689348814741910323) + (bitop .and .u64 (IntKind.u64.wrap ((bitop .and .u64 (Int.fdiv x0 (2 ^ (min (1 : Int).toNat IntKind.u64.bits))) 6148914691236517205) + (bitop .and .u64 x0 6148914691236517205))) 3689348814741910323))))) 1085102592571150095) (2 ^ (min (8 : Int).toNat IntKind.u64.bits))))), (sp ((TI .u64).sv (IntKind.u64.wrap ((bitop .and .u64 (IntKind.u64.wrap ((Int.fdiv (IntKind.u64.wrap ((bitop .and .u64 (Int.fdiv (IntKind.u64.wrap ((bitop .and .u64 (Int.fdiv x0 (2 ^ (min (1 : Int).toNat IntKind.u64.bits))) 6148914691236517205) + (bitop .and .u64 x0 6148914691236517205))) (2 ^ (min (2 : Int).toNat IntKind.u64.bits))) 3689348814741910323) + (bitop .and .u64 (IntKind.u64.wrap ((bitop .and .u64 (Int.fdiv x0 (2 ^ (min (1 : Int).toNat IntKind.u64.bits))) 6148914691236517205) + (bitop .and .u64 x0 6148914691236517205))) 3689348814741910323))) (2 ^ (min (4 : Int).toNat IntKind.u64.bits))) + (IntKind.u64.wrap ((bitop .and .u64 (Int.fdiv (IntKind.u64.wrap ((bitop .and .u64 (Int.fdiv x0 (2 ^ (min (1 : Int).toNat IntKind.u64.bits))) 6148914691236517205) + (bitop .and .u64 x0 6148914691236517205))) (2 ^ (min (2 : Int).toNat IntKind.u64.bits))) 3689348814741910323) + (bitop .and .u64 (IntKind.u64.wrap ((bitop .and .u64 (Int.fdiv x0 (2 ^ (min (1 : Int).toNat IntKind.u64.bits))) 6148914691236517205) + (bitop .and .u64 x0 6148914691236517205))) 3689348814741910323))))) 1085102592571150095) + (Int.fdiv (bitop .and .u64 (IntKind.u64.wrap ((Int.fdiv (IntKind.u64.wrap ((bitop .and .u64 (Int.fdiv (IntKind.u64.wrap ((bitop .and .u64 (Int.fdiv x0 (2 ^ (min (1 : Int).toNat IntKind.u64.bits))) 6148914691236517205) + (bitop .and .u64 x0 6148914691236517205))) (2 ^ (min (2 : Int).toNat IntKind.u64.bits))) 3689348814741910323) + (bitop .and .u64 (IntKind.u64.wrap ((bitop .and .u64 (Int.fdiv x0 (2 ^ (min (1 : Int).toNat IntKind.u64.bits))) 6148914691236517205) + (bitop .and .u64 x0 6148914691236517205))) 3689348814741910323))) (2 ^ (min (4 : Int).toNat IntKind.u64.bits))) + (IntKind.u64.wrap ((bitop .and .u64 (Int.fdiv (IntKind.u64.wrap ((bitop .and .u64 (Int.fdiv x0 (2 ^ (min (1 : Int).toNat IntKind.u64.bits))) 6148914691236517205) + (bitop .and .u64 x0 6148914691236517205))) (2 ^ (min (2 : Int).toNat IntKind.u64.bits))) 3689348814741910323) + (bitop .and .u64 (IntKind.u64.wrap ((bitop .and .u64 (Int.fdiv x0 (2 ^ (min (1 : Int).toNat IntKind.u64.bits))) 6148914691236517205) + (bitop .and .u64 x0 6148914691236517205))) 3689348814741910323))))) 1085102592571150095) (2 ^ (min (8 : Int).toNat IntKind.u64.bits))))))), (sp ((TI .u64).sv (IntKind.u64.wrap ((bitop .and .u64 (IntKind.u64.wrap ((Int.fdiv (IntKind.u64.wrap ((bitop .and .u64 (Int.fdiv (IntKind.u64.wrap ((bitop .and .u64 (Int.fdiv x0 (2 ^ (min (1 : Int).toNat IntKind.u64.bits))) 6148914691236517205) + (bitop .and .u64 x0 6148914691236517205))) (2 ^ (min (2 : Int).toNat IntKind.u64.bits))) 3689348814741910323) + (bitop .and .u64 (IntKind.u64.wrap ((bitop .and .u64 (Int.fdiv x0 (2 ^ (min (1 : Int).toNat IntKind.u64.bits))) 6148914691236517205) + (bitop .and .u64 x0 6148914691236517205))) 3689348814741910323))) (2 ^ (min (4 : Int).toNat IntKind.u64.bits))) + (IntKind.u64.wrap ((bitop .and .u64 (Int.fdiv (IntKind.u64.wrap ((bitop .and .u64 (Int.fdiv x0 (2 ^ (min (1 : Int).toNat IntKind.u64.bits))) 6148914691236517205) + (bitop .and .u64 x0 6148914691236517205))) (2 ^ (min (2 : Int).toNat IntKind.u64.bits))) 3689348814741910323) + (bitop .and .u64 (IntKind.u64.wrap ((bitop .and .u64 (Int.fdiv x0 (2 ^ (min (1 : Int).toNat IntKind.u64.bits))) 6148914691236517205) + (bitop .and .u64 x0 6148914691236517205))) 3689348814741910323))))) 1085102592571150095) + (Int.fdiv (bitop .and .u64 (IntKind.u64.wrap ((Int.fdiv (IntKind.u64.wrap ((bitop .and .u64 (Int.fdiv (IntKind.u64.wrap ((bitop .and .u64 (Int.fdiv x0 (2 ^ (min (1 : Int).toNat IntKind.u64.bits))) 6148914691236517205) + (bitop .and .u64 x0 6148914691236517205))) (2 ^ (min (2 : Int).toNat IntKind.u64.bits))) 3689348814741910323) + (bitop .and .u64 (IntKind.u64.wrap ((bitop .and .u64 (Int.fdiv x0 (2 ^ (min (1 : Int).toNat IntKind.u64.bits))) 6148914691236517205) + (bitop .and .u64 x0 6148914691236517205))) 3689348814741910323))) (2 ^ (min (4 : Int).toNat IntKind.u64.bits))) + (IntKind.u64.wrap ((bitop .and .u64 (Int.fdiv (IntKind.u64.wrap ((bitop .and .u64 (Int.fdiv x0 (2 ^ (min (1 : Int).toNat IntKind.u64.bits))) 6148914691236517205) + (bitop .and .u64 x0 6148914691236517205))) (2 ^ (min (2 : Int).toNat IntKind.u64.bits))) 3689348814741910323) + (bitop .and .u64 (IntKind.u64.wrap ((bitop .and .u64 (Int.fdiv x0 (2 ^ (min (1 : Int).toNat IntKind.u64.bits))) 6148914691236517205) + (bitop .and .u64 x0 6148914691236517205))) 3689348814741910323))))) 1085102592571150095) (2 ^ (min (8 : Int).toNat IntKind.u64.bits)))))))] (by kernel_rfl) (AOK.cons (fun ρ a w hs hz hΓ hp => gp (d_move (hΓ 0 rfl))) (AOK.cons (fun ρ a w hs hz hΓ hp => gp (d_move (hΓ 0 rfl))) (AOK.cons (fun ρ a w hs hz hΓ hp => gp (d_shr (hp 1 _ rfl rfl).1 (vI rfl) (by decide))) (AOK.cons (fun ρ a w hs hz hΓ hp => gp (d_add (hp 0 _ rfl rfl).1 (hp 2 _ rfl rfl).1)) (AOK.cons (fun ρ a w hs hz hΓ hp => gp (d_assign (hp 3 _ rfl rfl).1)) AOK.nil rfl) rfl) rfl) rfl) rfl) (fun vs5 => ?_)
  refine T.nil ?_
  refine T.norm ?_
  refine T.seq ?_
  refine T.region mix 5 [24, 25, 26, 27, 0] [0, 0, 2, 7, 15] [(sp ((TI .u64).sv (IntKind.u64.wrap ((bitop .and .u64 (IntKind.u64.wrap ((Int.fdiv (IntKind.u64.wrap ((bitop .and .u64 (Int.fdiv (IntKind.u64.wrap ((bitop .and .u64 (Int.fdiv x0 (2 ^ (min (1 : Int).toNat IntKind.u64.bits))) 6148914691236517205) + (bitop .and .u64 x0 6148914691236517205))) (2 ^ (min (2 : Int).toNat IntKind.u64.bits))) 3689348814741910323) + (bitop .and .u64 (IntKind.u64.wrap ((bitop .and .u64 (Int.fdiv x0 (2 ^ (min (1 : Int).toNat IntKind.u64.bits))) 6148914691236517205) + (bitop .and .u64 x0 6148914691236517205))) 3689348814741910323))) (2 ^ (min (4 : Int).toNat IntKind.u64.bits))) + (IntKind.u64.wrap ((bitop .and .u64 (Int.fdiv (IntKind.u64.wrap ((bitop .and .u64 (Int.fdiv x0 (2 ^ (min (1 : Int).toNat IntKind.u64.bits))) 6148914691236517205) + (bitop .and .u64 x0 6148914691236517205))) (2 ^ (min (2 : Int).toNat IntKind.u64.bits))) 3689348814741910323) + (bitop .and .u64 (IntKind.u64.wrap ((bitop .and .u64 (Int.fdiv x0 (2 ^ (min (1 : Int).toNat IntKind.u64.bits))) 6148914691236517205) + (bitop .and .u64 x0 6148914691236517205))) 3689348814741910323))))) 1085102592571150095) + (Int.fdiv (bitop .and .u64 (IntKind.u64.wrap ((Int.fdiv (IntKind.u64.wrap ((bitop .and .u64 (Int.fdiv (IntKind.u64.wrap ((bitop .and .u64 (Int.fdiv x0 (2 ^ (min (1 : Int).toNat IntKind.u64.bits))) 6148914691236517205) + (bitop .and .u64 x0 6148914691236517205))) (2 ^ (min (2 : Int).toNat IntKind.u64.bits))) 3689348814741910323) + (bitop .and .u64 (IntKind.u64.wrap ((bitop .and .u64 (Int.fdiv x0 (2 ^ (min (1 : Int).toNat IntKind.u64.bits))) 6148914691236517205) + (bitop .and .u64 x0 6148914691236517205))) 3689348814741910323))) (2 ^ (min (4 : Int).toNat IntKind.u64.bits))) + (IntKind.u64.wrap ((bitop .and .u64 (Int.fdiv (IntKind.u64.wrap ((bitop .and .u64 (Int.fdiv x0 (2 ^ (min (1 : Int).toNat IntKind.u64.bits))) 6148914691236517205) + (bitop .and .u64 x0 6148914691236517205))) (2 ^ (min (2 : Int).toNat IntKind.u64.bits))) 3689348814741910323) + (bitop .and .u64 (IntKind.u64.wrap ((bitop .and .u64 (Int.fdiv x0 (2 ^ (min (1 : Int).toNat IntKind.u64.bits))) 6148914691236517205) + (bitop .and .u64 x0 6148914691236517205))) 3689348814741910323))))) 1085102592571150095) (2 ^ (min (8 : Int).toNat IntKind.u64.bits))))))), (sp ((TI .u64).sv (IntKind.u64.wrap ((bitop .and .u64 (IntKind.u64.wrap ((Int.fdiv (IntKind.u64.wrap ((bitop .and .u64 (Int.fdiv (IntKind.u64.wrap ((bitop .and .u64 (Int.fdiv x0 (2 ^ (min (1 : Int).toNat IntKind.u64.bits))) 6148914691236517205) + (bitop .and .u64 x0 6148914691236517205))) (2 ^ (min (2 : Int).toNat IntKind.u64.bits))) 3689348814741910323) + (bitop .and .u64 (IntKind.u64.wrap ((bitop .and .u64 (Int.fdiv x0 (2 ^ (min (1 : Int).toNat IntKind.u64.bits))) 6148914691236517205) + (bitop .and .u64 x0 6148914691236517205))) 3689348814741910323))) (2 ^ (min (4 : Int).toNat IntKind.u64.bits))) + (IntKind.u64.wrap ((bitop .and .u64 (Int.fdiv (IntKind.u64.wrap ((bitop .and .u64 (Int.fdiv x0 (2 ^ (min (1 : Int).toNat IntKind.u64.bits))) 6148914691236517205) + (bitop .and .u64 x0 6148914691236517205))) (2 ^ (min (2 : Int).toNat IntKind.u64.bits))) 3689348814741910323) + (bitop .and .u64 (IntKind.u64.wrap ((bitop .and .u64 (Int.fdiv x0 (2 ^ (min (1 : Int).toNat IntKind.u64.bits))) 6148914691236517205) + (bitop .and .u64 x0 6148914691236517205))) 3689348814741910323))))) 1085102592571150095) + (Int.fdiv (bitop .and .u64 (IntKind.u64.wrap ((Int.fdiv (IntKind.u64.wrap ((bitop .and .u64 (Int.fdiv (IntKind.u64.wrap ((bitop .and .u64 (Int.fdiv x0 (2 ^ (min (1 : Int).toNat IntKind.u64.bits))) 6148914691236517205) + (bitop .and .u64 x0 6148914691236517205))) (2 ^ (min (2 : Int).toNat IntKind.u64.bits))) 3689348814741910323) + (bitop .and .u64 (IntKind.u64.wrap ((bitop .and .u64 (Int.fdiv x0 (2 ^ (min (1 : Int).toNat IntKind.u64.bits))) 6148914691236517205) + (bitop .and .u64 x0 6148914691236517205))) 3689348814741910323))) (2 ^ (min (4 : Int).toNat IntKind.u64.bits))) + (IntKind.u64.wrap ((bitop .and .u64 (Int.fdiv (IntKind.u64.wrap ((bitop .and .u64 (Int.fdiv x0 (2 ^ (min (1 : Int).toNat IntKind.u64.bits))) 6148914691236517205) + (bitop .and .u64 x0 6148914691236517205))) (2 ^ (min (2 : Int).toNat IntKind.u64.bits))) 3689348814741910323) + (bitop .and .u64 (IntKind.u64.wrap ((bitop .and .u64 (Int.fdiv x0 (2 ^ (min (1 : Int).toNat IntKind.u64.bits))) 6148914691236517205) + (bitop .and .u64 x0 6148914691236517205))) 3689348814741910323))))) 1085102592571150095) (2 ^ (min (8 : Int).toNat IntKind.u64.bits))))))), (sp ((TI .u64).sv (Int.fdiv (IntKind.u64.wrap ((bitop .and .u64 (IntKind.u64.wrap ((Int.fdiv (IntKind.u64.wrap ((bitop .and .u64 (Int.fdiv (IntKind.u64.wrap ((bitop .and .u64 (Int.fdiv x0 (2 ^ (min (1 : Int).toNat IntKind.u64.bits))) 6148914691236517205) + (bitop .and .u64 x0 6148914691236517205))) (2 ^ (min (2 : Int).toNat IntKind.u64.bits))) 3689348814741910323) + (bitop .and .u64 (IntKind.u64.wrap ((bitop .and .u64 (Int.fdiv x0 (2 ^ (min (1 : Int).toNat IntKind.u64.bits))) 6148914691236517205) + (bitop .and .u64 x0 6148914691236517205))) 3689348814741910323))) (2 ^ (min (4 : Int).toNat IntKind.u64.bits))) + (IntKind.u64.wrap ((bitop .and .u64 (Int.fdiv (IntKind.u64.wrap ((bitop .and .u64 (Int.fdiv x0 (2 ^ (min (1 : Int).toNat IntKind.u64.bits))) 6148914691236517205) + (bitop .and .u64 x0 6148914691236517205))) (2 ^ (min (2 : Int).toNat IntKind.u64.bits))) 3689348814741910323) + (bitop .and .u64 (IntKind.u64.wrap ((bitop .and .u64 (Int.fdiv x0 (2 ^ (min (1 : Int).toNat IntKind.u64.bits))) 6148914691236517205) + (bitop .and .u64 x0 6148914691236517205))) 3689348814741910323))))) 1085102592571150095) + (Int.fdiv (bitop .and .u64 (IntKind.u64.wrap ((Int.fdiv (IntKind.u64.wrap ((bitop .and .u64 (Int.fdiv (IntKind.u64.wrap ((bitop .and .u64 (Int.fdiv x0 (2 ^ (min (1 : Int).toNat IntKind.u64.bits))) 6148914691236517205) + (bitop .and .u64 x0 6148914691236517205))) (2 ^ (min (2 : Int).toNat IntKind.u64.bits))) 3689348814741910323) + (bitop .and .u64 (IntKind.u64.wrap ((bitop .and .u64 (Int.fdiv x0 (2 ^ (min (1 : Int).toNat IntKind.u64.bits))) 6148914691236517205) + (bitop .and .u64 x0 6148914691236517205))) 3689348814741910323))) (2 ^ (min (4 : Int).toNat IntKind.u64.bits))) + (IntKind.u64.wrap ((bitop .and .u64 (Int.fdiv (IntKind.u64.wrap ((bitop .and .u64 (Int.fdiv x0 (2 ^ (min (1 : Int).toNat IntKind.u64.bits))) 6148914691236517205) + (bitop .and .u64 x0 6148914691236517205))) (2 ^ (min (2 : Int).toNat IntKind.u64.bits))) 3689348814741910323) + (bitop .and .u64 (IntKind.u64.wrap ((bitop .and .u64 (Int.fdiv x0 (2 ^ (min (1 : Int).toNat IntKind.u64.bits))) 6148914691236517205) + (bitop .and .u64 x0 6148914691236517205))) 3689348814741910323))))) 1085102592571150095) (2 ^ (min (8 : Int).toNat IntKind.u64.bits))))) (2 ^ (min (16 : Int).toNat IntKind.u64.bits))))), (sp ((TI .u64).sv (IntKind.u64.wrap ((IntKind.u64.wrap ((bitop .and .u64 (IntKind.u64.wrap ((Int.fdiv (IntKind.u64.wrap ((bitop .and .u64 (Int.fdiv (IntKind.u64.wrap ((bitop .and .u64 (Int.fdiv x0 (2 ^ (min (1 : Int).toNat IntKind.u64.bits))) 6148914691236517205) + (bitop .and .u64 x0 6148914691236517205))) (2 ^ (min (2 : Int).toNat IntKind.u64.bits))) 3689348814741910323) + (bitop .and .u64 (IntKind.u64.wrap ((bitop .and .u64 (Int.fdiv x0 (2 ^ (min (1 : Int).toNat IntKind.u64.bits))) 6148914691236517205) + (bitop .and .u64 x0 6148914691236517205))) 3689348814741910323))) (2 ^ (min (4 : Int).toNat IntKind.u64.bits))) + (IntKind.u64.wrap ((bitop .and .u64 (Int.fdiv (IntKind.u64.wrap ((bitop .and .u64 (Int.fdiv x0 (2 ^ (min (1 : Int).toNat IntKind.u64.bits))) 6148914691236517205) + (bitop .and .u64 x0 6148914691236517205))) (2 ^ (min (2 : Int).toNat IntKind.u64.bits))) 3689348814741910323) + (bitop .and .u64 (IntKind.u64.wrap ((bitop .and .u64 (Int.fdiv x0 (2 ^ (min (1 : Int).toNat IntKind.u64.bits))) 6148914691236517205) + (bitop .and .u64 x0 6148914691236517205))) 3689348814741910323))))) 1085102592571150095) + (Int.fdiv (bitop .and .u64 (IntKind.u64.wrap ((Int.fdiv (IntKind.u64.wrap ((bitop .and .u64 (Int.fdiv (IntKind.u64.wrap ((bitop .and .u64 (Int.fdiv x0 (2 ^ (min (1 : Int).toNat IntKind.u64.bits))) 6148914691236517205) + (bitop .and .u64 x0 6148914691236517205))) (2 ^ (min (2 : Int).toNat IntKind.u64.bits))) 3689348814741910323) + (bitop .and .u64 (IntKind.u64.wrap ((bitop .and .u64 (Int.fdiv x0 (2 ^ (min (1 : Int).toNat IntKind.u64.bits))) 6148914691236517205) + (bitop .and .u64 x0 6148914691236517205))) 3689348814741910323))) (2 ^ (min (4 : Int).toNat IntKind.u64.bits))) + (IntKind.u64.wrap ((bitop .and .u64 (Int.fdiv (IntKind.u64.wrap ((bitop .and .u64 (Int.fdiv x0 (2 ^ (min (1 : Int).toNat IntKind.u64.bits))) 6148914691236517205) + (bitop .and .u64 x0 6148914691236517205))) (2 ^ (min (2 : Int).toNat IntKind.u64.bits))) 3689348814741910323) + (bitop .and .u64 (IntKind.u64.wrap ((bitop .and .u64 (Int.fdiv x0 (2 ^ (min (1 : Int).toNat IntKind.u64.bits))) 6148914691236517205) + (bitop .and .u64 x0 6148914691236517205))) 3689348814741910323))))) 1085102592571150095) (2 ^ (min (8 : Int).toNat IntKind.u64.bits))))) + (Int.fdiv (IntKind.u64.wrap ((bitop .and .u64 (IntKind.u64.wrap ((Int.fdiv (IntKind.u64.wrap ((bitop .and .u64 (Int.fdiv (IntKind.u64.wrap ((bitop .and .u64 (Int.fdiv x0 (2 ^ (min (1 : Int).toNat IntKind.u64.bits))) 6148914691236517205) + (bitop .and .u64 x0 6148914691236517205))) (2 ^ (min (2 : Int).toNat IntKind.u64.bits))) 3689348814741910323) + (bitop .and .u64 (IntKind.u64.wrap ((bitop .and .u64 (Int.fdiv x0 (2 ^ (min (1 : Int).toNat IntKind.u64.bits))) 6148914691236517205) + (bitop .and .u64 x0 6148914691236517205))) 3689348814741910323))) (2 ^ (min (4 : Int).toNat IntKind.u64.bits))) + (IntKind.u64.wrap ((bitop .and .u64 (Int.fdiv (IntKind.u64.wrap ((bitop .and .u64 (Int.fdiv x0 (2 ^ (min (1 : Int).toNat IntKind.u64.bits))) 6148914691236517205) + (bitop .and .u64 x0 6148914691236517205))) (2 ^ (min (2 : Int).toNat IntKind.u64.bits))) 3689348814741910323) + (bitop .and .u64 (IntKind.u64.wrap ((bitop .and .u64 (Int.fdiv x0 (2 ^ (min (1 : Int).toNat IntKind.u64.bits))) 6148914691236517205) + (bitop .and .u64 x0 6148914691236517205))) 3689348814741910323))))) 1085102592571150095) + (Int.fdiv (bitop .and .u64 (IntKind.u64.wrap ((Int.fdiv (IntKind.u64.wrap ((bitop .and .u64 (Int.fdiv (IntKind.u64.wrap ((bitop .and .u64 (Int.fdiv x0 (2 ^ (min (1 : Int).toNat IntKind.u64.bits))) 6148914691236517205) + (bitop .and .u64 x0 6148914691236517205))) (2 ^ (min (2 : Int).toNat IntKind.u64.bits))) 3689348814741910323) + (bitop .and .u64 (IntKind.u64.wrap ((bitop .and .u64 (Int.fdiv x0 (2 ^ (min (1 : Int).toNat IntKind.u64.bits))) 6148914691236517205) + (bitop .and .u64 x0 6148914691236517205))) 3689348814741910323))) (2 ^ (min (4 : Int).toNat IntKind.u64.bits))) + (IntKind.u64.wrap ((bitop .and .u64 (Int.fdiv (IntKind.u64.wrap ((bitop .and .u64 (Int.fdiv x0 (2 ^ (min (1 : Int).toNat IntKind.u64.bits))) 6148914691236517205) + (bitop .and .u64 x0 6148914691236517205))) (2 ^ (min (2 : Int).toNat IntKind.u64.bits))) 3689348814741910323) + (bitop .and .u64 (IntKind.u64.wrap ((bitop .and .u64 (Int.fdiv x0 (2 ^ (min (1 : Int).toNat IntKind.u64.bits))) 6148914691236517205) + (bitop .and .u64 x0 6148914691236517205))) 3689348814741910323))))) 1085102592571150095) (2 ^ (min (8 : Int).toNat IntKind.u64.bits))))) (2 ^ (min (16 : Int).toNat IntKind.u64.bits))))))), (sp ((TI .u64).sv (IntKind.u64.wrap ((IntKind.u64.wrap ((bitop .and .u64 (IntKind.u64.wrap ((Int.fdiv (IntKind.u64.wrap ((bitop .and .u64 (Int.fdiv (IntKind.u64.wrap ((bitop .and .u64 (Int.fdiv x0 (2 ^ (min (1 : Int).toNat IntKind.u64.bits))) 6148914691236517205) + (bitop .and .u64 x0 6148914691236517205))) (2 ^ (min (2 : Int).toNat IntKind.u64.bits))) 3689348814741910323) + (bitop .and .u64 (IntKind.u64.wrap ((bitop .and .u64 (Int.fdiv x0 (2 ^ (min (1 : Int).toNat IntKind.u64.bits))) 6148914691236517205) + (bitop .and .u64 x0 6148914691236517205))) 3689348814741910323))) (2 ^ (min (4 : Int).toNat IntKind.u64.bits))) + (IntKind.u64.wrap ((bitop .and .u64 (Int.fdiv (IntKind.u64.wrap ((bitop .and .u64 (Int.fdiv x0 (2 ^ (min (1 : Int).toNat IntKind.u64.bits))) 6148914691236517205) + (bitop .and .u64 x0 6148914691236517205))) (2 ^ (min (2 : Int).toNat IntKind.u64.bits))) 3689348814741910323) + (bitop .and .u64 (IntKind.u64.wrap ((bitop .and .u64 (Int.fdiv x0 (2 ^ (min (1 : Int).toNat IntKind.u64.bits))) 6148914691236517205) + (bitop .and .u64 x0 6148914691236517205))) 3689348814741910323))))) 1085102592571150095) + (Int.fdiv (bitop .and .u64 (IntKind.u64.wrap ((Int.fdiv (IntKind.u64.wrap ((bitop .and .u64 (Int.fdiv (IntKind.u64.wrap ((bitop .and .u64 (Int.fdiv x0 (2 ^ (min (1 : Int).toNat IntKind.u64.bits))) 6148914691236517205) + (bitop .and .u64 x0 6148914691236517205))) (2 ^ (min (2 : Int).toNat IntKind.u64.bits))) 3689348814741910323) + (bitop .and .u64 (IntKind.u64.wrap ((bitop .and .u64 (Int.fdiv x0 (2 ^ (min (1 : Int).toNat IntKind.u64.bits))) 6148914691236517205) + (bitop .and .u64 x0 6148914691236517205))) 3689348814741910323))) (2 ^ (min (4 : Int).toNat IntKind.u64.bits))) + (IntKind.u64.wrap ((bitop .and .u64 (Int.fdiv (IntKind.u64.wrap ((bitop .and .u64 (Int.fdiv x0 (2 ^ (min (1 : Int).toNat IntKind.u64.bits))) 6148914691236517205) + (bitop .and .u64 x0 6148914691236517205))) (2 ^ (min (2 : Int).toNat IntKind.u64.bits))) 3689348814741910323) + (bitop .and .u64 (IntKind.u64.wrap ((bitop .and .u64 (Int.fdiv x0 (2 ^ (min (1 : Int).toNat IntKind.u64.bits))) 6148914691236517205) + (bitop .and .u64 x0 6148914691236517205))) 3689348814741910323))))) 1085102592571150095) (2 ^ (min (8 : Int).toNat IntKind.u64.bits))))) + (Int.fdiv (IntKind.u64.wrap ((bitop .and .u64 (IntKind.u64.wrap ((Int.fdiv (IntKind.u64.wrap ((bitop .and .u64 (Int.fdiv (IntKind.u64.wrap ((bitop .and .u64 (Int.fdiv x0 (2 ^ (min (1 : Int).toNat IntKind.u64.bits))) 6148914691236517205) + (bitop .and .u64 x0 6148914691236517205))) (2 ^ (min (2 : Int).toNat IntKind.u64.bits))) 3689348814741910323) + (bitop .and .u64 (IntKind.u64.wrap ((bitop .and .u64 (Int.fdiv x0 (2 ^ (min (1 : Int).toNat IntKind.u64.bits))) 6148914691236517205) + (bitop .and .u64 x0 6148914691236517205))) 3689348814741910323))) (2 ^ (min (4 : Int).toNat IntKind.u64.bits))) + (IntKind.u64.wrap ((bitop .and .u64 (Int.fdiv (IntKind.u64.wrap ((bitop .and .u64 (Int.fdiv x0 (2 ^ (min (1 : Int).toNat IntKind.u64.bits))) 6148914691236517205) + (bitop .and .u64 x0 6148914691236517205))) (2 ^ (min (2 : Int).toNat IntKind.u64.bits))) 3689348814741910323) + (bitop .and .u64 (IntKind.u64.wrap ((bitop .and .u64 (Int.fdiv x0 (2 ^ (min (1 : Int).toNat IntKind.u64.bits))) 6148914691236517205) + (bitop .and .u64 x0 6148914691236517205))) 3689348814741910323))))) 1085102592571150095) + (Int.fdiv (bitop .and .u64 (IntKind.u64.wrap ((Int.fdiv (IntKind.u64.wrap ((bitop .and .u64 (Int.fdiv (IntKind.u64.wrap ((bitop .and .u64 (Int.fdiv x0 (2 ^ (min (1 : Int).toNat IntKind.u64.bits))) 6148914691236517205) + (bitop .and .u64 x0 6148914691236517205))) (2 ^ (min (2 : Int).toNat IntKind.u64.bits))) 3689348814741910323) + (bitop .and .u64 (IntKind.u64.wrap ((bitop .and .u64 (Int.fdiv x0 (2 ^ (min (1 : Int).toNat IntKind.u64.bits))) 6148914691236517205) + (bitop .and .u64 x0 6148914691236517205))) 3689348814741910323))) (2 ^ (min (4 : Int).toNat IntKind.u64.bits))) + (IntKind.u64.wrap ((bitop .and .u64 (Int.fdiv (IntKind.u64.wrap ((bitop .and .u64 (Int.fdiv x0 (2 ^ (min (1 : Int).toNat IntKind.u64.bits))) 6148914691236517205) + (bitop .and .u64 x0 6148914691236517205))) (2 ^ (min (2 : Int).toNat IntKind.u64.bits))) 3689348814741910323) + (bitop .and .u64 (IntKind.u64.wrap ((bitop .and .u64 (Int.fdiv x0 (2 ^ (min (1 : Int).toNat IntKind.u64.bits))) 6148914691236517205) + (bitop .and .u64 x0 6148914691236517205))) 3689348814741910323))))) 1085102592571150095) (2 ^ (min (8 : Int).toNat IntKind.u64.bits))))) (2 ^ (min (16 : Int).toNat IntKind.u64.bits)))))))] (by kernel_rfl) (AOK.cons (fun ρ a w hs hz hΓ hp => gp (d_move (hΓ 0 rfl))) (AOK.cons (fun ρ a w hs hz hΓ hp => gp (d_move (hΓ 0 rfl))) (AOK.cons (fun ρ a w hs hz hΓ hp => gp (d_shr (hp 1 _ rfl rfl).1 (vI rfl) (by decide))) (AOK.cons (fun ρ a w hs hz hΓ hp => gp (d_add (hp 0 _ rfl rfl).1 (hp 2 _ rfl rfl).1)) (AOK.cons (fun ρ a w hs hz hΓ hp => gp (d_assign (hp 3 _ rfl rfl).1)) AOK.nil rfl) rfl) rfl) rfl) rfl) (fun vs6 => ?_)
  refine T.nil ?_
  refine T.norm ?_
  refine T.seq ?_
  refine T.region mix 5 [28, 29, 30, 31, 0] [0, 0, 2, 7, 15] [(sp ((TI .u64).sv (IntKind.u64.wrap ((IntKind.u64.wrap ((bitop .and .u64 (IntKind.u64.wrap ((Int.fdiv (IntKind.u64.wrap ((bitop .and .u64 (Int.fdiv (IntKind.u64.wrap ((bitop .and .u64 (Int.fdiv x0 (2 ^ (min (1 : Int).toNat IntKind.u64.bits))) 6148914691236517205) + (bitop .and .u64 x0 6148914691236517205))) (2 ^ (min (2 : Int).toNat IntKind.u64.bits))) 3689348814741910323) + (bitop .and .u64 (IntKind.u64.wrap ((bitop .and .u64 (Int.fdiv x0 (2 ^ (min (1 : Int).toNat IntKind.u64.bits))) 6148914691236517205) + (bitop .and .u64 x0 6148914691236517205))) 3689348814741910323))) (2 ^ (min (4 : Int).toNat IntKind.u64.bits))) + (IntKind.u64.wrap ((bitop .and .u64 (Int.fdiv (IntKind.u64.wrap ((bitop .and .u64 (Int.fdiv x0 (2 ^ (min (1 : Int).toNat IntKind.u64.bits))) 6148914691236517205) + (bitop .and .u64 x0 6148914691236517205))) (2 ^ (min (2 : Int).toNat IntKind.u64.bits))) 3689348814741910323) + (bitop .and .u64 (IntKind.u64.wrap ((bitop .and .u64 (Int.fdiv x0 (2 ^ (min (1 : Int).toNat IntKind.u64.bits))) 6148914691236517205) + (bitop .and .u64 x0 6148914691236517205))) 3689348814741910323))))) 1085102592571150095) + (Int.fdiv (bitop .and .u64 (IntKind.u64.wrap ((Int.fdiv (IntKind.u64.wrap ((bitop .and .u64 (Int.fdiv (IntKind.u64.wrap ((bitop .and .u64 (Int.fdiv x0 (2 ^ (min (1 : Int).toNat IntKind.u64.bits))) 6148914691236517205) + (bitop .and .u64 x0 6148914691236517205))) (2 ^ (min (2 : Int).toNat IntKind.u64.bits))) 3689348814741910323) + (bitop .and .u64 (IntKind.u64.wrap ((bitop .and .u64 (Int.fdiv x0 (2 ^ (min (1 : Int).toNat IntKind.u64.bits))) 6148914691236517205) + (bitop .and .u64 x0 6148914691236517205))) 3689348814741910323))) (2 ^ (min (4 : Int).toNat IntKind.u64.bits))) + (IntKind.u64.wrap ((bitop .and .u64 (Int.fdiv (IntKind.u64.wrap ((bitop .and .u64 (Int.fdiv x0 (2 ^ (min (1 : Int).toNat IntKind.u64.bits))) 6148914691236517205) + (bitop .and .u64 x0 6148914691236517205))) (2 ^ (min (2 : Int).toNat IntKind.u64.bits))) 3689348814741910323) + (bitop .and .u64 (IntKind.u64.wrap ((bitop .and .u64 (Int.fdiv x0 (2 ^ (min (1 : Int).toNat IntKind.u64.bits))) 6148914691236517205) + (bitop .and .u64 x0 6148914691236517205))) 3689348814741910323))))) 1085102592571150095) (2 ^ (min (8 : Int).toNat IntKind.u64.bits))))) + (Int.fdiv (IntKind.u64.wrap ((bitop .and .u64 (IntKind.u64.wrap ((Int.fdiv (IntKind.u64.wrap ((bitop .and .u64 (Int.fdiv (IntKind.u64.wrap ((bitop .and .u64 (Int.fdiv x0 (2 ^ (min (1 : Int).toNat IntKind.u64.bits))) 6148914691236517205) + (bitop .and .u64 x0 6148914691236517205))) (2 ^ (min (2 : Int).toNat IntKind.u64.bits))) 3689348814741910323) + (bitop .and .u64 (IntKind.u64.wrap ((bitop .and .u64 (Int.fdiv x0 (2 ^ (min (1 : Int).toNat IntKind.u64.bits))) 6148914691236517205) + (bitop .and .u64 x0 6148914691236517205))) 3689348814741910323))) (2 ^ (min (4 : Int).toNat IntKind.u64.bits))) + (IntKind.u64.wrap ((bitop .and .u64 (Int.fdiv (IntKind.u64.wrap ((bitop .and .u64 (Int.fdiv x0 (2 ^ (min (1 : Int).toNat IntKind.u64.bits))) 6148914691236517205) + (bitop .and .u64 x0 6148914691236517205))) (2 ^ (min (2 : Int).toNat IntKind.u64.bits))) 3689348814741910323) + (bitop .and .u64 (IntKind.u64.wrap ((bitop .and .u64 (Int.fdiv x0 (2 ^ (min (1 : Int).toNat IntKind.u64.bits))) 6148914691236517205) + (bitop .and .u64 x0 6148914691236517205))) 3689348814741910323))))) 1085102592571150095) + (Int.fdiv (bitop .and .u64 (IntKind.u64.wrap ((Int.fdiv (IntKind.u64.wrap ((bitop .and .u64 (Int.fdiv (IntKind.u64.wrap ((bitop .and .u64 (Int.fdiv x0 (2 ^ (min (1 : Int).toNat IntKind.u64.bits))) 6148914691236517205) + (bitop .and .u64 x0 6148914691236517205))) (2 ^ (min (2 : Int).toNat IntKind.u64.bits))) 3689348814741910323) + (bitop .and .u64 (IntKind.u64.wrap ((bitop .and .u64 (Int.fdiv x0 (2 ^ (min (1 : Int).toNat IntKind.u64.bits))) 6148914691236517205) + (bitop .and .u64 x0 6148914691236517205))) 3689348814741910323))) (2 ^ (min (4 : Int).toNat IntKind.u64.bits))) + (IntKind.u64.wrap ((bitop .and .u64 (Int.fdiv (IntKind.u64.wrap ((bitop .and .u64 (Int.fdiv x0 (2 ^ (min (1 : Int).toNat IntKind.u64.bits))) 6148914691236517205) + (bitop .and .u64 x0 6148914691236517205))) (2 ^ (min (2 : Int).toNat IntKind.u64.bits))) 3689348814741910323) + (bitop .and .u64 (IntKind.u64.wrap ((bitop .and .u64 (Int.fdiv x0 (2 ^ (min (1 : Int).toNat IntKind.u64.bits))) 6148914691236517205) + (bitop .and .u64 x0 6148914691236517205))) 3689348814741910323))))) 1085102592571150095) (2 ^ (min (8 : Int).toNat IntKind.u64.bits))))) (2 ^ (min (16 : Int).toNat IntKind.u64.bits))))))), (sp ((TI .u64).sv (IntKind.u64.wrap ((IntKind.u64.wrap ((bitop .and .u64 (IntKind.u64.wrap ((Int.fdiv (IntKind.u64.wrap ((bitop .and .u64 (Int.fdiv (IntKind.u64.wrap ((bitop .and .u64 (Int.fdiv x0 (2 ^ (min (1 : Int).toNat IntKind.u64.bits))) 6148914691236517205) + (bitop .and .u64 x0 6148914691236517205))) (2 ^ (min (2 : Int).toNat IntKind.u64.bits))) 3689348814741910323) + (bitop .and .u64 (IntKind.u64.wrap ((bitop .and .u64 (Int.fdiv x0 (2 ^ (min (1 : Int).toNat IntKind.u64.bits))) 6148914691236517205) + (bitop .and .u64 x0 6148914691236517205))) 3689348814741910323))) (2 ^ (min (4 : Int).toNat IntKind.u64.bits))) + (IntKind.u64.wrap ((bitop .and .u64 (Int.fdiv (IntKind.u64.wrap ((bitop .and .u64 (Int.fdiv x0 (2 ^ (min (1 : Int).toNat IntKind.u64.bits))) 6148914691236517205) + (bitop .and .u64 x0 6148914691236517205))) (2 ^ (min (2 : Int).toNat IntKind.u64.bits))) 3689348814741910323) + (bitop .and .u64 (IntKind.u64.wrap ((bitop .and .u64 (Int.fdiv x0 (2 ^ (min (1 : Int).toNat IntKind.u64.bits))) 6148914691236517205) + (bitop .and .u64 x0 6148914691236517205))) 3689348814741910323))))) 1085102592571150095) + (Int.fdiv (bitop .and .u64 (IntKind.u64.wrap ((Int.fdiv (IntKind.u64.wrap ((bitop .and .u64 (Int.fdiv (IntKind.u64.wrap ((bitop .and .u64 (Int.fdiv x0 (2 ^ (min (1 : Int).toNat IntKind.u64.bits))) 6148914691236517205) + (bitop .and .u64 x0 6148914691236517205))) (2 ^ (min (2 : Int).toNat IntKind.u64.bits))) 3689348814741910323) + (bitop .and .u64 (IntKind.u64.wrap ((bitop .and .u64 (Int.fdiv x0 (2 ^ (min (1 : Int).toNat IntKind.u64.bits))) 6148914691236517205) + (bitop .and .u64 x0 6148914691236517205))) 3689348814741910323))) (2 ^ (min (4 : Int).toNat IntKind.u64.bits))) + (IntKind.u64.wrap ((bitop .and .u64 (Int.fdiv (IntKind.u64.wrap ((bitop .and .u64 (Int.fdiv x0 (2 ^ (min (1 : Int).toNat IntKind.u64.bits))) 6148914691236517205) + (bitop .and .u64 x0 6148914691236517205))) (2 ^ (min (2 : Int).toNat IntKind.u64.bits))) 3689348814741910323) + (bitop .and .u64 (IntKind.u64.wrap ((bitop .and .u64 (Int.fdiv x0 (2 ^ (min (1 : Int).toNat IntKind.u64.bits))) 6148914691236517205) + (bitop .and .u64 x0 6148914691236517205))) 3689348814741910323))))) 1085102592571150095) (2 ^ (min (8 : Int).toNat IntKind.u64.bits))))) + (Int.fdiv (IntKind.u64.wrap ((bitop .and .u64 (IntKind.u64.wrap ((Int.fdiv (IntKind.u64.wrap ((bitop .and .u64 (Int.fdiv (IntKind.u64.wrap ((bitop .and .u64 (Int.fdiv x0 (2 ^ (min (1 : Int).toNat IntKind.u64.bits))) 6148914691236517205) + (bitop .and .u64 x0 6148914691236517205))) (2 ^ (min (2 : Int).toNat IntKind.u64.bits))) 3689348814741910323) + (bitop .and .u64 (IntKind.u64.wrap ((bitop .and .u64 (Int.fdiv x0 (2 ^ (min (1 : Int).toNat IntKind.u64.bits))) 6148914691236517205) + (bitop .and .u64 x0 6148914691236517205))) 3689348814741910323))) (2 ^ (min (4 : Int).toNat IntKind.u64.bits))) + (IntKind.u64.wrap ((bitop .and .u64 (Int.fdiv (IntKind.u64.wrap ((bitop .and .u64 (Int.fdiv x0 (2 ^ (min (1 : Int).toNat IntKind.u64.bits))) 6148914691236517205) + (bitop .and .u64 x0 6148914691236517205))) (2 ^ (min (2 : Int).toNat IntKind.u64.bits))) 3689348814741910323) + (bitop .and .u64 (IntKind.u64.wrap ((bitop .and .u64 (Int.fdiv x0 (2 ^ (min (1 : Int).toNat IntKind.u64.bits))) 6148914691236517205) + (bitop .and .u64 x0 6148914691236517205))) 3689348814741910323))))) 1085102592571150095) + (Int.fdiv (bitop .and .u64 (IntKind.u64.wrap ((Int.fdiv (IntKind.u64.wrap ((bitop .and .u64 (Int.fdiv (IntKind.u64.wrap ((bitop .and .u64 (Int.fdiv x0 (2 ^ (min (1 : Int).toNat IntKind.u64.bits))) 6148914691236517205) + (bitop .and .u64 x0 6148914691236517205))) (2 ^ (min (2 : Int).toNat IntKind.u64.bits))) 3689348814741910323) + (bitop .and .u64 (IntKind.u64.wrap ((bitop .and .u64 (Int.fdiv x0 (2 ^ (min (1 : Int).toNat IntKind.u64.bits))) 6148914691236517205) + (bitop .and .u64 x0 6148914691236517205))) 3689348814741910323))) (2 ^ (min (4 : Int).toNat IntKind.u64.bits))) + (IntKind.u64.wrap ((bitop .and .u64 (Int.fdiv (IntKind.u64.wrap ((bitop .and .u64 (Int.fdiv x0 (2 ^ (min (1 : Int).toNat IntKind.u64.bits))) 6148914691236517205) + (bitop .and .u64 x0 6148914691236517205))) (2 ^ (min (2 : Int).toNat IntKind.u64.bits))) 3689348814741910323) + (bitop .and .u64 (IntKind.u64.wrap ((bitop .and .u64 (Int.fdiv x0 (2 ^ (min (1 : Int).toNat IntKind.u64.bits))) 6148914691236517205) + (bitop .and .u64 x0 6148914691236517205))) 3689348814741910323))))) 1085102592571150095) (2 ^ (min (8 : Int).toNat IntKind.u64.bits))))) (2 ^ (min (16 : Int).toNat IntKind.u64.bits))))))), (sp ((TI .u64).sv (Int.fdiv (IntKind.u64.wrap ((IntKind.u64.wrap ((bitop .and .u64 (IntKind.u64.wrap ((Int.fdiv (IntKind.u64.wrap ((bitop .and .u64 (Int.fdiv (IntKind.u64.wrap ((bitop .and .u64 (Int.fdiv x0 (2 ^ (min (1 : Int).toNat IntKind.u64.bits))) 6148914691236517205) + (bitop .and .u64 x0 6148914691236517205))) (2 ^ (min (2 : Int).toNat IntKind.u64.bits))) 3689348814741910323) + (bitop .and .u64 (IntKind.u64.wrap ((bitop .and .u64 (Int.fdiv x0 (2 ^ (min (1 : Int).toNat IntKind.u64.bits))) 6148914691236517205) + (bitop .and .u64 x0 6148914691236517205))) 3689348814741910323))) (2 ^ (min (4 : Int).toNat IntKind.u64.bits))) + (IntKind.u64.wrap ((bitop .and .u64 (Int.fdiv (IntKind.u64.wrap ((bitop .and .u64 (Int.fdiv x0 (2 ^ (min (1 : Int).toNat IntKind.u64.bits))) 6148914691236517205) + (bitop .and .u64 x0 6148914691236517205))) (2 ^ (min (2 : Int).toNat IntKind.u64.bits))) 3689348814741910323) + (bitop .and .u64 (IntKind.u64.wrap ((bitop .and .u64 (Int.fdiv x0 (2 ^ (min (1 : Int).toNat IntKind.u64.bits))) 6148914691236517205) + (bitop .and .u64 x0 6148914691236517205))) 3689348814741910323))))) 1085102592571150095) + (Int.fdiv (bitop .and .u64 (IntKind.u64.wrap ((Int.fdiv (IntKind.u64.wrap ((bitop .and .u64 (Int.fdiv (IntKind.u64.wrap ((bitop .and .u64 (Int.fdiv x0 (2 ^ (min (1 : Int).toNat IntKind.u64.bits))) 6148914691236517205) + (bitop .and .u64 x0 6148914691236517205))) (2 ^ (min (2 : Int).toNat IntKind.u64.bits))) 3689348814741910323) + (bitop .and .u64 (IntKind.u64.wrap ((bitop .and .u64 (Int.fdiv x0 (2 ^ (min (1 : Int).toNat IntKind.u64.bits))) 6148914691236517205) + (bitop .and .u64 x0 6148914691236517205))) 3689348814741910323))) (2 ^ (min (4 : Int).toNat IntKind.u64.bits))) + (IntKind.u64.wrap ((bitop .and .u64 (Int.fdiv (IntKind.u64.wrap ((bitop .and .u64 (Int.fdiv x0 (2 ^ (min (1 : Int).toNat IntKind.u64.bits))) 6148914691236517205) + (bitop .and .u64 x0 6148914691236517205))) (2 ^ (min (2 : Int).toNat IntKind.u64.bits))) 3689348814741910323) + (bitop .and .u64 (IntKind.u64.wrap ((bitop .and .u64 (Int.fdiv x0 (2 ^ (min (1 : Int).toNat IntKind.u64.bits))) 6148914691236517205) + (bitop .and .u64 x0 6148914691236517205))) 3689348814741910323))))) 1085102592571150095) (2 ^ (min (8 : Int).toNat IntKind.u64.bits))))) + (Int.fdiv (IntKind.u64.wrap ((bitop .and .u64 (IntKind.u64.wrap ((Int.fdiv (IntKind.u64.wrap ((bitop .and .u64 (Int.fdiv (IntKind.u64.wrap ((bitop .and .u64 (Int.fdiv x0 (2 ^ (min (1 : Int).toNat IntKind.u64.bits))) 6148914691236517205) + (bitop .and .u64 x0 6148914691236517205))) (2 ^ (min (2 : Int).toNat IntKind.u64.bits))) 3689348814741910323) + (bitop .and .u64 (IntKind.u64.wrap ((bitop .and .u64 (Int.fdiv x0 (2 ^ (min (1 : Int).toNat IntKind.u64.bits))) 6148914691236517205) + (bitop .and .u64 x0 6148914691236517205))) 3689348814741910323))) (2 ^ (min (4 : Int).toNat IntKind.u64.bits))) + (IntKind.u64.wrap ((bitop .and .u64 (Int.fdiv (IntKind.u64.wrap ((bitop .and .u64 (Int.fdiv x0 (2 ^ (min (1 : Int).toNat IntKind.u64.bits))) 6148914691236517205) + (bitop .and .u64 x0 6148914691236517205))) (2 ^ (min (2 : Int).toNat IntKind.u64.bits))) 3689348814741910323) + (bitop .and .u64 (IntKind.u64.wrap ((bitop .and .u64 (Int.fdiv x0 (2 ^ (min (1 : Int).toNat IntKind.u64.bits))) 6148914691236517205) + (bitop .and .u64 x0 6148914691236517205))) 3689348814741910323))))) 1085102592571150095) + (Int.fdiv (bitop .and .u64 (IntKind.u64.wrap ((Int.fdiv (IntKind.u64.wrap ((bitop .and .u64 (Int.fdiv (IntKind.u64.wrap ((bitop .and .u64 (Int.fdiv x0 (2 ^ (min (1 : Int).toNat IntKind.u64.bits))) 6148914691236517205) + (bitop .and .u64 x0 6148914691236517205))) (2 ^ (min (2 : Int).toNat IntKind.u64.bits))) 3689348814741910323) + (bitop .and .u64 (IntKind.u64.wrap ((bitop .and .u64 (Int.fdiv x0 (2 ^ (min (1 : Int).toNat IntKind.u64.bits))) 6148914691236517205) + (bitop .and .u64 x0 6148914691236517205))) 3689348814741910323))) (2 ^ (min (4 : Int).toNat IntKind.u64.bits))) + (IntKind.u64.wrap ((bitop .and .u64 (Int.fdiv (IntKind.u64.wrap ((bitop .and .u64 (Int.fdiv x0 (2 ^ (min (1 : Int).toNat IntKind.u64.bits))) 6148914691236517205) + (bitop .and .u64 x0 6148914691236517205))) (2 ^ (min (2 : Int).toNat IntKind.u64.bits))) 3689348814741910323) + (bitop .and .u64 (IntKind.u64.wrap ((bitop .and .u64 (Int.fdiv x0 (2 ^ (min (1 : Int).toNat IntKind.u64.bits))) 6148914691236517205) + (bitop .and .u64 x0 6148914691236517205))) 3689348814741910323))))) 1085102592571150095) (2 ^ (min (8 : Int).toNat IntKind.u64.bits))))) (2 ^ (min (16 : Int).toNat IntKind.u64.bits))))) (2 ^ (min (32 : Int).toNat IntKind.u64.bits))))), (sp ((TI .u64).sv (IntKind.u64.wrap ((IntKind.u64.wrap ((IntKind.u64.wrap ((bitop .and .u64 (IntKind.u64.wrap ((Int.fdiv (IntKind.u64.wrap ((bitop .and .u64 (Int.fdiv (IntKind.u64.wrap ((bitop .and .u64 (Int.fdiv x0 (2 ^ (min (1 : Int).toNat IntKind.u64.bits))) 6148914691236517205) + (bitop .and .u64 x0 6148914691236517205))) (2 ^ (min (2 : Int).toNat IntKind.u64.bits))) 3689348814741910323) + (bitop .and .u64 (IntKind.u64.wrap ((bitop .and .u64 (Int.fdiv x0 (2 ^ (min (1 : Int).toNat IntKind.u64.bits))) 6148914691236517205) + (bitop .and .u64 x0 6148914691236517205))) 3689348814741910323))) (2 ^ (min (4 : Int).toNat IntKind.u64.bits))) + (IntKind.u64.wrap ((bitop .and .u64 (Int.fdiv (IntKind.u64.wrap ((bitop .and .u64 (Int.fdiv x0 (2 ^ (min (1 : Int).toNat IntKind.u64.bits))) 6148914691236517205) + (bitop .and .u64 x0 6148914691236517205))) (2 ^ (min (2 : Int).toNat IntKind.u64.bits))) 3689348814741910323) + (bitop .and .u64 (IntKind.u64.wrap ((bitop .and .u64 (Int.fdiv x0 (2 ^ (min (1 : Int).toNat IntKind.u64.bits))) 6148914691236517205) + (bitop .and .u64 x0 6148914691236517205))) 3689348814741910323))))) 1085102592571150095) + (Int.fdiv (bitop .and .u64 (IntKind.u64.wrap ((Int.fdiv (IntKind.u64.wrap ((bitop .and .u64 (Int.fdiv (IntKind.u64.wrap ((bitop .and .u64 (Int.fdiv x0 (2 ^ (min (1 : Int).toNat IntKind.u64.bits))) 6148914691236517205) + (bitop .and .u64 x0 6148914691236517205))) (2 ^ (min (2 : Int).toNat IntKind.u64.bits))) 3689348814741910323) + (bitop .and .u64 (IntKind.u64.wrap ((bitop .and .u64 (Int.fdiv x0 (2 ^ (min (1 : Int).toNat IntKind.u64.bits))) 6148914691236517205) + (bitop .and .u64 x0 6148914691236517205))) 3689348814741910323))) (2 ^ (min (4 : Int).toNat IntKind.u64.bits))) + (IntKind.u64.wrap ((bitop .and .u64 (Int.fdiv (IntKind.u64.wrap ((bitop .and .u64 (Int.fdiv x0 (2 ^ (min (1 : Int).toNat IntKind.u64.bits))) 6148914691236517205) + (bitop .and .u64 x0 6148914691236517205))) (2 ^ (min (2 : Int).toNat IntKind.u64.bits))) 3689348814741910323) + (bitop .and .u64 (IntKind.u64.wrap ((bitop .and .u64 (Int.fdiv x0 (2 ^ (min (1 : Int).toNat IntKind.u64.bits))) 6148914691236517205) + (bitop .and .u64 x0 6148914691236517205))) 3689348814741910323))))) 1085102592571150095) (2 ^ (min (8 : Int).toNat IntKind.u64.bits))))) + (Int.fdiv (IntKind.u64.wrap ((bitop .and .u64 (IntKind.u64.wrap ((Int.fdiv (IntKind.u64.wrap ((bitop .and .u64 (Int.fdiv (IntKind.u64.wrap ((bitop .and .u64 (Int.fdiv x0 (2 ^ (min (1 : Int).toNat IntKind.u64.bits))) 6148914691236517205) + (bitop .and .u64 x0 6148914691236517205))) (2 ^ (min (2 : Int).toNat IntKind.u64.bits))) 3689348814741910323) + (bitop .and .u64 (IntKind.u64.wrap ((bitop .and .u64 (Int.fdiv x0 (2 ^ (min (1 : Int).toNat IntKind.u64.bits))) 6148914691236517205) + (bitop .and .u64 x0 6148914691236517205))) 3689348814741910323))) (2 ^ (min (4 : Int).toNat IntKind.u64.bits))) + (IntKind.u64.wrap ((bitop .and .u64 (Int.fdiv (IntKind.u64.wrap ((bitop .and .u64 (Int.fdiv x0 (2 ^ (min (1 : Int).toNat IntKind.u64.bits))) 6148914691236517205) + (bitop .and .u64 x0 6148914691236517205))) (2 ^ (min (2 : Int).toNat IntKind.u64.bits))) 3689348814741910323) + (bitop .and .u64 (IntKind.u64.wrap ((bitop .and .u64 (Int.fdiv x0 (2 ^ (min (1 : Int).toNat IntKind.u64.bits))) 6148914691236517205) + (bitop .and .u64 x0 6148914691236517205))) 3689348814741910323))))) 1085102592571150095) + (Int.fdiv (bitop .and .u64 (IntKind.u64.wrap ((Int.fdiv (IntKind.u64.wrap ((bitop .and .u64 (Int.fdiv (IntKind.u64.wrap ((bitop .and .u64 (Int.fdiv x0 (2 ^ (min (1 : Int).toNat IntKind.u64.bits))) 6148914691236517205) + (bitop .and .u64 x0 6148914691236517205))) (2 ^ (min (2 : Int).toNat IntKind.u64.bits))) 3689348814741910323) + (bitop .and .u64 (IntKind.u64.wrap ((bitop .and .u64 (Int.fdiv x0 (2 ^ (min (1 : Int).toNat IntKind.u64.bits))) 6148914691236517205) + (bitop .and .u64 x0 6148914691236517205))) 3689348814741910323))) (2 ^ (min (4 : Int).toNat IntKind.u64.bits))) + (IntKind.u64.wrap ((bitop .and .u64 (Int.fdiv (IntKind.u64.wrap ((bitop .and .u64 (Int.fdiv x0 (2 ^ (min (1 : Int).toNat IntKind.u64.bits))) 6148914691236517205) + (bitop .and .u64 x0 6148914691236517205))) (2 ^ (min (2 : Int).toNat IntKind.u64.bits))) 3689348814741910323) + (bitop .and .u64 (IntKind.u64.wrap ((bitop .and .u64 (Int.fdiv x0 (2 ^ (min (1 : Int).toNat IntKind.u64.bits))) 6148914691236517205) + (bitop .and .u64 x0 6148914691236517205))) 3689348814741910323))))) 1085102592571150095) (2 ^ (min (8 : Int).toNat IntKind.u64.bits))))) (2 ^ (min (16 : Int).toNat IntKind.u64.bits))))) + (Int.fdiv (IntKind.u64.wrap ((IntKind.u64.wrap ((bitop .and .u64 (IntKind.u64.wrap ((Int.fdiv (IntKind.u64.wrap ((bitop .and .u64 (Int.fdiv (IntKind.u64.wrap ((bitop .and .u64 (Int.fdiv x0 (2 ^ (min (1 : Int).toNat IntKind.u64.bits))) 6148914691236517205) + (bitop .and .u64 x0 6148914691236517205))) (2 ^ (min (2 : Int).toNat IntKind.u64.bits))) 3689348814741910323) + (bitop .and .u64 (IntKind.u64.wrap ((bitop .and .u64 (Int.fdiv x0 (2 ^ (min (1 : Int).toNat IntKind.u64.bits))) 6148914691236517205) + (bitop .and .u64 x0 6148914691236517205))) 3689348814741910323))) (2 ^ (min (4 : Int).toNat IntKind.u64.bits))) + (IntKind.u64.wrap ((bitop .and .u64 (Int.fdiv (IntKind.u64.wrap ((bitop .and .u64 (Int.fdiv x0 (2 ^ (min (1 : Int).toNat IntKind.u64.bits))) 6148914691236517205) + (bitop .and .u64 x0 6148914691236517205))) (2 ^ (min (2 : Int).toNat IntKind.u64.bits))) 3689348814741910323) + (bitop .and .u64 (IntKind.u64.wrap ((bitop .and .u64 (Int.fdiv x0 (2 ^ (min (1 : Int).toNat IntKind.u64.bits))) 6148914691236517205) + (bitop .and .u64 x0 6148914691236517205))) 3689348814741910323))))) 1085102592571150095) + (Int.fdiv (bitop .and .u64 (IntKind.u64.wrap ((Int.fdiv (IntKind.u64.wrap ((bitop .and .u64 (Int.fdiv (IntKind.u64.wrap ((bitop .and .u64 (Int.fdiv x0 (2 ^ (min (1 : Int).toNat IntKind.u64.bits))) 6148914691236517205) + (bitop .and .u64 x0 6148914691236517205))) (2 ^ (min (2 : Int).toNat IntKind.u64.bits))) 3689348814741910323) + (bitop .and .u64 (IntKind.u64.wrap ((bitop .and .u64 (Int.fdiv x0 (2 ^ (min (1 : Int).toNat IntKind.u64.bits))) 6148914691236517205) + (bitop .and .u64 x0 6148914691236517205))) 3689348814741910323))) (2 ^ (min (4 : Int).toNat IntKind.u64.bits))) + (IntKind.u64.wrap ((bitop .and .u64 (Int.fdiv (IntKind.u64.wrap ((bitop .and .u64 (Int.fdiv x0 (2 ^ (min (1 : Int).toNat IntKind.u64.bits))) 6148914691236517205) + (bitop .and .u64 x0 6148914691236517205))) (2 ^ (min (2 : Int).toNat IntKind.u64.bits))) 3689348814741910323) + (bitop .and .u64 (IntKind.u64.wrap ((bitop .and .u64 (Int.fdiv x0 (2 ^ (min (1 : Int).toNat IntKind.u64.bits))) 6148914691236517205) + (bitop .and .u64 x0 6148914691236517205))) 3689348814741910323))))) 1085102592571150095) (2 ^ (min (8 : Int).toNat IntKind.u64.bits))))) + (Int.fdiv (IntKind.u64.wrap ((bitop .and .u64 (IntKind.u64.wrap ((Int.fdiv (IntKind.u64.wrap ((bitop .and .u64 (Int.fdiv (IntKind.u64.wrap ((bitop .and .u64 (Int.fdiv x0 (2 ^ (min (1 : Int).toNat IntKind.u64.bits))) 6148914691236517205) + (bitop .and .u64 x0 6148914691236517205))) (2 ^ (min (2 : Int).toNat IntKind.u64.bits))) 3689348814741910323) + (bitop .and .u64 (IntKind.u64.wrap ((bitop .and .u64 (Int.fdiv x0 (2 ^ (min (1 : Int).toNat IntKind.u64.bits))) 6148914691236517205) + (bitop .and .u64 x0 6148914691236517205))) 3689348814741910323))) (2 ^ (min (4 : Int).toNat IntKind.u64.bits))) + (IntKind.u64.wrap ((bitop .and .u64 (Int.fdiv (IntKind.u64.wrap ((bitop .and .u64 (Int.fdiv x0 (2 ^ (min (1 : Int).toNat IntKind.u64.bits))) 6148914691236517205) + (bitop .and .u64 x0 6148914691236517205))) (2 ^ (min (2 : Int).toNat IntKind.u64.bits))) 3689348814741910323) + (bitop .and .u64 (IntKind.u64.wrap ((bitop .and .u64 (Int.fdiv x0 (2 ^ (min (1 : Int).toNat IntKind.u64.bits))) 6148914691236517205) + (bitop .and .u64 x0 6148914691236517205))) 3689348814741910323))))) 1085102592571150095) + (Int.fdiv (bitop .and .u64 (IntKind.u64.wrap ((Int.fdiv (IntKind.u64.wrap ((bitop .and .u64 (Int.fdiv (IntKind.u64.wrap ((bitop .and .u64 (Int.fdiv x0 (2 ^ (min (1 : Int).toNat IntKind.u64.bits))) 6148914691236517205) + (bitop .and .u64 x0 6148914691236517205))) (2 ^ (min (2 : Int).toNat IntKind.u64.bits))) 3689348814741910323) + (bitop .and .u64 (IntKind.u64.wrap ((bitop .and .u64 (Int.fdiv x0 (2 ^ (min (1 : Int).toNat IntKind.u64.bits))) 6148914691236517205) + (bitop .and .u64 x0 6148914691236517205))) 3689348814741910323))) (2 ^ (min (4 : Int).toNat IntKind.u64.bits))) + (IntKind.u64.wrap ((bitop .and .u64 (Int.fdiv (IntKind.u64.wrap ((bitop .and .u64 (Int.fdiv x0 (2 ^ (min (1 : Int).toNat IntKind.u64.bits))) 6148914691236517205) + (bitop .and .u64 x0 6148914691236517205))) (2 ^ (min (2 : Int).toNat IntKind.u64.bits))) 3689348814741910323) + (bitop .and .u64 (IntKind.u64.wrap ((bitop .and .u64 (Int.fdiv x0 (2 ^ (min (1 : Int).toNat IntKind.u64.bits))) 6148914691236517205) + (bitop .and .u64 x0 6148914691236517205))) 3689348814741910323))))) 1085102592571150095) (2 ^ (min (8 : Int).toNat IntKind.u64.bits))))) (2 ^ (min (16 : Int).toNat IntKind.u64.bits))))) (2 ^ (min (32 : Int).toNat IntKind.u64.bits))))))), (sp ((TI .u64).sv (IntKind.u64.wrap ((IntKind.u64.wrap ((IntKind.u64.wrap ((bitop .and .u64 (IntKind.u64.wrap ((Int.fdiv (IntKind.u64.wrap ((bitop .and .u64 (Int.fdiv (IntKind.u64.wrap ((bitop .and .u64 (Int.fdiv x0 (2 ^ (min (1 : Int).toNat IntKind.u64.bits))) 6148914691236517205) + (bitop .and .u64 x0 6148914691236517205))) (2 ^ (min (2 : Int).toNat IntKind.u64.bits))) 3689348814741910323) + (bitop .and .u64 (IntKind.u64.wrap ((bitop .and .u64 (Int.fdiv x0 (2 ^ (min (1 : Int).toNat IntKind.u64.bits))) 6148914691236517205) + (bitop .and .u64 x0 6148914691236517205))) 3689348814741910323))) (2 ^ (min (4 : Int).toNat IntKind.u64.bits))) + (IntKind.u64.wrap ((bitop .and .u64 (Int.fdiv (IntKind.u64.wrap ((bitop .and .u64 (Int.fdiv x0 (2 ^ (min (1 : Int).toNat IntKind.u64.bits))) 6148914691236517205) + (bitop .and .u64 x0 6148914691236517205))) (2 ^ (min (2 : Int).toNat IntKind.u64.bits))) 3689348814741910323) + (bitop .and .u64 (IntKind.u64.wrap ((bitop .and .u64 (Int.fdiv x0 (2 ^ (min (1 : Int).toNat IntKind.u64.bits))) 6148914691236517205) + (bitop .and .u64 x0 6148914691236517205))) 3689348814741910323))))) 1085102592571150095) + (Int.fdiv (bitop .and .u64 (IntKind.u64.wrap ((Int.fdiv (IntKind.u64.wrap ((bitop .and .u64 (Int.fdiv (IntKind.u64.wrap ((bitop .and .u64 (Int.fdiv x0 (2 ^ (min (1 : Int).toNat IntKind.u64.bits))) 6148914691236517205) + (bitop .and .u64 x0 6148914691236517205))) (2 ^ (min (2 : Int).toNat IntKind.u64.bits))) 3689348814741910323) + (bitop .and .u64 (IntKind.u64.wrap ((bitop .and .u64 (Int.fdiv x0 (2 ^ (min (1 : Int).toNat IntKind.u64.bits))) 6148914691236517205) + (bitop .and .u64 x0 6148914691236517205))) 3689348814741910323))) (2 ^ (min (4 : Int).toNat IntKind.u64.bits))) + (IntKind.u64.wrap ((bitop .and .u64 (Int.fdiv (IntKind.u64.wrap ((bitop .and .u64 (Int.fdiv x0 (2 ^ (min (1 : Int).toNat IntKind.u64.bits))) 6148914691236517205) + (bitop .and .u64 x0 6148914691236517205))) (2 ^ (min (2 : Int).toNat IntKind.u64.bits))) 3689348814741910323) + (bitop .and .u64 (IntKind.u64.wrap ((bitop .and .u64 (Int.fdiv x0 (2 ^ (min (1 : Int).toNat IntKind.u64.bits))) 6148914691236517205) + (bitop .and .u64 x0 6148914691236517205))) 3689348814741910323))))) 1085102592571150095) (2 ^ (min (8 : Int).toNat IntKind.u64.bits))))) + (Int.fdiv (IntKind.u64.wrap ((bitop .and .u64 (IntKind.u64.wrap ((Int.fdiv (IntKind.u64.wrap ((bitop .and .u64 (Int.fdiv (IntKind.u64.wrap ((bitop .and .u64 (Int.fdiv x0 (2 ^ (min (1 : Int).toNat IntKind.u64.bits))) 6148914691236517205) + (bitop .and .u64 x0 6148914691236517205))) (2 ^ (min (2 : Int).toNat IntKind.u64.bits))) 3689348814741910323) + (bitop .and .u64 (IntKind.u64.wrap ((bitop .and .u64 (Int.fdiv x0 (2 ^ (min (1 : Int).toNat IntKind.u64.bits))) 6148914691236517205) + (bitop .and .u64 x0 6148914691236517205))) 3689348814741910323))) (2 ^ (min (4 : Int).toNat IntKind.u64.bits))) + (IntKind.u64.wrap ((bitop .and .u64 (Int.fdiv (IntKind.u64.wrap ((bitop .and .u64 (Int.fdiv x0 (2 ^ (min (1 : Int).toNat IntKind.u64.bits))) 6148914691236517205) + (bitop .and .u64 x0 6148914691236517205))) (2 ^ (min (2 : Int).toNat IntKind.u64.bits))) 3689348814741910323) + (bitop .and .u64 (IntKind.u64.wrap ((bitop .and .u64 (Int.fdiv x0 (2 ^ (min (1 : Int).toNat IntKind.u64.bits))) 6148914691236517205) + (bitop .and .u64 x0 6148914691236517205))) 3689348814741910323))))) 1085102592571150095) + (Int.fdiv (bitop .and .u64 (IntKind.u64.wrap ((Int.fdiv (IntKind.u64.wrap ((bitop .and .u64 (Int.fdiv (IntKind.u64.wrap ((bitop .and .u64 (Int.fdiv x0 (2 ^ (min (1 : Int).toNat IntKind.u64.bits))) 6148914691236517205) + (bitop .and .u64 x0 6148914691236517205))) (2 ^ (min (2 : Int).toNat IntKind.u64.bits))) 3689348814741910323) + (bitop .and .u64 (IntKind.u64.wrap ((bitop .and .u64 (Int.fdiv x0 (2 ^ (min (1 : Int).toNat IntKind.u64.bits))) 6148914691236517205) + (bitop .and .u64 x0 6148914691236517205))) 3689348814741910323))) (2 ^ (min (4 : Int).toNat IntKind.u64.bits))) + (IntKind.u64.wrap ((bitop .and .u64 (Int.fdiv (IntKind.u64.wrap ((bitop .and .u64 (Int.fdiv x0 (2 ^ (min (1 : Int).toNat IntKind.u64.bits))) 6148914691236517205) + (bitop .and .u64 x0 6148914691236517205))) (2 ^ (min (2 : Int).toNat IntKind.u64.bits))) 3689348814741910323) + (bitop .and .u64 (IntKind.u64.wrap ((bitop .and .u64 (Int.fdiv x0 (2 ^ (min (1 : Int).toNat IntKind.u64.bits))) 6148914691236517205) + (bitop .and .u64 x0 6148914691236517205))) 3689348814741910323))))) 1085102592571150095) (2 ^ (min (8 : Int).toNat IntKind.u64.bits))))) (2 ^ (min (16 : Int).toNat IntKind.u64.bits))))) + (Int.fdiv (IntKind.u64.wrap ((IntKind.u64.wrap ((bitop .and .u64 (IntKind.u64.wrap ((Int.fdiv (IntKind.u64.wrap ((bitop .and .u64 (Int.fdiv (IntKind.u64.wrap ((bitop .and .u64 (Int.fdiv x0 (2 ^ (min (1 : Int).toNat IntKind.u64.bits))) 6148914691236517205) + (bitop .and .u64 x0 6148914691236517205))) (2 ^ (min (2 : Int).toNat IntKind.u64.bits))) 3689348814741910323) + (bitop .and .u64 (IntKind.u64.wrap ((bitop .and .u64 (Int.fdiv x0 (2 ^ (min (1 : Int).toNat IntKind.u64.bits))) 6148914691236517205) + (bitop .and .u64 x0 6148914691236517205))) 3689348814741910323))) (2 ^ (min (4 : Int).toNat IntKind.u64.bits))) + (IntKind.u64.wrap ((bitop .and .u64 (Int.fdiv (IntKind.u64.wrap ((bitop .and .u64 (Int.fdiv x0 (2 ^ (min (1 : Int).toNat IntKind.u64.bits))) 6148914691236517205) + (bitop .and .u64 x0 6148914691236517205))) (2 ^ (min (2 : Int).toNat IntKind.u64.bits))) 3689348814741910323) + (bitop .and .u64 (IntKind.u64.wrap ((bitop .and .u64 (Int.fdiv x0 (2 ^ (min (1 : Int).toNat IntKind.u64.bits))) 6148914691236517205) + (bitop .and .u64 x0 6148914691236517205))) 3689348814741910323))))) 1085102592571150095) + (Int.fdiv (bitop .and .u64 (IntKind.u64.wrap ((Int.fdiv (IntKind.u64.wrap ((bitop .and .u64 (Int.fdiv (IntKind.u64.wrap ((bitop .and .u64 (Int.fdiv x0 (2 ^ (min (1 : Int).toNat IntKind.u64.bits))) 6148914691236517205) + (bitop .and .u64 x0 6148914691236517205))) (2 ^ (min (2 : Int).toNat IntKind.u64.bits))) 3689348814741910323) + (bitop .and .u64 (IntKind.u64.wrap ((bitop .and .u64 (Int.fdiv x0 (2 ^ (min (1 : Int).toNat IntKind.u64.bits))) 6148914691236517205) + (bitop .and .u64 x0 6148914691236517205))) 3689348814741910323))) (2 ^ (min (4 : Int).toNat IntKind.u64.bits))) + (IntKind.u64.wrap ((bitop .and .u64 (Int.fdiv (IntKind.u64.wrap ((bitop .and .u64 (Int.fdiv x0 (2 ^ (min (1 : Int).toNat IntKind.u64.bits))) 6148914691236517205) + (bitop .and .u64 x0 6148914691236517205))) (2 ^ (min (2 : Int).toNat IntKind.u64.bits))) 3689348814741910323) + (bitop .and .u64 (IntKind.u64.wrap ((bitop .and .u64 (Int.fdiv x0 (2 ^ (min (1 : Int).toNat IntKind.u64.bits))) 6148914691236517205) + (bitop .and .u64 x0 6148914691236517205))) 3689348814741910323))))) 1085102592571150095) (2 ^ (min (8 : Int).toNat IntKind.u64.bits))))) + (Int.fdiv (IntKind.u64.wrap ((bitop .and .u64 (IntKind.u64.wrap ((Int.fdiv (IntKind.u64.wrap ((bitop .and .u64 (Int.fdiv (IntKind.u64.wrap ((bitop .and .u64 (Int.fdiv x0 (2 ^ (min (1 : Int).toNat IntKind.u64.bits))) 6148914691236517205) + (bitop .and .u64 x0 6148914691236517205))) (2 ^ (min (2 : Int).toNat IntKind.u64.bits))) 3689348814741910323) + (bitop .and .u64 (IntKind.u64.wrap ((bitop .and .u64 (Int.fdiv x0 (2 ^ (min (1 : Int).toNat IntKind.u64.bits))) 6148914691236517205) + (bitop .and .u64 x0 6148914691236517205))) 3689348814741910323))) (2 ^ (min (4 : Int).toNat IntKind.u64.bits))) + (IntKind.u64.wrap ((bitop .and .u64 (Int.fdiv (IntKind.u64.wrap ((bitop .and .u64 (Int.fdiv x0 (2 ^ (min (1 : Int).toNat IntKind.u64.bits))) 6148914691236517205) + (bitop .and .u64 x0 6148914691236517205))) (2 ^ (min (2 : Int).toNat IntKind.u64.bits))) 3689348814741910323) + (bitop .and .u64 (IntKind.u64.wrap ((bitop .and .u64 (Int.fdiv x0 (2 ^ (min (1 : Int).toNat IntKind.u64.bits))) 6148914691236517205) + (bitop .and .u64 x0 6148914691236517205))) 3689348814741910323))))) 1085102592571150095) + (Int.fdiv (bitop .and .u64 (IntKind.u64.wrap ((Int.fdiv (IntKind.u64.wrap ((bitop .and .u64 (Int.fdiv (IntKind.u64.wrap ((bitop .and .u64 (Int.fdiv x0 (2 ^ (min (1 : Int).toNat IntKind.u64.bits))) 6148914691236517205) + (bitop .and .u64 x0 6148914691236517205))) (2 ^ (min (2 : Int).toNat IntKind.u64.bits))) 3689348814741910323) + (bitop .and .u64 (IntKind.u64.wrap ((bitop .and .u64 (Int.fdiv x0 (2 ^ (min (1 : Int).toNat IntKind.u64.bits))) 6148914691236517205) + (bitop .and .u64 x0 6148914691236517205))) 3689348814741910323))) (2 ^ (min (4 : Int).toNat IntKind.u64.bits))) + (IntKind.u64.wrap ((bitop .and .u64 (Int.fdiv (IntKind.u64.wrap ((bitop .and .u64 (Int.fdiv x0 (2 ^ (min (1 : Int).toNat IntKind.u64.bits))) 6148914691236517205) + (bitop .and .u64 x0 6148914691236517205))) (2 ^ (min (2 : Int).toNat IntKind.u64.bits))) 3689348814741910323) + (bitop .and .u64 (IntKind.u64.wrap ((bitop .and .u64 (Int.fdiv x0 (2 ^ (min (1 : Int).toNat IntKind.u64.bits))) 6148914691236517205) + (bitop .and .u64 x0 6148914691236517205))) 3689348814741910323))))) 1085102592571150095) (2 ^ (min (8 : Int).toNat IntKind.u64.bits))))) (2 ^ (min (16 : Int).toNat IntKind.u64.bits))))) (2 ^ (min (32 : Int).toNat IntKind.u64.bits)))))))] (by kernel_rfl) (AOK.cons (fun ρ a w hs hz hΓ hp => gp (d_move (hΓ 0 rfl))) (AOK.cons (fun ρ a w hs hz hΓ hp => gp (d_move (hΓ 0 rfl))) (AOK.cons (fun ρ a w hs hz hΓ hp => gp (d_shr (hp 1 _ rfl rfl).1 (vI rfl) (by decide))) (AOK.cons (fun ρ a w hs hz hΓ hp => gp (d_add (hp 0 _ rfl rfl).1 (hp 2 _ rfl rfl).1)) (AOK.cons (fun ρ a w hs hz hΓ hp => gp (d_assign (hp 3 _ rfl rfl).1)) AOK.nil rfl) rfl) rfl) rfl) rfl) (fun vs7 => ?_)
  refine T.nil ?_
  refine T.norm ?_
  refine T.seq ?_
  refine T.region mix 4 [32, 33, 34, 2] [0, 1, 3, 7] [(sp ((TI .u64).sv (IntKind.u64.wrap ((IntKind.u64.wrap ((IntKind.u64.wrap ((bitop .and .u64 (IntKind.u64.wrap ((Int.fdiv (IntKind.u64.wrap ((bitop .and .u64 (Int.fdiv (IntKind.u64.wrap ((bitop .and .u64 (Int.fdiv x0 (2 ^ (min (1 : Int).toNat IntKind.u64.bits))) 6148914691236517205) + (bitop .and .u64 x0 6148914691236517205))) (2 ^ (min (2 : Int).toNat IntKind.u64.bits))) 3689348814741910323) + (bitop .and .u64 (IntKind.u64.wrap ((bitop .and .u64 (Int.fdiv x0 (2 ^ (min (1 : Int).toNat IntKind.u64.bits))) 6148914691236517205) + (bitop .and .u64 x0 6148914691236517205))) 3689348814741910323))) (2 ^ (min (4 : Int).toNat IntKind.u64.bits))) + (IntKind.u64.wrap ((bitop .and .u64 (Int.fdiv (IntKind.u64.wrap ((bitop .and .u64 (Int.fdiv x0 (2 ^ (min (1 : Int).toNat IntKind.u64.bits))) 6148914691236517205) + (bitop .and .u64 x0 6148914691236517205))) (2 ^ (min (2 : Int).toNat IntKind.u64.bits))) 3689348814741910323) + (bitop .and .u64 (IntKind.u64.wrap ((bitop .and .u64 (Int.fdiv x0 (2 ^ (min (1 : Int).toNat IntKind.u64.bits))) 6148914691236517205) + (bitop .and .u64 x0 6148914691236517205))) 3689348814741910323))))) 1085102592571150095) + (Int.fdiv (bitop .and .u64 (IntKind.u64.wrap ((Int.fdiv (IntKind.u64.wrap ((bitop .and .u64 (Int.fdiv (IntKind.u64.wrap ((bitop .and .u64 (Int.fdiv x0 (2 ^ (min (1 : Int).toNat IntKind.u64.bits))) 6148914691236517205) + (bitop .and .u64 x0 6148914691236517205))) (2 ^ (min (2 : Int).toNat IntKind.u64.bits))) 3689348814741910323) + (bitop .and .u64 (IntKind.u64.wrap ((bitop .and .u64 (Int.fdiv x0 (2 ^ (min (1 : Int).toNat IntKind.u64.bits))) 6148914691236517205) + (bitop .and .u64 x0 6148914691236517205))) 3689348814741910323))) (2 ^ (min (4 : Int).toNat IntKind.u64.bits))) + (IntKind.u64.wrap ((bitop .and .u64 (Int.fdiv (IntKind.u64.wrap ((bitop .and .u64 (Int.fdiv x0 (2 ^ (min (1 : Int).toNat IntKind.u64.bits))) 6148914691236517205) + (bitop .and .u64 x0 6148914691236517205))) (2 ^ (min (2 : Int).toNat IntKind.u64.bits))) 3689348814741910323) + (bitop .and .u64 (IntKind.u64.wrap ((bitop .and .u64 (Int.fdiv x0 (2 ^ (min (1 : Int).toNat IntKind.u64.bits))) 6148914691236517205) + (bitop .and .u64 x0 6148914691236517205))) 3689348814741910323))))) 1085102592571150095) (2 ^ (min (8 : Int).toNat IntKind.u64.bits))))) + (Int.fdiv (IntKind.u64.wrap ((bitop .and .u64 (IntKind.u64.wrap ((Int.fdiv (IntKind.u64.wrap ((bitop .and .u64 (Int.fdiv (IntKind.u64.wrap ((bitop .and .u64 (Int.fdiv x0 (2 ^ (min (1 : Int).toNat IntKind.u64.bits))) 6148914691236517205) + (bitop .and .u64 x0 6148914691236517205))) (2 ^ (min (2 : Int).toNat IntKind.u64.bits))) 3689348814741910323) + (bitop .and .u64 (IntKind.u64.wrap ((bitop .and .u64 (Int.fdiv x0 (2 ^ (min (1 : Int).toNat IntKind.u64.bits))) 6148914691236517205) + (bitop .and .u64 x0 6148914691236517205))) 3689348814741910323))) (2 ^ (min (4 : Int).toNat IntKind.u64.bits))) + (IntKind.u64.wrap ((bitop .and .u64 (Int.fdiv (IntKind.u64.wrap ((bitop .and .u64 (Int.fdiv x0 (2 ^ (min (1 : Int).toNat IntKind.u64.bits))) 6148914691236517205) + (bitop .and .u64 x0 6148914691236517205))) (2 ^ (min (2 : Int).toNat IntKind.u64.bits))) 3689348814741910323) + (bitop .and .u64 (IntKind.u64.wrap ((bitop .and .u64 (Int.fdiv x0 (2 ^ (min (1 : Int).toNat IntKind.u64.bits))) 6148914691236517205) + (bitop .and .u64 x0 6148914691236517205))) 3689348814741910323))))) 1085102592571150095) + (Int.fdiv (bitop .and .u64 (IntKind.u64.wrap ((Int.fdiv (IntKind.u64.wrap ((bitop .and .u64 (Int.fdiv (IntKind.u64.wrap ((bitop .and .u64 (Int.fdiv x0 (2 ^ (min (1 : Int).toNat IntKind.u64.bits))) 6148914691236517205) + (bitop .and .u64 x0 6148914691236517205))) (2 ^ (min (2 : Int).toNat IntKind.u64.bits))) 3689348814741910323) + (bitop .and .u64 (IntKind.u64.wrap ((bitop .and .u64 (Int.fdiv x0 (2 ^ (min (1 : Int).toNat IntKind.u64.bits))) 6148914691236517205) + (bitop .and .u64 x0 6148914691236517205))) 3689348814741910323))) (2 ^ (min (4 : Int).toNat IntKind.u64.bits))) + (IntKind.u64.wrap ((bitop .and .u64 (Int.fdiv (IntKind.u64.wrap ((bitop .and .u64 (Int.fdiv x0 (2 ^ (min (1 : Int).toNat IntKind.u64.bits))) 6148914691236517205) + (bitop .and .u64 x0 6148914691236517205))) (2 ^ (min (2 : Int).toNat IntKind.u64.bits))) 3689348814741910323) + (bitop .and .u64 (IntKind.u64.wrap ((bitop .and .u64 (Int.fdiv x0 (2 ^ (min (1 : Int).toNat IntKind.u64.bits))) 6148914691236517205) + (bitop .and .u64 x0 6148914691236517205))) 3689348814741910323))))) 1085102592571150095) (2 ^ (min (8 : Int).toNat IntKind.u64.bits))))) (2 ^ (min (16 : Int).toNat IntKind.u64.bits))))) + (Int.fdiv (IntKind.u64.wrap ((IntKind.u64.wrap ((bitop .and .u64 (IntKind.u64.wrap ((Int.fdiv (IntKind.u64.wrap ((bitop .and .u64 (Int.fdiv (IntKind.u64.wrap ((bitop .and .u64 (Int.fdiv x0 (2 ^ (min (1 : Int).toNat IntKind.u64.bits))) 6148914691236517205) + (bitop .and .u64 x0 6148914691236517205))) (2 ^ (min (2 : Int).toNat IntKind.u64.bits))) 3689348814741910323) + (bitop .and .u64 (IntKind.u64.wrap ((bitop .and .u64 (Int.fdiv x0 (2 ^ (min (1 : Int).toNat IntKind.u64.bits))) 6148914691236517205) + (bitop .and .u64 x0 6148914691236517205))) 3689348814741910323))) (2 ^ (min (4 : Int).toNat IntKind.u64.bits))) + (IntKind.u64.wrap ((bitop .and .u64 (Int.fdiv (IntKind.u64.wrap ((bitop .and .u64 (Int.fdiv x0 (2 ^ (min (1 : Int).toNat IntKind.u64.bits))) 6148914691236517205) + (bitop .and .u64 x0 6148914691236517205))) (2 ^ (min (2 : Int).toNat IntKind.u64.bits))) 3689348814741910323) + (bitop .and .u64 (IntKind.u64.wrap ((bitop .and .u64 (Int.fdiv x0 (2 ^ (min (1 : Int).toNat IntKind.u64.bits))) 6148914691236517205) + (bitop .and .u64 x0 6148914691236517205))) 3689348814741910323))))) 1085102592571150095) + (Int.fdiv (bitop .and .u64 (IntKind.u64.wrap ((Int.fdiv (IntKind.u64.wrap ((bitop .and .u64 (Int.fdiv (IntKind.u64.wrap ((bitop .and .u64 (Int.fdiv x0 (2 ^ (min (1 : Int).toNat IntKind.u64.bits))) 6148914691236517205) + (bitop .and .u64 x0 6148914691236517205))) (2 ^ (min (2 : Int).toNat IntKind.u64.bits))) 3689348814741910323) + (bitop .and .u64 (IntKind.u64.wrap ((bitop .and .u64 (Int.fdiv x0 (2 ^ (min (1 : Int).toNat IntKind.u64.bits))) 6148914691236517205) + (bitop .and .u64 x0 6148914691236517205))) 3689348814741910323))) (2 ^ (min (4 : Int).toNat IntKind.u64.bits))) + (IntKind.u64.wrap ((bitop .and .u64 (Int.fdiv (IntKind.u64.wrap ((bitop .and .u64 (Int.fdiv x0 (2 ^ (min (1 : Int).toNat IntKind.u64.bits))) 6148914691236517205) + (bitop .and .u64 x0 6148914691236517205))) (2 ^ (min (2 : Int).toNat IntKind.u64.bits))) 3689348814741910323) + (bitop .and .u64 (IntKind.u64.wrap ((bitop .and .u64 (Int.fdiv x0 (2 ^ (min (1 : Int).toNat IntKind.u64.bits))) 6148914691236517205) + (bitop .and .u64 x0 6148914691236517205))) 3689348814741910323))))) 1085102592571150095) (2 ^ (min (8 : Int).toNat IntKind.u64.bits))))) + (Int.fdiv (IntKind.u64.wrap ((bitop .and .u64 (IntKind.u64.wrap ((Int.fdiv (IntKind.u64.wrap ((bitop .and .u64 (Int.fdiv (IntKind.u64.wrap ((bitop .and .u64 (Int.fdiv x0 (2 ^ (min (1 : Int).toNat IntKind.u64.bits))) 6148914691236517205) + (bitop .and .u64 x0 6148914691236517205))) (2 ^ (min (2 : Int).toNat IntKind.u64.bits))) 3689348814741910323) + (bitop .and .u64 (IntKind.u64.wrap ((bitop .and .u64 (Int.fdiv x0 (2 ^ (min (1 : Int).toNat IntKind.u64.bits))) 6148914691236517205) + (bitop .and .u64 x0 6148914691236517205))) 3689348814741910323))) (2 ^ (min (4 : Int).toNat IntKind.u64.bits))) + (IntKind.u64.wrap ((bitop .and .u64 (Int.fdiv (IntKind.u64.wrap ((bitop .and .u64 (Int.fdiv x0 (2 ^ (min (1 : Int).toNat IntKind.u64.bits))) 6148914691236517205) + (bitop .and .u64 x0 6148914691236517205))) (2 ^ (min (2 : Int).toNat IntKind.u64.bits))) 3689348814741910323) + (bitop .and .u64 (IntKind.u64.wrap ((bitop .and .u64 (Int.fdiv x0 (2 ^ (min (1 : Int).toNat IntKind.u64.bits))) 6148914691236517205) + (bitop .and .u64 x0 6148914691236517205))) 3689348814741910323))))) 1085102592571150095) + (Int.fdiv (bitop .and .u64 (IntKind.u64.wrap ((Int.fdiv (IntKind.u64.wrap ((bitop .and .u64 (Int.fdiv (IntKind.u64.wrap ((bitop .and .u64 (Int.fdiv x0 (2 ^ (min (1 : Int).toNat IntKind.u64.bits))) 6148914691236517205) + (bitop .and .u64 x0 6148914691236517205))) (2 ^ (min (2 : Int).toNat IntKind.u64.bits))) 3689348814741910323) + (bitop .and .u64 (IntKind.u64.wrap ((bitop .and .u64 (Int.fdiv x0 (2 ^ (min (1 : Int).toNat IntKind.u64.bits))) 6148914691236517205) + (bitop .and .u64 x0 6148914691236517205))) 3689348814741910323))) (2 ^ (min (4 : Int).toNat IntKind.u64.bits))) + (IntKind.u64.wrap ((bitop .and .u64 (Int.fdiv (IntKind.u64.wrap ((bitop .and .u64 (Int.fdiv x0 (2 ^ (min (1 : Int).toNat IntKind.u64.bits))) 6148914691236517205) + (bitop .and .u64 x0 6148914691236517205))) (2 ^ (min (2 : Int).toNat IntKind.u64.bits))) 3689348814741910323) + (bitop .and .u64 (IntKind.u64.wrap ((bitop .and .u64 (Int.fdiv x0 (2 ^ (min (1 : Int).toNat IntKind.u64.bits))) 6148914691236517205) + (bitop .and .u64 x0 6148914691236517205))) 3689348814741910323))))) 1085102592571150095) (2 ^ (min (8 : Int).toNat IntKind.u64.bits))))) (2 ^ (min (16 : Int).toNat IntKind.u64.bits))))) (2 ^ (min (32 : Int).toNat IntKind.u64.bits))))))), (sp ((TI .i64).sv (IntKind.i64.wrap (IntKind.u64.wrap ((IntKind.u64.wrap ((IntKind.u64.wrap ((bitop .and .u64 (IntKind.u64.wrap ((Int.fdiv (IntKind.u64.wrap ((bitop .and .u64 (Int.fdiv (IntKind.u64.wrap ((bitop .and .u64 (Int.fdiv x0 (2 ^ (min (1 : Int).toNat IntKind.u64.bits))) 6148914691236517205) + (bitop .and .u64 x0 6148914691236517205))) (2 ^ (min (2 : Int).toNat IntKind.u64.bits))) 3689348814741910323) + (bitop .and .u64 (IntKind.u64.wrap ((bitop .and .u64 (Int.fdiv x0 (2 ^ (min (1 : Int).toNat IntKind.u64.bits))) 6148914691236517205) + (bitop .and .u64 x0 6148914691236517205))) 3689348814741910323))) (2 ^ (min (4 : Int).toNat IntKind.u64.bits))) + (IntKind.u64.wrap ((bitop .and .u64 (Int.fdiv (IntKind.u64.wrap ((bitop .and .u64 (Int.fdiv x0 (2 ^ (min (1 : Int).toNat IntKind.u64.bits))) 6148914691236517205) + (bitop .and .u64 x0 6148914691236517205))) (2 ^ (min (2 : Int).toNat IntKind.u64.bits))) 3689348814741910323) + (bitop .and .u64 (IntKind.u64.wrap ((bitop .and .u64 (Int.fdiv x0 (2 ^ (min (1 : Int).toNat IntKind.u64.bits))) 6148914691236517205) + (bitop .and .u64 x0 6148914691236517205))) 3689348814741910323))))) 1085102592571150095) + (Int.fdiv (bitop .and .u64 (IntKind.u64.wrap ((Int.fdiv (IntKind.u64.wrap ((bitop .and .u64 (Int.fdiv (IntKind.u64.wrap ((bitop .and .u64 (Int.fdiv x0 (2 ^ (min (1 : Int).toNat IntKind.u64.bits))) 6148914691236517205) + (bitop .and .u64 x0 6148914691236517205))) (2 ^ (min (2 : Int).toNat IntKind.u64.bits))) 3689348814741910323) + (bitop .and .u64 (IntKind.u64.wrap ((bitop .and .u64 (Int.fdiv x0 (2 ^ (min (1 : Int).toNat IntKind.u64.bits))) 6148914691236517205) + (bitop .and .u64 x0 6148914691236517205))) 3689348814741910323))) (2 ^ (min (4 : Int).toNat IntKind.u64.bits))) + (IntKind.u64.wrap ((bitop .and .u64 (Int.fdiv (IntKind.u64.wrap ((bitop .and .u64 (Int.fdiv x0 (2 ^ (min (1 : Int).toNat IntKind.u64.bits))) 6148914691236517205) + (bitop .and .u64 x0 6148914691236517205))) (2 ^ (min (2 : Int).toNat IntKind.u64.bits))) 3689348814741910323) + (bitop .and .u64 (IntKind.u64.wrap ((bitop .and .u64 (Int.fdiv x0 (2 ^ (min (1 : Int).toNat IntKind.u64.bits))) 6148914691236517205) + (bitop .and .u64 x0 6148914691236517205))) 3689348814741910323))))) 1085102592571150095) (2 ^ (min (8 : Int).toNat IntKind.u64.bits))))) + (Int.fdiv (IntKind.u64.wrap ((bitop .and .u64 (IntKind.u64.wrap ((Int.fdiv (IntKind.u64.wrap ((bitop .and .u64 (Int.fdiv (IntKind.u64.wrap ((bitop .and .u64 (Int.fdiv x0 (2 ^ (min (1 : Int).toNat IntKind.u64.bits))) 6148914691236517205) + (bitop .and .u64 x0 6148914691236517205))) (2 ^ (min (2 : Int).toNat IntKind.u64.bits))) 3689348814741910323) + (bitop .and .u64 (IntKind.u64.wrap ((bitop .and .u64 (Int.fdiv x0 (2 ^ (min (1 : Int).toNat IntKind.u64.bits))) 6148914691236517205) + (bitop .and .u64 x0 6148914691236517205))) 3689348814741910323))) (2 ^ (min (4 : Int).toNat IntKind.u64.bits))) + (IntKind.u64.wrap ((bitop .and .u64 (Int.fdiv (IntKind.u64.wrap ((bitop .and .u64 (Int.fdiv x0 (2 ^ (min (1 : Int).toNat IntKind.u64.bits))) 6148914691236517205) + (bitop .and .u64 x0 6148914691236517205))) (2 ^ (min (2 : Int).toNat IntKind.u64.bits))) 3689348814741910323) + (bitop .and .u64 (IntKind.u64.wrap ((bitop .and .u64 (Int.fdiv x0 (2 ^ (min (1 : Int).toNat IntKind.u64.bits))) 6148914691236517205) + (bitop .and .u64 x0 6148914691236517205))) 3689348814741910323))))) 1085102592571150095) + (Int.fdiv (bitop .and .u64 (IntKind.u64.wrap ((Int.fdiv (IntKind.u64.wrap ((bitop .and .u64 (Int.fdiv (IntKind.u64.wrap ((bitop .and .u64 (Int.fdiv x0 (2 ^ (min (1 : Int).toNat IntKind.u64.bits))) 6148914691236517205) + (bitop .and .u64 x0 6148914691236517205))) (2 ^ (min (2 : Int).toNat IntKind.u64.bits))) 3689348814741910323) + (bitop .and .u64 (IntKind.u64.wrap ((bitop .and .u64 (Int.fdiv x0 (2 ^ (min (1 : Int).toNat IntKind.u64.bits))) 6148914691236517205) + (bitop .and .u64 x0 6148914691236517205))) 3689348814741910323))) (2 ^ (min (4 : Int).toNat IntKind.u64.bits))) + (IntKind.u64.wrap ((bitop .and .u64 (Int.fdiv (IntKind.u64.wrap ((bitop .and .u64 (Int.fdiv x0 (2 ^ (min (1 : Int).toNat IntKind.u64.bits))) 6148914691236517205) + (bitop .and .u64 x0 6148914691236517205))) (2 ^ (min (2 : Int).toNat IntKind.u64.bits))) 3689348814741910323) + (bitop .and .u64 (IntKind.u64.wrap ((bitop .and .u64 (Int.fdiv x0 (2 ^ (min (1 : Int).toNat IntKind.u64.bits))) 6148914691236517205) + (bitop .and .u64 x0 6148914691236517205))) 3689348814741910323))))) 1085102592571150095) (2 ^ (min (8 : Int).toNat IntKind.u64.bits))))) (2 ^ (min (16 : Int).toNat IntKind.u64.bits))))) + (Int.fdiv (IntKind.u64.wrap ((IntKind.u64.wrap ((bitop .and .u64 (IntKind.u64.wrap ((Int.fdiv (IntKind.u64.wrap ((bitop .and .u64 (Int.fdiv (IntKind.u64.wrap ((bitop .and .u64 (Int.fdiv x0 (2 ^ (min (1 : Int).toNat IntKind.u64.bits))) 6148914691236517205) + (bitop .and .u64 x0 6148914691236517205))) (2 ^ (min (2 : Int).toNat IntKind.u64.bits))) 3689348814741910323) + (bitop .and .u64 (IntKind.u64.wrap ((bitop .and .u64 (Int.fdiv x0 (2 ^ (min (1 : Int).toNat IntKind.u64.bits))) 6148914691236517205) + (bitop .and .u64 x0 6148914691236517205))) 3689348814741910323))) (2 ^ (min (4 : Int).toNat IntKind.u64.bits))) + (IntKind.u64.wrap ((bitop .and .u64 (Int.fdiv (IntKind.u64.wrap ((bitop .and .u64 (Int.fdiv x0 (2 ^ (min (1 : Int).toNat IntKind.u64.bits))) 6148914691236517205) + (bitop .and .u64 x0 6148914691236517205))) (2 ^ (min (2 : Int).toNat IntKind.u64.bits))) 3689348814741910323) + (bitop .and .u64 (IntKind.u64.wrap ((bitop .and .u64 (Int.fdiv x0 (2 ^ (min (1 : Int).toNat IntKind.u64.bits))) 6148914691236517205) + (bitop .and .u64 x0 6148914691236517205))) 3689348814741910323))))) 1085102592571150095) + (Int.fdiv (bitop .and .u64 (IntKind.u64.wrap ((Int.fdiv (IntKind.u64.wrap ((bitop .and .u64 (Int.fdiv (IntKind.u64.wrap ((bitop .and .u64 (Int.fdiv x0 (2 ^ (min (1 : Int).toNat IntKind.u64.bits))) 6148914691236517205) + (bitop .and .u64 x0 6148914691236517205))) (2 ^ (min (2 : Int).toNat IntKind.u64.bits))) 3689348814741910323) + (bitop .and .u64 (IntKind.u64.wrap ((bitop .and .u64 (Int.fdiv x0 (2 ^ (min (1 : Int).toNat IntKind.u64.bits))) 6148914691236517205) + (bitop .and .u64 x0 6148914691236517205))) 3689348814741910323))) (2 ^ (min (4 : Int).toNat IntKind.u64.bits))) + (IntKind.u64.wrap ((bitop .and .u64 (Int.fdiv (IntKind.u64.wrap ((bitop .and .u64 (Int.fdiv x0 (2 ^ (min (1 : Int).toNat IntKind.u64.bits))) 6148914691236517205) + (bitop .and .u64 x0 6148914691236517205))) (2 ^ (min (2 : Int).toNat IntKind.u64.bits))) 3689348814741910323) + (bitop .and .u64 (IntKind.u64.wrap ((bitop .and .u64 (Int.fdiv x0 (2 ^ (min (1 : Int).toNat IntKind.u64.bits))) 6148914691236517205) + (bitop .and .u64 x0 6148914691236517205))) 3689348814741910323))))) 1085102592571150095) (2 ^ (min (8 : Int).toNat IntKind.u64.bits))))) + (Int.fdiv (IntKind.u64.wrap ((bitop .and .u64 (IntKind.u64.wrap ((Int.fdiv (IntKind.u64.wrap ((bitop .and .u64 (Int.fdiv (IntKind.u64.wrap ((bitop .and .u64 (Int.fdiv x0 (2 ^ (min (1 : Int).toNat IntKind.u64.bits))) 6148914691236517205) + (bitop .and .u64 x0 6148914691236517205))) (2 ^ (min (2 : Int).toNat IntKind.u64.bits))) 3689348814741910323) + (bitop .and .u64 (IntKind.u64.wrap ((bitop .and .u64 (Int.fdiv x0 (2 ^ (min (1 : Int).toNat IntKind.u64.bits))) 6148914691236517205) + (bitop .and .u64 x0 6148914691236517205))) 3689348814741910323))) (2 ^ (min (4 : Int).toNat IntKind.u64.bits))) + (IntKind.u64.wrap ((bitop .and .u64 (Int.fdiv (IntKind.u64.wrap ((bitop .and .u64 (Int.fdiv x0 (2 ^ (min (1 : Int).toNat IntKind.u64.bits))) 6148914691236517205) + (bitop .and .u64 x0 6148914691236517205))) (2 ^ (min (2 : Int).toNat IntKind.u64.bits))) 3689348814741910323) + (bitop .and .u64 (IntKind.u64.wrap ((bitop .and .u64 (Int.fdiv x0 (2 ^ (min (1 : Int).toNat IntKind.u64.bits))) 6148914691236517205) + (bitop .and .u64 x0 6148914691236517205))) 3689348814741910323))))) 1085102592571150095) + (Int.fdiv (bitop .and .u64 (IntKind.u64.wrap ((Int.fdiv (IntKind.u64.wrap ((bitop .and .u64 (Int.fdiv (IntKind.u64.wrap ((bitop .and .u64 (Int.fdiv x0 (2 ^ (min (1 : Int).toNat IntKind.u64.bits))) 6148914691236517205) + (bitop .and .u64 x0 6148914691236517205))) (2 ^ (min (2 : Int).toNat IntKind.u64.bits))) 3689348814741910323) + (bitop .and .u64 (IntKind.u64.wrap ((bitop .and .u64 (Int.fdiv x0 (2 ^ (min (1 : Int).toNat IntKind.u64.bits))) 6148914691236517205) + (bitop .and .u64 x0 6148914691236517205))) 3689348814741910323))) (2 ^ (min (4 : Int).toNat IntKind.u64.bits))) + (IntKind.u64.wrap ((bitop .and .u64 (Int.fdiv (IntKind.u64.wrap ((bitop .and .u64 (Int.fdiv x0 (2 ^ (min (1 : Int).toNat IntKind.u64.bits))) 6148914691236517205) + (bitop .and .u64 x0 6148914691236517205))) (2 ^ (min (2 : Int).toNat IntKind.u64.bits))) 3689348814741910323) + (bitop .and .u64 (IntKind.u64.wrap ((bitop .and .u64 (Int.fdiv x0 (2 ^ (min (1 : Int).toNat IntKind.u64.bits))) 6148914691236517205) + (bitop .and .u64 x0 6148914691236517205))) 3689348814741910323))))) 1085102592571150095) (2 ^ (min (8 : Int).toNat IntKind.u64.bits))))) (2 ^ (min (16 : Int).toNat IntKind.u64.bits))))) (2 ^ (min (32 : Int).toNat IntKind.u64.bits)))))))), (sp ((TI .i64).sv (bitop .and .i64 (IntKind.i64.wrap (IntKind.u64.wrap ((IntKind.u64.wrap ((IntKind.u64.wrap ((bitop .and .u64 (IntKind.u64.wrap ((Int.fdiv (IntKind.u64.wrap ((bitop .and .u64 (Int.fdiv (IntKind.u64.wrap ((bitop .and .u64 (Int.fdiv x0 (2 ^ (min (1 : Int).toNat IntKind.u64.bits))) 6148914691236517205) + (bitop .and .u64 x0 6148914691236517205))) (2 ^ (min (2 : Int).toNat IntKind.u64.bits))) 3689348814741910323) + (bitop .and .u64 (IntKind.u64.wrap ((bitop .and .u64 (Int.fdiv x0 (2 ^ (min (1 : Int).toNat IntKind.u64.bits))) 6148914691236517205) + (bitop .and .u64 x0 6148914691236517205))) 3689348814741910323))) (2 ^ (min (4 : Int).toNat IntKind.u64.bits))) + (IntKind.u64.wrap ((bitop .and .u64 (Int.fdiv (IntKind.u64.wrap ((bitop .and .u64 (Int.fdiv x0 (2 ^ (min (1 : Int).toNat IntKind.u64.bits))) 6148914691236517205) + (bitop .and .u64 x0 6148914691236517205))) (2 ^ (min (2 : Int).toNat IntKind.u64.bits))) 3689348814741910323) + (bitop .and .u64 (IntKind.u64.wrap ((bitop .and .u64 (Int.fdiv x0 (2 ^ (min (1 : Int).toNat IntKind.u64.bits))) 6148914691236517205) + (bitop .and .u64 x0 6148914691236517205))) 3689348814741910323))))) 1085102592571150095) + (Int.fdiv (bitop .and .u64 (IntKind.u64.wrap ((Int.fdiv (IntKind.u64.wrap ((bitop .and .u64 (Int.fdiv (IntKind.u64.wrap ((bitop .and .u64 (Int.fdiv x0 (2 ^ (min (1 : Int).toNat IntKind.u64.bits))) 6148914691236517205) + (bitop .and .u64 x0 6148914691236517205))) (2 ^ (min (2 : Int).toNat IntKind.u64.bits))) 3689348814741910323) + (bitop .and .u64 (IntKind.u64.wrap ((bitop .and .u64 (Int.fdiv x0 (2 ^ (min (1 : Int).toNat IntKind.u64.bits))) 6148914691236517205) + (bitop .and .u64 x0 6148914691236517205))) 3689348814741910323))) (2 ^ (min (4 : Int).toNat IntKind.u64.bits))) + (IntKind.u64.wrap ((bitop .and .u64 (Int.fdiv (IntKind.u64.wrap ((bitop .and .u64 (Int.fdiv x0 (2 ^ (min (1 : Int).toNat IntKind.u64.bits))) 6148914691236517205) + (bitop .and .u64 x0 6148914691236517205))) (2 ^ (min (2 : Int).toNat IntKind.u64.bits))) 3689348814741910323) + (bitop .and .u64 (IntKind.u64.wrap ((bitop .and .u64 (Int.fdiv x0 (2 ^ (min (1 : Int).toNat IntKind.u64.bits))) 6148914691236517205) + (bitop .and .u64 x0 6148914691236517205))) 3689348814741910323))))) 1085102592571150095) (2 ^ (min (8 : Int).toNat IntKind.u64.bits))))) + (Int.fdiv (IntKind.u64.wrap ((bitop .and .u64 (IntKind.u64.wrap ((Int.fdiv (IntKind.u64.wrap ((bitop .and .u64 (Int.fdiv (IntKind.u64.wrap ((bitop .and .u64 (Int.fdiv x0 (2 ^ (min (1 : Int).toNat IntKind.u64.bits))) 6148914691236517205) + (bitop .and .u64 x0 6148914691236517205))) (2 ^ (min (2 : Int).toNat IntKind.u64.bits))) 3689348814741910323) + (bitop .and .u64 (IntKind.u64.wrap ((bitop .and .u64 (Int.fdiv x0 (2 ^ (min (1 : Int).toNat IntKind.u64.bits))) 6148914691236517205) + (bitop .and .u64 x0 6148914691236517205))) 3689348814741910323))) (2 ^ (min (4 : Int).toNat IntKind.u64.bits))) + (IntKind.u64.wrap ((bitop .and .u64 (Int.fdiv (IntKind.u64.wrap ((bitop .and .u64 (Int.fdiv x0 (2 ^ (min (1 : Int).toNat IntKind.u64.bits))) 6148914691236517205) + (bitop .and .u64 x0 6148914691236517205))) (2 ^ (min (2 : Int).toNat IntKind.u64.bits))) 3689348814741910323) + (bitop .and .u64 (IntKind.u64.wrap ((bitop .and .u64 (Int.fdiv x0 (2 ^ (min (1 : Int).toNat IntKind.u64.bits))) 6148914691236517205) + (bitop .and .u64 x0 6148914691236517205))) 3689348814741910323))))) 1085102592571150095) + (Int.fdiv (bitop .and .u64 (IntKind.u64.wrap ((Int.fdiv (IntKind.u64.wrap ((bitop .and .u64 (Int.fdiv (IntKind.u64.wrap ((bitop .and .u64 (Int.fdiv x0 (2 ^ (min (1 : Int).toNat IntKind.u64.bits))) 6148914691236517205) + (bitop .and .u64 x0 6148914691236517205))) (2 ^ (min (2 : Int).toNat IntKind.u64.bits))) 3689348814741910323) + (bitop .and .u64 (IntKind.u64.wrap ((bitop .and .u64 (Int.fdiv x0 (2 ^ (min (1 : Int).toNat IntKind.u64.bits))) 6148914691236517205) + (bitop .and .u64 x0 6148914691236517205))) 3689348814741910323))) (2 ^ (min (4 : Int).toNat IntKind.u64.bits))) + (IntKind.u64.wrap ((bitop .and .u64 (Int.fdiv (IntKind.u64.wrap ((bitop .and .u64 (Int.fdiv x0 (2 ^ (min (1 : Int).toNat IntKind.u64.bits))) 6148914691236517205) + (bitop .and .u64 x0 6148914691236517205))) (2 ^ (min (2 : Int).toNat IntKind.u64.bits))) 3689348814741910323) + (bitop .and .u64 (IntKind.u64.wrap ((bitop .and .u64 (Int.fdiv x0 (2 ^ (min (1 : Int).toNat IntKind.u64.bits))) 6148914691236517205) + (bitop .and .u64 x0 6148914691236517205))) 3689348814741910323))))) 1085102592571150095) (2 ^ (min (8 : Int).toNat IntKind.u64.bits))))) (2 ^ (min (16 : Int).toNat IntKind.u64.bits))))) + (Int.fdiv (IntKind.u64.wrap ((IntKind.u64.wrap ((bitop .and .u64 (IntKind.u64.wrap ((Int.fdiv (IntKind.u64.wrap ((bitop .and .u64 (Int.fdiv (IntKind.u64.wrap ((bitop .and .u64 (Int.fdiv x0 (2 ^ (min (1 : Int).toNat IntKind.u64.bits))) 6148914691236517205) + (bitop .and .u64 x0 6148914691236517205))) (2 ^ (min (2 : Int).toNat IntKind.u64.bits))) 3689348814741910323) + (bitop .and .u64 (IntKind.u64.wrap ((bitop .and .u64 (Int.fdiv x0 (2 ^ (min (1 : Int).toNat IntKind.u64.bits))) 6148914691236517205) + (bitop .and .u64 x0 6148914691236517205))) 3689348814741910323))) (2 ^ (min (4 : Int).toNat IntKind.u64.bits))) + (IntKind.u64.wrap ((bitop .and .u64 (Int.fdiv (IntKind.u64.wrap ((bitop .and .u64 (Int.fdiv x0 (2 ^ (min (1 : Int).toNat IntKind.u64.bits))) 6148914691236517205) + (bitop .and .u64 x0 6148914691236517205))) (2 ^ (min (2 : Int).toNat IntKind.u64.bits))) 3689348814741910323) + (bitop .and .u64 (IntKind.u64.wrap ((bitop .and .u64 (Int.fdiv x0 (2 ^ (min (1 : Int).toNat IntKind.u64.bits))) 6148914691236517205) + (bitop .and .u64 x0 6148914691236517205))) 3689348814741910323))))) 1085102592571150095) + (Int.fdiv (bitop .and .u64 (IntKind.u64.wrap ((Int.fdiv (IntKind.u64.wrap ((bitop .and .u64 (Int.fdiv (IntKind.u64.wrap ((bitop .and .u64 (Int.fdiv x0 (2 ^ (min (1 : Int).toNat IntKind.u64.bits))) 6148914691236517205) + (bitop .and .u64 x0 6148914691236517205))) (2 ^ (min (2 : Int).toNat IntKind.u64.bits))) 3689348814741910323) + (bitop .and .u64 (IntKind.u64.wrap ((bitop .and .u64 (Int.fdiv x0 (2 ^ (min (1 : Int).toNat IntKind.u64.bits))) 6148914691236517205) + (bitop .and .u64 x0 6148914691236517205))) 3689348814741910323))) (2 ^ (min (4 : Int).toNat IntKind.u64.bits))) + (IntKind.u64.wrap ((bitop .and .u64 (Int.fdiv (IntKind.u64.wrap ((bitop .and .u64 (Int.fdiv x0 (2 ^ (min (1 : Int).toNat IntKind.u64.bits))) 6148914691236517205) + (bitop .and .u64 x0 6148914691236517205))) (2 ^ (min (2 : Int).toNat IntKind.u64.bits))) 3689348814741910323) + (bitop .and .u64 (IntKind.u64.wrap ((bitop .and .u64 (Int.fdiv x0 (2 ^ (min (1 : Int).toNat IntKind.u64.bits))) 6148914691236517205) + (bitop .and .u64 x0 6148914691236517205))) 3689348814741910323))))) 1085102592571150095) (2 ^ (min (8 : Int).toNat IntKind.u64.bits))))) + (Int.fdiv (IntKind.u64.wrap ((bitop .and .u64 (IntKind.u64.wrap ((Int.fdiv (IntKind.u64.wrap ((bitop .and .u64 (Int.fdiv (IntKind.u64.wrap ((bitop .and .u64 (Int.fdiv x0 (2 ^ (min (1 : Int).toNat IntKind.u64.bits))) 6148914691236517205) + (bitop .and .u64 x0 6148914691236517205))) (2 ^ (min (2 : Int).toNat IntKind.u64.bits))) 3689348814741910323) + (bitop .and .u64 (IntKind.u64.wrap ((bitop .and .u64 (Int.fdiv x0 (2 ^ (min (1 : Int).toNat IntKind.u64.bits))) 6148914691236517205) + (bitop .and .u64 x0 6148914691236517205))) 3689348814741910323))) (2 ^ (min (4 : Int).toNat IntKind.u64.bits))) + (IntKind.u64.wrap ((bitop .and .u64 (Int.fdiv (IntKind.u64.wrap ((bitop .and .u64 (Int.fdiv x0 (2 ^ (min (1 : Int).toNat IntKind.u64.bits))) 6148914691236517205) + (bitop .and .u64 x0 6148914691236517205))) (2 ^ (min (2 : Int).toNat IntKind.u64.bits))) 3689348814741910323) + (bitop .and .u64 (IntKind.u64.wrap ((bitop .and .u64 (Int.fdiv x0 (2 ^ (min (1 : Int).toNat IntKind.u64.bits))) 6148914691236517205) + (bitop .and .u64 x0 6148914691236517205))) 3689348814741910323))))) 1085102592571150095) + (Int.fdiv (bitop .and .u64 (IntKind.u64.wrap ((Int.fdiv (IntKind.u64.wrap ((bitop .and .u64 (Int.fdiv (IntKind.u64.wrap ((bitop .and .u64 (Int.fdiv x0 (2 ^ (min (1 : Int).toNat IntKind.u64.bits))) 6148914691236517205) + (bitop .and .u64 x0 6148914691236517205))) (2 ^ (min (2 : Int).toNat IntKind.u64.bits))) 3689348814741910323) + (bitop .and .u64 (IntKind.u64.wrap ((bitop .and .u64 (Int.fdiv x0 (2 ^ (min (1 : Int).toNat IntKind.u64.bits))) 6148914691236517205) + (bitop .and .u64 x0 6148914691236517205))) 3689348814741910323))) (2 ^ (min (4 : Int).toNat IntKind.u64.bits))) + (IntKind.u64.wrap ((bitop .and .u64 (Int.fdiv (IntKind.u64.wrap ((bitop .and .u64 (Int.fdiv x0 (2 ^ (min (1 : Int).toNat IntKind.u64.bits))) 6148914691236517205) + (bitop .and .u64 x0 6148914691236517205))) (2 ^ (min (2 : Int).toNat IntKind.u64.bits))) 3689348814741910323) + (bitop .and .u64 (IntKind.u64.wrap ((bitop .and .u64 (Int.fdiv x0 (2 ^ (min (1 : Int).toNat IntKind.u64.bits))) 6148914691236517205) + (bitop .and .u64 x0 6148914691236517205))) 3689348814741910323))))) 1085102592571150095) (2 ^ (min (8 : Int).toNat IntKind.u64.bits))))) (2 ^ (min (16 : Int).toNat IntKind.u64.bits))))) (2 ^ (min (32 : Int).toNat IntKind.u64.bits)))))) 127))), (sp ((TI .i64).sv (bitop .and .i64 (IntKind.i64.wrap (IntKind.u64.wrap ((IntKind.u64.wrap ((IntKind.u64.wrap ((bitop .and .u64 (IntKind.u64.wrap ((Int.fdiv (IntKind.u64.wrap ((bitop .and .u64 (Int.fdiv (IntKind.u64.wrap ((bitop .and .u64 (Int.fdiv x0 (2 ^ (min (1 : Int).toNat IntKind.u64.bits))) 6148914691236517205) + (bitop .and .u64 x0 6148914691236517205))) (2 ^ (min (2 : Int).toNat IntKind.u64.bits))) 3689348814741910323) + (bitop .and .u64 (IntKind.u64.wrap ((bitop .and .u64 (Int.fdiv x0 (2 ^ (min (1 : Int).toNat IntKind.u64.bits))) 6148914691236517205) + (bitop .and .u64 x0 6148914691236517205))) 3689348814741910323))) (2 ^ (min (4 : Int).toNat IntKind.u64.bits))) + (IntKind.u64.wrap ((bitop .and .u64 (Int.fdiv (IntKind.u64.wrap ((bitop .and .u64 (Int.fdiv x0 (2 ^ (min (1 : Int).toNat IntKind.u64.bits))) 6148914691236517205) + (bitop .and .u64 x0 6148914691236517205))) (2 ^ (min (2 : Int).toNat IntKind.u64.bits))) 3689348814741910323) + (bitop .and .u64 (IntKind.u64.wrap ((bitop .and .u64 (Int.fdiv x0 (2 ^ (min (1 : Int).toNat IntKind.u64.bits))) 6148914691236517205) + (bitop .and .u64 x0 6148914691236517205))) 3689348814741910323))))) 1085102592571150095) + (Int.fdiv (bitop .and .u64 (IntKind.u64.wrap ((Int.fdiv (IntKind.u64.wrap ((bitop .and .u64 (Int.fdiv (IntKind.u64.wrap ((bitop .and .u64 (Int.fdiv x0 (2 ^ (min (1 : Int).toNat IntKind.u64.bits))) 6148914691236517205) + (bitop .and .u64 x0 6148914691236517205))) (2 ^ (min (2 : Int).toNat IntKind.u64.bits))) 3689348814741910323) + (bitop .and .u64 (IntKind.u64.wrap ((bitop .and .u64 (Int.fdiv x0 (2 ^ (min (1 : Int).toNat IntKind.u64.bits))) 6148914691236517205) + (bitop .and .u64 x0 6148914691236517205))) 3689348814741910323))) (2 ^ (min (4 : Int).toNat IntKind.u64.bits))) + (IntKind.u64.wrap ((bitop .and .u64 (Int.fdiv (IntKind.u64.wrap ((bitop .and .u64 (Int.fdiv x0 (2 ^ (min (1 : Int).toNat IntKind.u64.bits))) 6148914691236517205) + (bitop .and .u64 x0 6148914691236517205))) (2 ^ (min (2 : Int).toNat IntKind.u64.bits))) 3689348814741910323) + (bitop .and .u64 (IntKind.u64.wrap ((bitop .and .u64 (Int.fdiv x0 (2 ^ (min (1 : Int).toNat IntKind.u64.bits))) 6148914691236517205) + (bitop .and .u64 x0 6148914691236517205))) 3689348814741910323))))) 1085102592571150095) (2 ^ (min (8 : Int).toNat IntKind.u64.bits))))) + (Int.fdiv (IntKind.u64.wrap ((bitop .and .u64 (IntKind.u64.wrap ((Int.fdiv (IntKind.u64.wrap ((bitop .and .u64 (Int.fdiv (IntKind.u64.wrap ((bitop .and .u64 (Int.fdiv x0 (2 ^ (min (1 : Int).toNat IntKind.u64.bits))) 6148914691236517205) + (bitop .and .u64 x0 6148914691236517205))) (2 ^ (min (2 : Int).toNat IntKind.u64.bits))) 3689348814741910323) + (bitop .and .u64 (IntKind.u64.wrap ((bitop .and .u64 (Int.fdiv x0 (2 ^ (min (1 : Int).toNat IntKind.u64.bits))) 6148914691236517205) + (bitop .and .u64 x0 6148914691236517205))) 3689348814741910323))) (2 ^ (min (4 : Int).toNat IntKind.u64.bits))) + (IntKind.u64.wrap ((bitop .and .u64 (Int.fdiv (IntKind.u64.wrap ((bitop .and .u64 (Int.fdiv x0 (2 ^ (min (1 : Int).toNat IntKind.u64.bits))) 6148914691236517205) + (bitop .and .u64 x0 6148914691236517205))) (2 ^ (min (2 : Int).toNat IntKind.u64.bits))) 3689348814741910323) + (bitop .and .u64 (IntKind.u64.wrap ((bitop .and .u64 (Int.fdiv x0 (2 ^ (min (1 : Int).toNat IntKind.u64.bits))) 6148914691236517205) + (bitop .and .u64 x0 6148914691236517205))) 3689348814741910323))))) 1085102592571150095) + (Int.fdiv (bitop .and .u64 (IntKind.u64.wrap ((Int.fdiv (IntKind.u64.wrap ((bitop .and .u64 (Int.fdiv (IntKind.u64.wrap ((bitop .and .u64 (Int.fdiv x0 (2 ^ (min (1 : Int).toNat IntKind.u64.bits))) 6148914691236517205) + (bitop .and .u64 x0 6148914691236517205))) (2 ^ (min (2 : Int).toNat IntKind.u64.bits))) 3689348814741910323) + (bitop .and .u64 (IntKind.u64.wrap ((bitop .and .u64 (Int.fdiv x0 (2 ^ (min (1 : Int).toNat IntKind.u64.bits))) 6148914691236517205) + (bitop .and .u64 x0 6148914691236517205))) 3689348814741910323))) (2 ^ (min (4 : Int).toNat IntKind.u64.bits))) + (IntKind.u64.wrap ((bitop .and .u64 (Int.fdiv (IntKind.u64.wrap ((bitop .and .u64 (Int.fdiv x0 (2 ^ (min (1 : Int).toNat IntKind.u64.bits))) 6148914691236517205) + (bitop .and .u64 x0 6148914691236517205))) (2 ^ (min (2 : Int).toNat IntKind.u64.bits))) 3689348814741910323) + (bitop .and .u64 (IntKind.u64.wrap ((bitop .and .u64 (Int.fdiv x0 (2 ^ (min (1 : Int).toNat IntKind.u64.bits))) 6148914691236517205) + (bitop .and .u64 x0 6148914691236517205))) 3689348814741910323))))) 1085102592571150095) (2 ^ (min (8 : Int).toNat IntKind.u64.bits))))) (2 ^ (min (16 : Int).toNat IntKind.u64.bits))))) + (Int.fdiv (IntKind.u64.wrap ((IntKind.u64.wrap ((bitop .and .u64 (IntKind.u64.wrap ((Int.fdiv (IntKind.u64.wrap ((bitop .and .u64 (Int.fdiv (IntKind.u64.wrap ((bitop .and .u64 (Int.fdiv x0 (2 ^ (min (1 : Int).toNat IntKind.u64.bits))) 6148914691236517205) + (bitop .and .u64 x0 6148914691236517205))) (2 ^ (min (2 : Int).toNat IntKind.u64.bits))) 3689348814741910323) + (bitop .and .u64 (IntKind.u64.wrap ((bitop .and .u64 (Int.fdiv x0 (2 ^ (min (1 : Int).toNat IntKind.u64.bits))) 6148914691236517205) + (bitop .and .u64 x0 6148914691236517205))) 3689348814741910323))) (2 ^ (min (4 : Int).toNat IntKind.u64.bits))) + (IntKind.u64.wrap ((bitop .and .u64 (Int.fdiv (IntKind.u64.wrap ((bitop .and .u64 (Int.fdiv x0 (2 ^ (min (1 : Int).toNat IntKind.u64.bits))) 6148914691236517205) + (bitop .and .u64 x0 6148914691236517205))) (2 ^ (min (2 : Int).toNat IntKind.u64.bits))) 3689348814741910323) + (bitop .and .u64 (IntKind.u64.wrap ((bitop .and .u64 (Int.fdiv x0 (2 ^ (min (1 : Int).toNat IntKind.u64.bits))) 6148914691236517205) + (bitop .and .u64 x0 6148914691236517205))) 3689348814741910323))))) 1085102592571150095) + (Int.fdiv (bitop .and .u64 (IntKind.u64.wrap ((Int.fdiv (IntKind.u64.wrap ((bitop .and .u64 (Int.fdiv (IntKind.u64.wrap ((bitop .and .u64 (Int.fdiv x0 (2 ^ (min (1 : Int).toNat IntKind.u64.bits))) 6148914691236517205) + (bitop .and .u64 x0 6148914691236517205))) (2 ^ (min (2 : Int).toNat IntKind.u64.bits))) 3689348814741910323) + (bitop .and .u64 (IntKind.u64.wrap ((bitop .and .u64 (Int.fdiv x0 (2 ^ (min (1 : Int).toNat IntKind.u64.bits))) 6148914691236517205) + (bitop .and .u64 x0 6148914691236517205))) 3689348814741910323))) (2 ^ (min (4 : Int).toNat IntKind.u64.bits))) + (IntKind.u64.wrap ((bitop .and .u64 (Int.fdiv (IntKind.u64.wrap ((bitop .and .u64 (Int.fdiv x0 (2 ^ (min (1 : Int).toNat IntKind.u64.bits))) 6148914691236517205) + (bitop .and .u64 x0 6148914691236517205))) (2 ^ (min (2 : Int).toNat IntKind.u64.bits))) 3689348814741910323) + (bitop .and .u64 (IntKind.u64.wrap ((bitop .and .u64 (Int.fdiv x0 (2 ^ (min (1 : Int).toNat IntKind.u64.bits))) 6148914691236517205) + (bitop .and .u64 x0 6148914691236517205))) 3689348814741910323))))) 1085102592571150095) (2 ^ (min (8 : Int).toNat IntKind.u64.bits))))) + (Int.fdiv (IntKind.u64.wrap ((bitop .and .u64 (IntKind.u64.wrap ((Int.fdiv (IntKind.u64.wrap ((bitop .and .u64 (Int.fdiv (IntKind.u64.wrap ((bitop .and .u64 (Int.fdiv x0 (2 ^ (min (1 : Int).toNat IntKind.u64.bits))) 6148914691236517205) + (bitop .and .u64 x0 6148914691236517205))) (2 ^ (min (2 : Int).toNat IntKind.u64.bits))) 3689348814741910323) + (bitop .and .u64 (IntKind.u64.wrap ((bitop .and .u64 (Int.fdiv x0 (2 ^ (min (1 : Int).toNat IntKind.u64.bits))) 6148914691236517205) + (bitop .and .u64 x0 6148914691236517205))) 3689348814741910323))) (2 ^ (min (4 : Int).toNat IntKind.u64.bits))) + (IntKind.u64.wrap ((bitop .and .u64 (Int.fdiv (IntKind.u64.wrap ((bitop .and .u64 (Int.fdiv x0 (2 ^ (min (1 : Int).toNat IntKind.u64.bits))) 6148914691236517205) + (bitop .and .u64 x0 6148914691236517205))) (2 ^ (min (2 : Int).toNat IntKind.u64.bits))) 3689348814741910323) + (bitop .and .u64 (IntKind.u64.wrap ((bitop .and .u64 (Int.fdiv x0 (2 ^ (min (1 : Int).toNat IntKind.u64.bits))) 6148914691236517205) + (bitop .and .u64 x0 6148914691236517205))) 3689348814741910323))))) 1085102592571150095) + (Int.fdiv (bitop .and .u64 (IntKind.u64.wrap ((Int.fdiv (IntKind.u64.wrap ((bitop .and .u64 (Int.fdiv (IntKind.u64.wrap ((bitop .and .u64 (Int.fdiv x0 (2 ^ (min (1 : Int).toNat IntKind.u64.bits))) 6148914691236517205) + (bitop .and .u64 x0 6148914691236517205))) (2 ^ (min (2 : Int).toNat IntKind.u64.bits))) 3689348814741910323) + (bitop .and .u64 (IntKind.u64.wrap ((bitop .and .u64 (Int.fdiv x0 (2 ^ (min (1 : Int).toNat IntKind.u64.bits))) 6148914691236517205) + (bitop .and .u64 x0 6148914691236517205))) 3689348814741910323))) (2 ^ (min (4 : Int).toNat IntKind.u64.bits))) + (IntKind.u64.wrap ((bitop .and .u64 (Int.fdiv (IntKind.u64.wrap ((bitop .and .u64 (Int.fdiv x0 (2 ^ (min (1 : Int).toNat IntKind.u64.bits))) 6148914691236517205) + (bitop .and .u64 x0 6148914691236517205))) (2 ^ (min (2 : Int).toNat IntKind.u64.bits))) 3689348814741910323) + (bitop .and .u64 (IntKind.u64.wrap ((bitop .and .u64 (Int.fdiv x0 (2 ^ (min (1 : Int).toNat IntKind.u64.bits))) 6148914691236517205) + (bitop .and .u64 x0 6148914691236517205))) 3689348814741910323))))) 1085102592571150095) (2 ^ (min (8 : Int).toNat IntKind.u64.bits))))) (2 ^ (min (16 : Int).toNat IntKind.u64.bits))))) (2 ^ (min (32 : Int).toNat IntKind.u64.bits)))))) 127)))] (by kernel_rfl) (AOK.cons (fun ρ a w hs hz hΓ hp => gp (d_move (hΓ 0 rfl))) (AOK.cons (fun ρ a w hs hz hΓ hp => gp (d_conv u22 u3 (hp 0 _ rfl rfl).1)) (AOK.cons (fun ρ a w hs hz hΓ hp => gp (d_and (hp 1 _ rfl rfl).1 (vI rfl))) (AOK.cons (fun ρ a w hs hz hΓ hp => gp (d_assign (hp 2 _ rfl rfl).1)) AOK.nil rfl) rfl) rfl) rfl) (fun vs8 => ?_)
  refine T.nil ?_
  refine T.norm ?_
  refine T.ret ?_
  obtain rfl := Option.some.inj hF
  refine T.fin0 fun ρ a w st => ?_
  exact ⟨_, results_one rfl rfl, (st.env 2)⟩

theorem c27 (w : World) (v0 : Value) {σ : Heap} (hσ : σ.le (snap w)) {x0 : (List Int)} {r : Int} (hF : impl_CountInk x0 = some r) (h0 : Y23.val σ v0 x0) :
    Calls Try.prog 27 #[v0] w (Ret [] w σ ((TI .i64).sv r) []) := by
  unfold impl_CountInk at hF
  refine start (args := [v0]) Try.func27 rfl 16 rfl [] [(0, (Y23.sv x0))] [] (sat_start _ hσ) rfl (args1 rfl h0 (args0)) ?_
  refine T.seq ?_
  refine T.region mix 2 [1, 2] [0, 0] [(sp ((TP Y23).sv x0)), (sp ((TI .i64).sv 0))] (by kernel_rfl) (AOK.cons (fun ρ a w hs hz hΓ hp => gp (d_box hs.le (hΓ 0 rfl))) (AOK.cons (fun ρ a w hs hz hΓ hp => gp (d_assign (vI rfl))) AOK.nil rfl) rfl) (fun vs1 => ?_)
  refine T.nil ?_
  refine T.norm ?_
  refine T.seq ?_
  refine T.region mix 1 [3] [0] [(sp ((TI .i64).sv 0))] (by kernel_rfl) (AOK.cons (fun ρ a w hs hz hΓ hp => gp (d_assign (vI rfl))) AOK.nil rfl) (fun vs2 => ?_)
  refine T.nil ?_
  refine T.norm ?_
  refine T.seq ?_
  refine T.seq ?_
  refine T.region mix 2 [6, 7] [0, 0] [(sp (Y23.sv x0)), (sp ((TI .i64).sv 0))] (by kernel_rfl) (AOK.cons (fun ρ a w hs hz hΓ hp => gp (d_load y27 hs.le (hΓ 1 rfl))) (AOK.cons (fun ρ a w hs hz hΓ hp => gp (d_move (vI rfl))) AOK.nil rfl) rfl) (fun vs3 => ?_)
  refine T.nil ?_
  refine T.norm ?_
  obtain ⟨yl4, e5, hF⟩ := bindS hF
  refine T.joinD (ι := (Int × Int) × (Unit)) (fun p => yl4 = p.1) (Γ' := fun p => E [(3, ((TI .i64).sv p.1.1))]) (H' := fun p => HL []) (fun p hy => ?_) (fun hk => ?_)
  · obtain ⟨⟨o3, o7⟩, _⟩ := p
    cases hy
    refine T.norm ?_
    refine T.seq ?_
    refine T.region mix 2 [15, 2] [0, 1] [(sp ((TI .i64).sv o3)), (sp ((TI .i64).sv o3))] (by kernel_rfl) (AOK.cons (fun ρ a w hs hz hΓ hp => gp (d_move (hΓ 3 rfl))) (AOK.cons (fun ρ a w hs hz hΓ hp => gp (d_assign (hp 0 _ rfl rfl).1)) AOK.nil rfl) rfl) (fun vs6 => ?_)
    refine T.nil ?_
    refine T.norm ?_
    refine T.ret ?_
    obtain rfl := Option.some.inj hF
    refine T.fin0 fun ρ a w st => ?_
    exact ⟨_, results_one rfl rfl, (st.env 2)⟩
  · skip
    refine T.block ?_
    refine T.loop (f := impl_CountInk_l1 x0) (σ := (Int × Int)) (Z := Unit) (fun s z => E [(3, ((TI .i64).sv s.1)), (6, (Y23.sv x0)), (7, ((TI .i64).sv s.2))]) (fun s z => HL []) e5 () (fun φ h => T.toh h ⟨fun _ _ h => h, fun _ _ h => h, fun _ _ h => h, trivial⟩ trivial) (fun k s z uu4 hu4 hn4 => ?_)
    obtain ⟨s3, s7⟩ := s
    dsimp only [impl_CountInk_l1] at hu4
    refine T.seq ?_
    refine T.region mix 1 [8] [0] [(sp (TB.sv (decide (s7 < 64))))] (by kernel_rfl) (AOK.cons (fun ρ a w hs hz hΓ hp => gp (d_lss (hΓ 7 rfl) (vI rfl))) AOK.nil rfl) (fun vs7 => ?_)
    refine T.nil ?_
    refine T.norm ?_
    refine T.seq ?_
    refine T.cond (b := (decide (s7 < 64))) (fun _ _ h => h) (fun hc => ?_) (fun hc => ?_)
    · replace hu4 := iteT hu4 hc
      refine T.skip ?_
      refine T.norm ?_
      refine T.seq ?_
      refine T.block ?_
      refine T.seq ?_
      obtain ⟨x9, e9, hu4⟩ := bindS hu4
      refine T.region mix 2 [9, 5] [0, 1] [(sp ((TI .u64).sv x9)), (sp ((TI .u64).sv x9))] (by kernel_rfl) (AOK.cons (fun ρ a w hs hz hΓ hp => gp (d_index u27 y22 (hΓ 6 rfl) (hΓ 7 rfl) e9)) (AOK.cons (fun ρ a w hs hz hΓ hp => gp (d_assign (hp 0 _ rfl rfl).1)) AOK.nil rfl) rfl) (fun vs8 => ?_)
      refine T.nil ?_
      refine T.norm ?_
      obtain ⟨x12, e11, hu4⟩ := bindS hu4
      refine T.region mix 5 [10, 11, 12, 13, 3] [0, 0, 2, 7, 15] [(sp ((TI .i64).sv s3)), (sp ((TI .u64).sv x9)), (sp ((TI .i64).sv x12)), (sp ((TI .i64).sv (IntKind.i64.wrap (s3 + x12)))), (sp ((TI .i64).sv (IntKind.i64.wrap (s3 + x12))))] (by kernel_rfl) (AOK.cons (fun ρ a w hs hz hΓ hp => gp (d_move (hΓ 3 rfl))) (AOK.cons (fun ρ a w hs hz hΓ hp => gp (d_move (hΓ 5 rfl))) (AOK.cons (fun ρ a w hs hz hΓ hp => gp (d_call fn66 hs.le mapA1 (c66 w _ hs.le e11 ((hp 1 _ rfl rfl).1)))) (AOK.cons (fun ρ a w hs hz hΓ hp => gp (d_add (hp 0 _ rfl rfl).1 (hp 2 _ rfl rfl).1)) (AOK.cons (fun ρ a w hs hz hΓ hp => gp (d_assign (hp 3 _ rfl rfl).1)) AOK.nil rfl) rfl) rfl) rfl) rfl) (fun vs10 => ?_)
      refine T.nil ?_
      refine T.fallX ?_
      refine T.norm ?_
      refine T.region mix 2 [14, 7] [0, 1] [(sp ((TI .i64).sv (IntKind.i64.wrap (s7 + 1)))), (sp ((TI .i64).sv (IntKind.i64.wrap (s7 + 1))))] (by kernel_rfl) (AOK.cons (fun ρ a w hs hz hΓ hp => gp (d_add (hΓ 7 rfl) (vI rfl))) (AOK.cons (fun ρ a w hs hz hΓ hp => gp (d_move (hp 0 _ rfl rfl).1)) AOK.nil rfl) rfl) (fun vs12 => ?_)
      refine T.nil ?_
      obtain rfl := Option.some.inj hu4
      exact T.again hn4 () (fun φ h => T.toh h ⟨fun _ _ h => h, fun _ _ h => h, fun _ _ h => h, trivial⟩ trivial)
    · replace hu4 := iteF hu4 hc
      refine T.exit ?_
      obtain rfl := Option.some.inj hu4
      repeat (first | refine T.passX ?_ | refine T.inX (by decide) ?_)
      refine T.hereX ?_
      exact T.toh (hk ((s3, s7), ()) (Eq.symm hn4)) ⟨fun _ _ h => h, trivial⟩ trivial

theorem c7 (w : World) (v0 : Value) {σ : Heap} (hσ : σ.le (snap w)) {x0 : (List Int)} {r : Bool} (hF : laws_FnExactCountInk x0 = some r) (h0 : Y23.val σ v0 x0) :
    Calls Try.prog 7 #[v0] w (Ret [] w σ (TB.sv r) []) := by
  unfold laws_FnExactCountInk at hF
  refine start (args := [v0]) Try.func7 rfl 14 rfl [] [(0, (Y23.sv x0))] [] (sat_start _ hσ) rfl (args1 rfl h0 (args0)) ?_
  refine T.seq ?_
  refine T.region mix 2 [1, 2] [0, 0] [(sp ((TP Y23).sv x0)), (sp (TB.sv false))] (by kernel_rfl) (AOK.cons (fun ρ a w hs hz hΓ hp => gp (d_box hs.le (hΓ 0 rfl))) (AOK.cons (fun ρ a w hs hz hΓ hp => gp (d_assign (vB _))) AOK.nil rfl) rfl) (fun vs1 => ?_)
  refine T.nil ?_
  refine T.norm ?_
  refine T.seq ?_
  obtain ⟨x6, e3, hF⟩ := bindS hF
  obtain ⟨x7, e4, hF⟩ := bindS hF
  refine T.region mix 4 [5, 6, 7, 3] [0, 1, 3, 7] [(sp (Y23.sv x0)), (sp (Y23.sv x6)), (sp ((TI .i64).sv x7)), (sp ((TI .i64).sv x7))] (by kernel_rfl) (AOK.cons (fun ρ a w hs hz hΓ hp => gp (d_load y23 hs.le (hΓ 1 rfl))) (AOK.cons (fun ρ a w hs hz hΓ hp => gp (d_call fn16 hs.le mapA1 (c16 w _ hs.le e3 ((hp 0 _ rfl rfl).1)))) (AOK.cons (fun ρ a w hs hz hΓ hp => gp (d_call fn26 hs.le mapA1 (c26 w _ hs.le e4 ((hp 1 _ rfl rfl).1)))) (AOK.cons (fun ρ a w hs hz hΓ hp => gp (d_assign (hp 2 _ rfl rfl).1)) AOK.nil rfl) rfl) rfl) rfl) (fun vs2 => ?_)
  refine T.nil ?_
  refine T.norm ?_
  refine T.seq ?_
  obtain ⟨x9, e6, hF⟩ := bindS hF
  obtain ⟨x10, e7, hF⟩ := bindS hF
  refine T.region mix 4 [8, 9, 10, 4] [0, 1, 3, 7] [(sp (Y23.sv x0)), (sp (Y23.sv x9)), (sp ((TI .i64).sv x10)), (sp ((TI .i64).sv x10))] (by kernel_rfl) (AOK.cons (fun ρ a w hs hz hΓ hp => gp (d_load y23 hs.le (hΓ 1 rfl))) (AOK.cons (fun ρ a w hs hz hΓ hp => gp (d_call fn16 hs.le mapA1 (c16 w _ hs.le e6 ((hp 0 _ rfl rfl).1)))) (AOK.cons (fun ρ a w hs hz hΓ hp => gp (d_call fn27 hs.le mapA1 (c27 w _ hs.le e7 ((hp 1 _ rfl rfl).1)))) (AOK.cons (fun ρ a w hs hz hΓ hp => gp (d_assign (hp 2 _ rfl rfl).1)) AOK.nil rfl) rfl) rfl) rfl) (fun vs5 => ?_)
  refine T.nil ?_
  refine T.norm ?_
  refine T.seq ?_
  refine T.seq ?_
  refine T.region mix 3 [11, 12, 13] [0, 0, 3] [(sp ((TI .i64).sv x10)), (sp ((TI .i64).sv x7)), (sp (TB.sv (decide (x10 ≠ x7))))] (by kernel_rfl) (AOK.cons (fun ρ a w hs hz hΓ hp => gp (d_move (hΓ 4 rfl))) (AOK.cons (fun ρ a w hs hz hΓ hp => gp (d_move (hΓ 3 rfl))) (AOK.cons (fun ρ a w hs hz hΓ hp => gp (d_neq (hp 0 _ rfl rfl).1 (hp 1 _ rfl rfl).1)) AOK.nil rfl) rfl) rfl) (fun vs8 => ?_)
  refine T.nil ?_
  refine T.norm ?_
  refine T.cond (b := (decide (x10 ≠ x7))) (fun _ _ h => h) (fun hc => ?_) (fun hc => ?_)
  · replace hF := iteT hF hc
    refine T.seq ?_
    refine T.region mix 1 [2] [0] [(sp (TB.sv false))] (by kernel_rfl) (AOK.cons (fun ρ a w hs hz hΓ hp => gp (d_assign (vB _))) AOK.nil rfl) (fun vs9 => ?_)
    refine T.nil ?_
    refine T.norm ?_
    refine T.ret ?_
    obtain rfl := Option.some.inj hF
    refine T.fin0 fun ρ a w st => ?_
    exact ⟨_, results_one rfl rfl, (st.env 2)⟩
  · replace hF := iteF hF hc
    refine T.skip ?_
    refine T.norm ?_
    refine T.seq ?_
    refine T.region mix 1 [2] [0] [(sp (TB.sv true))] (by kernel_rfl) (AOK.cons (fun ρ a w hs hz hΓ hp => gp (d_assign (vB _))) AOK.nil rfl) (fun vs10 => ?_)
    refine T.nil ?_
    refine T.norm ?_
    refine T.ret ?_
    obtain rfl := Option.some.inj hF
    refine T.fin0 fun ρ a w st => ?_
    exact ⟨_, results_one rfl rfl, (st.env 2)⟩
end Go.Proofs.Ytnpkhhfpgedkoaa
