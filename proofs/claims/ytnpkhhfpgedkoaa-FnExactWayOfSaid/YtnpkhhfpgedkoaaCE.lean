/-
  The walks: each function comes to what its plain function says.
-/
import Derived.Test.YtnpkhhfpgedkoaaFactsE
import Derived.Test.YtnpkhhfpgedkoaaFE
import Derived.Test.YtnpkhhfpgedkoaaCC
set_option linter.unusedVariables false
set_option maxHeartbeats 1600000
set_option maxRecDepth 100000
namespace Go.Proofs.Ytnpkhhfpgedkoaa
open Go
theorem c37 (w : World) (v0 : Value) {σ : Heap} (hσ : σ.le (snap w)) {x0 : ((List Int) × (List Int) × Int)} {r : ((List (List Int)) × Int)} (hF : spec_MarksOf x0 = some r) (h0 : Y36.val σ v0 x0) :
    Calls Try.prog 37 #[v0] w (Ret [] w σ (SRel.tup2 SRel.any ((TI .i64).sv r.2)) [fun v => slR 29 Y25 r.1 (comp 0 v)]) := by
  unfold spec_MarksOf at hF
  refine start (args := [v0]) Try.func37 rfl 12 rfl [] [(0, (Y36.sv x0))] [] (sat_start _ hσ) rfl (args1 rfl h0 (args0)) ?_
  refine T.seq ?_
  refine T.region mix 3 [1, 2, 3] [0, 0, 2] [(sp ((TP Y36).sv x0)), (sO SRel.any [(1, (slR 29 Y25 []))]), (sp ((TI .i64).sv 0))] (by kernel_rfl) (AOK.cons (fun ρ a w hs hz hΓ hp => gp (d_box hs.le (hΓ 0 rfl))) (AOK.cons (fun ρ a w hs hz hΓ hp => g_nilSl) (AOK.cons (fun ρ a w hs hz hΓ hp => gp (d_assign (vI rfl))) AOK.nil rfl) rfl) rfl) (fun vs1 => ?_)
  refine T.nil ?_
  refine T.norm ?_
  refine T.seq ?_
  refine T.seq ?_
  obtain ⟨x4, e3, hF⟩ := bindS hF
  refine T.region mix 2 [4, 5] [0, 1] [(sp (TB.sv x4)), (sp (TB.sv (!x4)))] (by kernel_rfl) (AOK.cons (fun ρ a w hs hz hΓ hp => gp (d_call fn63 hs.le mapA1 (c63 w _ hs.le e3 (hΓ 1 rfl)))) (AOK.cons (fun ρ a w hs hz hΓ hp => gp (d_not (hp 0 _ rfl rfl).1)) AOK.nil rfl) rfl) (fun vs2 => ?_)
  refine T.nil ?_
  refine T.norm ?_
  refine T.cond (b := (!x4)) (fun _ _ h => h) (fun hc => ?_) (fun hc => ?_)
  · replace hF := iteT hF hc
    refine T.seq ?_
    refine T.region mix 3 [6, 2, 3] [0, 1, 3] [(sO SRel.any [(2, (slR 29 Y25 ([] : List (List Int))))]), (al 0 (id)), (sp ((TI .i64).sv 1))] (by kernel_rfl) (AOK.cons (fun ρ a w hs hz hΓ hp => g_buildSl hs.le u64 y29 z29 (by decide) (by decide) zc29 (Fills.done _)) (AOK.cons (fun ρ a w hs hz hΓ hp => al_assign rfl) (AOK.cons (fun ρ a w hs hz hΓ hp => gp (d_assign (vI rfl))) AOK.nil rfl) rfl) rfl) (fun vs4 => ?_)
    refine T.nil ?_
    refine T.norm ?_
    refine T.ret ?_
    obtain rfl := Option.some.inj hF
    refine T.fin fun ρ a w st => ?_
    exact ⟨_, results_two rfl rfl rfl, ⟨_, _, rfl, trivial, (st.env 3)⟩, own1 (own_at (id := 2) (st.env 2) rfl), List.pairwise_singleton _ _⟩
  · replace hF := iteF hF hc
    refine T.skip ?_
    refine T.norm ?_
    refine T.seq ?_
    obtain ⟨x11, e6, hF⟩ := bindS hF
    refine T.region mix 7 [7, 8, 9, 10, 11, 2, 3] [0, 1, 0, 4, 15, 31, 63] [(sp ((TP Y25).sv x0.1)), (sp (Y25.sv x0.1)), (sp ((TP Y25).sv x0.2.1)), (sp (Y25.sv x0.2.1)), (sO SRel.any [(3, (slR 29 Y25 x11))]), (al 4 (id)), (sp ((TI .i64).sv 0))] (by kernel_rfl) (AOK.cons (fun ρ a w hs hz hΓ hp => gp (d_fieldP fa40_0 (hΓ 1 rfl) (At.fst (At.refl _ _)))) (AOK.cons (fun ρ a w hs hz hΓ hp => gp (d_load y29 hs.le (hp 0 _ rfl rfl).1)) (AOK.cons (fun ρ a w hs hz hΓ hp => gp (d_fieldP fa40_1 (hΓ 1 rfl) (At.fst (At.snd (At.refl _ _))))) (AOK.cons (fun ρ a w hs hz hΓ hp => gp (d_load y29 hs.le (hp 2 _ rfl rfl).1)) (AOK.cons (fun ρ a w hs hz hΓ hp => g_call fn82 hs.le mapA2 (c82 w _ _ hs.le e6 ((hp 1 _ rfl rfl).1) ((hp 3 _ rfl rfl).1))) (AOK.cons (fun ρ a w hs hz hΓ hp => al_assign rfl) (AOK.cons (fun ρ a w hs hz hΓ hp => gp (d_assign (vI rfl))) AOK.nil rfl) rfl) rfl) rfl) rfl) rfl) rfl) (fun vs5 => ?_)
    refine T.nil ?_
    refine T.norm ?_
    refine T.ret ?_
    obtain rfl := Option.some.inj hF
    refine T.fin fun ρ a w st => ?_
    exact ⟨_, results_two rfl rfl rfl, ⟨_, _, rfl, trivial, (st.env 3)⟩, own1 (own_at (id := 3) (st.env 2) rfl), List.pairwise_singleton _ _⟩

theorem c38 (w : World) (v0 : Value) {σ : Heap} (hσ : σ.le (snap w)) {x0 : ((List Int) × (List Int) × Int)} {r : ((List (List Int)) × Int)} (hF : impl_MarksOf x0 = some r) (h0 : Y36.val σ v0 x0) :
    Calls Try.prog 38 #[v0] w (Ret [] w σ (SRel.tup2 SRel.any ((TI .i64).sv r.2)) [fun v => slR 29 Y25 r.1 (comp 0 v)]) := by
  unfold impl_MarksOf at hF
  refine start (args := [v0]) Try.func38 rfl 9 rfl [] [(0, (Y36.sv x0))] [] (sat_start _ hσ) rfl (args1 rfl h0 (args0)) ?_
  refine T.seq ?_
  refine T.region mix 3 [1, 2, 3] [0, 0, 2] [(sp ((TP Y36).sv x0)), (sO SRel.any [(1, (slR 29 Y25 []))]), (sp ((TI .i64).sv 0))] (by kernel_rfl) (AOK.cons (fun ρ a w hs hz hΓ hp => gp (d_box hs.le (hΓ 0 rfl))) (AOK.cons (fun ρ a w hs hz hΓ hp => g_nilSl) (AOK.cons (fun ρ a w hs hz hΓ hp => gp (d_assign (vI rfl))) AOK.nil rfl) rfl) rfl) (fun vs1 => ?_)
  refine T.nil ?_
  refine T.norm ?_
  refine T.seq ?_
  refine T.seq ?_
  obtain ⟨x5, e3, hF⟩ := bindS hF
  refine T.region mix 3 [4, 5, 6] [0, 1, 3] [(sp (Y36.sv x0)), (sp (TB.sv x5)), (sp (TB.sv (!x5)))] (by kernel_rfl) (AOK.cons (fun ρ a w hs hz hΓ hp => gp (d_load y40 hs.le (hΓ 1 rfl))) (AOK.cons (fun ρ a w hs hz hΓ hp => gp (d_call fn25 hs.le mapA1 (c25 w _ hs.le e3 ((hp 0 _ rfl rfl).1)))) (AOK.cons (fun ρ a w hs hz hΓ hp => gp (d_not (hp 1 _ rfl rfl).1)) AOK.nil rfl) rfl) rfl) (fun vs2 => ?_)
  refine T.nil ?_
  refine T.norm ?_
  refine T.cond (b := (!x5)) (fun _ _ h => h) (fun hc => ?_) (fun hc => ?_)
  · replace hF := iteT hF hc
    refine T.seq ?_
    refine T.region mix 2 [2, 3] [0, 1] [(sO SRel.any [(2, (slR 29 Y25 []))]), (sp ((TI .i64).sv 1))] (by kernel_rfl) (AOK.cons (fun ρ a w hs hz hΓ hp => g_nilSl) (AOK.cons (fun ρ a w hs hz hΓ hp => gp (d_assign (vI rfl))) AOK.nil rfl) rfl) (fun vs4 => ?_)
    refine T.nil ?_
    refine T.norm ?_
    refine T.ret ?_
    obtain rfl := Option.some.inj hF
    refine T.fin fun ρ a w st => ?_
    exact ⟨_, results_two rfl rfl rfl, ⟨_, _, rfl, trivial, (st.env 3)⟩, own1 (own_at (id := 2) (st.env 2).1 rfl), List.pairwise_singleton _ _⟩
  · replace hF := iteF hF hc
    refine T.skip ?_
    refine T.norm ?_
    refine T.seq ?_
    obtain ⟨x8, e6, hF⟩ := bindS hF
    refine T.region mix 4 [7, 8, 2, 3] [0, 1, 3, 7] [(sp (Y36.sv x0)), (sO SRel.any [(3, (slR 29 Y25 x8))]), (al 1 (id)), (sp ((TI .i64).sv 0))] (by kernel_rfl) (AOK.cons (fun ρ a w hs hz hΓ hp => gp (d_load y40 hs.le (hΓ 1 rfl))) (AOK.cons (fun ρ a w hs hz hΓ hp => g_call fn83 hs.le mapA1 (c83 w _ hs.le e6 ((hp 0 _ rfl rfl).1))) (AOK.cons (fun ρ a w hs hz hΓ hp => al_assign rfl) (AOK.cons (fun ρ a w hs hz hΓ hp => gp (d_assign (vI rfl))) AOK.nil rfl) rfl) rfl) rfl) (fun vs5 => ?_)
    refine T.nil ?_
    refine T.norm ?_
    refine T.ret ?_
    obtain rfl := Option.some.inj hF
    refine T.fin fun ρ a w st => ?_
    exact ⟨_, results_two rfl rfl rfl, ⟨_, _, rfl, trivial, (st.env 3)⟩, own1 (own_at (id := 3) (st.env 2) rfl), List.pairwise_singleton _ _⟩

theorem c39 (w : World) (v0 v1 : Value) {σ : Heap} (hσ : σ.le (snap w)) {x0 : (List (List Int))} {x1 : (List (List Int))} {r : Bool} (hF : laws_eqMarkS x0 x1 = some r) (h0 : Y64.val σ v0 x0) (h1 : Y64.val σ v1 x1) :
    Calls Try.prog 39 #[v0, v1] w (Ret [] w σ (TB.sv r) []) := by
  unfold laws_eqMarkS at hF
  refine start (args := [v0, v1]) Try.func39 rfl 27 rfl [] [(0, (Y64.sv x0)), (1, (Y64.sv x1))] [] (sat_start _ hσ) rfl (args1 rfl h0 (args1 rfl h1 (args0))) ?_
  refine T.seq ?_
  refine T.region mix 1 [4] [0] [(sp (TB.sv false))] (by kernel_rfl) (AOK.cons (fun ρ a w hs hz hΓ hp => gp (d_assign (vB _))) AOK.nil rfl) (fun vs1 => ?_)
  refine T.nil ?_
  refine T.norm ?_
  refine T.seq ?_
  refine T.seq ?_
  refine T.region mix 5 [6, 7, 8, 9, 10] [0, 1, 0, 4, 15] [(sp (Y64.sv x0)), (sp ((TI .i64).sv (x0.length : Int))), (sp (Y64.sv x1)), (sp ((TI .i64).sv (x1.length : Int))), (sp (TB.sv (decide ((x0.length : Int) ≠ (x1.length : Int)))))] (by kernel_rfl) (AOK.cons (fun ρ a w hs hz hΓ hp => gp (d_move (hΓ 0 rfl))) (AOK.cons (fun ρ a w hs hz hΓ hp => gp (d_lenR u64 (hp 0 _ rfl rfl).1)) (AOK.cons (fun ρ a w hs hz hΓ hp => gp (d_move (hΓ 1 rfl))) (AOK.cons (fun ρ a w hs hz hΓ hp => gp (d_lenR u64 (hp 2 _ rfl rfl).1)) (AOK.cons (fun ρ a w hs hz hΓ hp => gp (d_neq (hp 1 _ rfl rfl).1 (hp 3 _ rfl rfl).1)) AOK.nil rfl) rfl) rfl) rfl) rfl) (fun vs2 => ?_)
  refine T.nil ?_
  refine T.norm ?_
  refine T.cond (b := (decide ((x0.length : Int) ≠ (x1.length : Int)))) (fun _ _ h => h) (fun hc => ?_) (fun hc => ?_)
  · replace hF := iteT hF hc
    refine T.seq ?_
    refine T.region mix 1 [4] [0] [(sp (TB.sv false))] (by kernel_rfl) (AOK.cons (fun ρ a w hs hz hΓ hp => gp (d_assign (vB _))) AOK.nil rfl) (fun vs3 => ?_)
    refine T.nil ?_
    refine T.norm ?_
    refine T.ret ?_
    obtain rfl := Option.some.inj hF
    refine T.fin0 fun ρ a w st => ?_
    exact ⟨_, results_one rfl rfl, (st.env 4)⟩
  · replace hF := iteF hF hc
    refine T.skip ?_
    refine T.norm ?_
    refine T.seq ?_
    refine T.seq ?_
    refine T.region mix 1 [5] [0] [(sp ((TI .i64).sv 0))] (by kernel_rfl) (AOK.cons (fun ρ a w hs hz hΓ hp => gp (d_assign (vI rfl))) AOK.nil rfl) (fun vs4 => ?_)
    refine T.nil ?_
    refine T.norm ?_
    obtain ⟨yl5, e6, hF⟩ := bindS hF
    refine T.joinD (ι := Int × (Unit)) (fun p => yl5 = .inl p.1) (Γ' := fun p => E []) (H' := fun p => HL []) (fun p hy => ?_) (fun hk => ?_)
    · obtain ⟨o5, _⟩ := p
      cases hy
      refine T.norm ?_
      refine T.seq ?_
      refine T.region mix 1 [4] [0] [(sp (TB.sv true))] (by kernel_rfl) (AOK.cons (fun ρ a w hs hz hΓ hp => gp (d_assign (vB _))) AOK.nil rfl) (fun vs7 => ?_)
      refine T.nil ?_
      refine T.norm ?_
      refine T.ret ?_
      obtain rfl := Option.some.inj hF
      refine T.fin0 fun ρ a w st => ?_
      exact ⟨_, results_one rfl rfl, (st.env 4)⟩
    · skip
      refine T.block ?_
      refine T.loop (f := laws_eqMarkS_l1 x0 x1) (σ := Int) (Z := Unit) (fun s z => E [(0, (Y64.sv x0)), (1, (Y64.sv x1)), (5, ((TI .i64).sv s))]) (fun s z => HL []) e6 () (fun φ h => T.toh h ⟨fun _ _ h => h, fun _ _ h => h, fun _ _ h => h, trivial⟩ trivial) (fun k s z uu5 hu5 hn5 => ?_)
      obtain ⟨s5, rfl⟩ : ∃ q, q = s := ⟨_, rfl⟩
      dsimp only [laws_eqMarkS_l1] at hu5
      refine T.seq ?_
      refine T.seq ?_
      refine T.region mix 4 [11, 12, 13, 14] [0, 0, 2, 7] [(sp ((TI .i64).sv s5)), (sp (Y64.sv x0)), (sp ((TI .i64).sv (x0.length : Int))), (sp (TB.sv (decide (s5 < (x0.length : Int)))))] (by kernel_rfl) (AOK.cons (fun ρ a w hs hz hΓ hp => gp (d_move (hΓ 5 rfl))) (AOK.cons (fun ρ a w hs hz hΓ hp => gp (d_move (hΓ 0 rfl))) (AOK.cons (fun ρ a w hs hz hΓ hp => gp (d_lenR u64 (hp 1 _ rfl rfl).1)) (AOK.cons (fun ρ a w hs hz hΓ hp => gp (d_lss (hp 0 _ rfl rfl).1 (hp 2 _ rfl rfl).1)) AOK.nil rfl) rfl) rfl) rfl) (fun vs8 => ?_)
      refine T.nil ?_
      refine T.norm ?_
      refine T.cond (b := (decide (s5 < (x0.length : Int)))) (fun _ _ h => h) (fun hc => ?_) (fun hc => ?_)
      · replace hu5 := iteT hu5 hc
        refine T.skip ?_
        refine T.norm ?_
        refine T.seq ?_
        refine T.block ?_
        refine T.seq ?_
        obtain ⟨x19, e10, hu5⟩ := bindS hu5
        obtain ⟨x23, e11, hu5⟩ := bindS hu5
        obtain ⟨x25, e12, hu5⟩ := bindS hu5
        refine T.region mix 10 [17, 18, 19, 20, 21, 22, 23, 24, 25, 26] [0, 0, 3, 7, 0, 0, 48, 112, 255, 511] [(sp (Y64.sv x0)), (sp ((TI .i64).sv s5)), (sp ((TP Y25).sv x19)), (sp (Y25.sv x19)), (sp (Y64.sv x1)), (sp ((TI .i64).sv s5)), (sp ((TP Y25).sv x23)), (sp (Y25.sv x23)), (sp (TB.sv x25)), (sp (TB.sv (!x25)))] (by kernel_rfl) (AOK.cons (fun ρ a w hs hz hΓ hp => gp (d_move (hΓ 0 rfl))) (AOK.cons (fun ρ a w hs hz hΓ hp => gp (d_move (hΓ 5 rfl))) (AOK.cons (fun ρ a w hs hz hΓ hp => gp (d_idxR u64 y29 (hp 0 _ rfl rfl).1 (hp 1 _ rfl rfl).1 e10)) (AOK.cons (fun ρ a w hs hz hΓ hp => gp (d_load y29 hs.le (hp 2 _ rfl rfl).1)) (AOK.cons (fun ρ a w hs hz hΓ hp => gp (d_move (hΓ 1 rfl))) (AOK.cons (fun ρ a w hs hz hΓ hp => gp (d_move (hΓ 5 rfl))) (AOK.cons (fun ρ a w hs hz hΓ hp => gp (d_idxR u64 y29 (hp 4 _ rfl rfl).1 (hp 5 _ rfl rfl).1 e11)) (AOK.cons (fun ρ a w hs hz hΓ hp => gp (d_load y29 hs.le (hp 6 _ rfl rfl).1)) (AOK.cons (fun ρ a w hs hz hΓ hp => gp (d_call fn36 hs.le mapA2 (c36 w _ _ hs.le e12 ((hp 3 _ rfl rfl).1) ((hp 7 _ rfl rfl).1)))) (AOK.cons (fun ρ a w hs hz hΓ hp => gp (d_not (hp 8 _ rfl rfl).1)) AOK.nil rfl) rfl) rfl) rfl) rfl) rfl) rfl) rfl) rfl) rfl) (fun vs9 => ?_)
        refine T.nil ?_
        refine T.norm ?_
        refine T.cond (b := (!x25)) (fun _ _ h => h) (fun hc => ?_) (fun hc => ?_)
        · replace hu5 := iteT hu5 hc
          refine T.seq ?_
          refine T.region mix 1 [4] [0] [(sp (TB.sv false))] (by kernel_rfl) (AOK.cons (fun ρ a w hs hz hΓ hp => gp (d_assign (vB _))) AOK.nil rfl) (fun vs13 => ?_)
          refine T.nil ?_
          refine T.norm ?_
          refine T.ret ?_
          obtain rfl := Option.some.inj hu5
          cases hn5
          obtain rfl := Option.some.inj hF
          refine T.fin0 fun ρ a w st => ?_
          exact ⟨_, results_one rfl rfl, (st.env 4)⟩
        · replace hu5 := iteF hu5 hc
          refine T.skip ?_
          refine T.fallX ?_
          refine T.norm ?_
          refine T.region mix 3 [15, 16, 5] [0, 1, 3] [(sp ((TI .i64).sv s5)), (sp ((TI .i64).sv (IntKind.i64.wrap (s5 + 1)))), (sp ((TI .i64).sv (IntKind.i64.wrap (s5 + 1))))] (by kernel_rfl) (AOK.cons (fun ρ a w hs hz hΓ hp => gp (d_move (hΓ 5 rfl))) (AOK.cons (fun ρ a w hs hz hΓ hp => gp (d_add (hp 0 _ rfl rfl).1 (vI rfl))) (AOK.cons (fun ρ a w hs hz hΓ hp => gp (d_assign (hp 1 _ rfl rfl).1)) AOK.nil rfl) rfl) rfl) (fun vs14 => ?_)
          refine T.nil ?_
          obtain rfl := Option.some.inj hu5
          exact T.again hn5 () (fun φ h => T.toh h ⟨fun _ _ h => h, fun _ _ h => h, fun _ _ h => h, trivial⟩ trivial)
      · replace hu5 := iteF hu5 hc
        refine T.exit ?_
        obtain rfl := Option.some.inj hu5
        repeat (first | refine T.passX ?_ | refine T.inX (by decide) ?_)
        refine T.hereX ?_
        exact T.toh (hk (s5, ()) (Eq.symm hn5)) trivial trivial

theorem c40 (w : World) (v0 v1 : Value) {x0 : (List (List Int))} {x1 : Int} {r : ((List (List Int)) × Int)} (hF : laws_markMarkS x0 x1 = some r) (hm : (slR 29 Y25 x0 v0).holds (snapX (blkOf v0).toList w) w) (h1 : (TI .i64).val (snapX (blkOf v0).toList w) v1 x1) :
    Calls Try.prog 40 #[v0, v1] w (RetM (blkOf v0).toList w ((TI .i64).sv r.2) (slR 29 Y25 r.1 v0)) := by
  unfold laws_markMarkS at hF
  refine start (args := [v0, v1]) Try.func40 rfl 27 rfl (blkOf v0).toList [(0, (SRel.eq v0)), (1, ((TI .i64).sv x1))] [(1, (slR 29 Y25 x0 v0))] (sat_mut (r := (slR 29 Y25 x0 v0)) 1 hm) rfl (args1 rfl rfl (args1 rfl h1 (args0))) ?_
  refine T.seq ?_
  refine T.region mix 1 [4] [0] [(sp ((TI .i64).sv 0))] (by kernel_rfl) (AOK.cons (fun ρ a w hs hz hΓ hp => gp (d_assign (vI rfl))) AOK.nil rfl) (fun vs1 => ?_)
  refine T.nil ?_
  refine T.norm ?_
  refine T.seq ?_
  refine T.seq ?_
  refine T.region mix 1 [5] [0] [(sp ((TI .i64).sv 0))] (by kernel_rfl) (AOK.cons (fun ρ a w hs hz hΓ hp => gp (d_assign (vI rfl))) AOK.nil rfl) (fun vs2 => ?_)
  refine T.nil ?_
  refine T.norm ?_
  obtain ⟨yl3, e4, hF⟩ := bindS hF
  refine T.joinD (ι := (Int × Int × (List (List Int))) × (Unit)) (fun p => yl3 = p.1) (Γ' := fun p => E [(1, ((TI .i64).sv p.1.1))]) (H' := fun p => HL [(1, (slR 29 Y25 p.1.2.2 v0))]) (fun p hy => ?_) (fun hk => ?_)
  · obtain ⟨⟨o1, o5, or1⟩, _⟩ := p
    cases hy
    refine T.norm ?_
    refine T.seq ?_
    refine T.region mix 2 [26, 4] [0, 1] [(sp ((TI .i64).sv o1)), (sp ((TI .i64).sv o1))] (by kernel_rfl) (AOK.cons (fun ρ a w hs hz hΓ hp => gp (d_move (hΓ 1 rfl))) (AOK.cons (fun ρ a w hs hz hΓ hp => gp (d_assign (hp 0 _ rfl rfl).1)) AOK.nil rfl) rfl) (fun vs5 => ?_)
    refine T.nil ?_
    refine T.norm ?_
    refine T.ret ?_
    obtain rfl := Option.some.inj hF
    refine T.finM fun ρ a w st => ?_
    exact ⟨_, results_one rfl rfl, fun σ => (Ty.Flat.val (flat_TI _) σ (st.env 4)), mut_on st.sat 1 rfl (loose_slR (flat_TArr (flat_TI _))) rfl⟩
  · skip
    refine T.block ?_
    refine T.loop (f := laws_markMarkS_l1) (σ := (Int × Int × (List (List Int)))) (Z := Unit) (fun s z => E [(0, (SRel.eq v0)), (1, ((TI .i64).sv s.1)), (5, ((TI .i64).sv s.2.1))]) (fun s z => HL [(1, (slR 29 Y25 s.2.2 v0))]) e4 () (fun φ h => T.toh h ⟨fun _ _ h => h, fun _ _ h => h, fun _ _ h => h, trivial⟩ ⟨rfl, trivial⟩) (fun k s z uu3 hu3 hn3 => ?_)
    obtain ⟨s1, s5, sr1⟩ := s
    dsimp only [laws_markMarkS_l1] at hu3
    refine T.seq ?_
    refine T.seq ?_
    refine T.region mix 4 [7, 8, 9, 10] [0, 0, 2, 7] [(sp ((TI .i64).sv s5)), (sp (SRel.eq v0)), (sp ((TI .i64).sv (sr1.length : Int))), (sp (TB.sv (decide (s5 < (sr1.length : Int)))))] (by kernel_rfl) (AOK.cons (fun ρ a w hs hz hΓ hp => gp (d_move (hΓ 5 rfl))) (AOK.cons (fun ρ a w hs hz hΓ hp => gp (d_move (hΓ 0 rfl))) (AOK.cons (fun ρ a w hs hz hΓ hp => gp (d_lenS u64 hs 1 rfl (hp 1 _ rfl rfl).1)) (AOK.cons (fun ρ a w hs hz hΓ hp => gp (d_lss (hp 0 _ rfl rfl).1 (hp 2 _ rfl rfl).1)) AOK.nil rfl) rfl) rfl) rfl) (fun vs6 => ?_)
    refine T.nil ?_
    refine T.norm ?_
    refine T.cond (b := (decide (s5 < (sr1.length : Int)))) (fun _ _ h => h) (fun hc => ?_) (fun hc => ?_)
    · replace hu3 := iteT hu3 hc
      refine T.skip ?_
      refine T.norm ?_
      refine T.seq ?_
      refine T.block ?_
      refine T.seq ?_
      refine T.region mix 1 [6] [0] [(sp ((TI .i64).sv 0))] (by kernel_rfl) (AOK.cons (fun ρ a w hs hz hΓ hp => gp (d_assign (vI rfl))) AOK.nil rfl) (fun vs7 => ?_)
      refine T.nil ?_
      refine T.norm ?_
      obtain ⟨yl8, e9, hu3⟩ := bindS hu3
      refine T.joinD (ι := (Int × Int × (List (List Int))) × (Unit)) (fun p => yl8 = p.1) (Γ' := fun p => E [(0, (SRel.eq v0)), (1, ((TI .i64).sv p.1.1)), (5, ((TI .i64).sv s5))]) (H' := fun p => HL [(1, (slR 29 Y25 p.1.2.2 v0))]) (fun p hy => ?_) (fun hk => ?_)
      · obtain ⟨⟨o1_12, o6, or1_13⟩, _⟩ := p
        cases hy
        refine T.fallX ?_
        refine T.norm ?_
        refine T.region mix 3 [11, 12, 5] [0, 1, 3] [(sp ((TI .i64).sv s5)), (sp ((TI .i64).sv (IntKind.i64.wrap (s5 + 1)))), (sp ((TI .i64).sv (IntKind.i64.wrap (s5 + 1))))] (by kernel_rfl) (AOK.cons (fun ρ a w hs hz hΓ hp => gp (d_move (hΓ 5 rfl))) (AOK.cons (fun ρ a w hs hz hΓ hp => gp (d_add (hp 0 _ rfl rfl).1 (vI rfl))) (AOK.cons (fun ρ a w hs hz hΓ hp => gp (d_assign (hp 1 _ rfl rfl).1)) AOK.nil rfl) rfl) rfl) (fun vs14 => ?_)
        refine T.nil ?_
        obtain rfl := Option.some.inj hu3
        exact T.again hn3 () (fun φ h => T.toh h ⟨fun _ _ h => h, fun _ _ h => h, fun _ _ h => h, trivial⟩ ⟨rfl, trivial⟩)
      · skip
        refine T.block ?_
        refine T.loop (f := laws_markMarkS_l2 s5) (σ := (Int × Int × (List (List Int)))) (Z := Unit) (fun s z => E [(0, (SRel.eq v0)), (1, ((TI .i64).sv s.1)), (5, ((TI .i64).sv s5)), (6, ((TI .i64).sv s.2.1))]) (fun s z => HL [(1, (slR 29 Y25 s.2.2 v0))]) e9 () (fun φ h => T.toh h ⟨fun _ _ h => h, fun _ _ h => h, fun _ _ h => h, fun _ _ h => h, trivial⟩ ⟨rfl, trivial⟩) (fun k s z uu8 hu8 hn8 => ?_)
        obtain ⟨s1_10, s6, sr1_11⟩ := s
        dsimp only [laws_markMarkS_l2] at hu8
        refine T.seq ?_
        refine T.seq ?_
        refine T.region mix 2 [13, 14] [0, 1] [(sp ((TI .i64).sv s6)), (sp (TB.sv (decide (s6 < 2))))] (by kernel_rfl) (AOK.cons (fun ρ a w hs hz hΓ hp => gp (d_move (hΓ 6 rfl))) (AOK.cons (fun ρ a w hs hz hΓ hp => gp (d_lss (hp 0 _ rfl rfl).1 (vI rfl))) AOK.nil rfl) rfl) (fun vs15 => ?_)
        refine T.nil ?_
        refine T.norm ?_
        refine T.cond (b := (decide (s6 < 2))) (fun _ _ h => h) (fun hc => ?_) (fun hc => ?_)
        · replace hu8 := iteT hu8 hc
          refine T.skip ?_
          refine T.norm ?_
          refine T.seq ?_
          refine T.block ?_
          refine T.seq ?_
          obtain ⟨x22, e17, hu8⟩ := bindS hu8
          obtain ⟨x23, e18, hu8⟩ := bindS hu8
          refine T.region mix 7 [17, 18, 19, 20, 21, 22, 23] [0, 0, 0, 0, 8, 3, 63, 127] [(sp (SRel.eq v0)), (sp ((TI .i64).sv s5)), (sp ((TI .i64).sv s6)), (sp ((TI .i64).sv s1_10)), (sp ((TI .i16).sv (IntKind.i16.wrap s1_10))), (sp (SRel.eq (at_ v0 (s5.toNat * Y25.n + 0)))), (sp (SRel.eq (at_ v0 (s5.toNat * Y25.n + (0 + s6.toNat * (TI .i16).n)))))] (by kernel_rfl) (AOK.cons (fun ρ a w hs hz hΓ hp => gp (d_move (hΓ 0 rfl))) (AOK.cons (fun ρ a w hs hz hΓ hp => gp (d_move (hΓ 5 rfl))) (AOK.cons (fun ρ a w hs hz hΓ hp => gp (d_move (hΓ 6 rfl))) (AOK.cons (fun ρ a w hs hz hΓ hp => gp (d_move (hΓ 1 rfl))) (AOK.cons (fun ρ a w hs hz hΓ hp => gp (d_conv u3 u24 (hp 3 _ rfl rfl).1)) (AOK.cons (fun ρ a w hs hz hΓ hp => gp (d_idxS u64 y29 hs 1 rfl (hp 0 _ rfl rfl).1 (hp 1 _ rfl rfl).1 e17)) (AOK.cons (fun ρ a w hs hz hΓ hp => gp (d_idxSA u29 y24 hs 1 rfl (idx_get e17).2 (hp 5 _ rfl rfl).1 (At.refl Y25 x22) (hp 2 _ rfl rfl).1 e18)) AOK.nil rfl) rfl) rfl) rfl) rfl) rfl) rfl) (fun vs16 => ?_)
          refine T.storeS 1 y24 rfl (idx_get e17).2 (fun ρ a w st => ⟨(st.env 23), (st.env 21)⟩) (At.elem (At.refl Y25 x22) (idx_get e18).2) ?_
          refine T.nil ?_
          refine T.norm ?_
          refine T.region mix 3 [24, 25, 1] [0, 1, 3] [(sp ((TI .i64).sv s1_10)), (sp ((TI .i64).sv (IntKind.i64.wrap (s1_10 + 1)))), (sp ((TI .i64).sv (IntKind.i64.wrap (s1_10 + 1))))] (by kernel_rfl) (AOK.cons (fun ρ a w hs hz hΓ hp => gp (d_move (hΓ 1 rfl))) (AOK.cons (fun ρ a w hs hz hΓ hp => gp (d_add (hp 0 _ rfl rfl).1 (vI rfl))) (AOK.cons (fun ρ a w hs hz hΓ hp => gp (d_assign (hp 1 _ rfl rfl).1)) AOK.nil rfl) rfl) rfl) (fun vs19 => ?_)
          refine T.nil ?_
          refine T.fallX ?_
          refine T.norm ?_
          refine T.region mix 3 [15, 16, 6] [0, 1, 3] [(sp ((TI .i64).sv s6)), (sp ((TI .i64).sv (IntKind.i64.wrap (s6 + 1)))), (sp ((TI .i64).sv (IntKind.i64.wrap (s6 + 1))))] (by kernel_rfl) (AOK.cons (fun ρ a w hs hz hΓ hp => gp (d_move (hΓ 6 rfl))) (AOK.cons (fun ρ a w hs hz hΓ hp => gp (d_add (hp 0 _ rfl rfl).1 (vI rfl))) (AOK.cons (fun ρ a w hs hz hΓ hp => gp (d_assign (hp 1 _ rfl rfl).1)) AOK.nil rfl) rfl) rfl) (fun vs20 => ?_)
          refine T.nil ?_
          obtain rfl := Option.some.inj hu8
          exact T.again hn8 () (fun φ h => T.toh h ⟨fun _ _ h => h, fun _ _ h => h, fun _ _ h => h, fun _ _ h => h, trivial⟩ ⟨rfl, trivial⟩)
        · replace hu8 := iteF hu8 hc
          refine T.exit ?_
          obtain rfl := Option.some.inj hu8
          repeat (first | refine T.passX ?_ | refine T.inX (by decide) ?_)
          refine T.hereX ?_
          exact T.toh (hk ((s1_10, s6, sr1_11), ()) (Eq.symm hn8)) ⟨fun _ _ h => h, fun _ _ h => h, fun _ _ h => h, trivial⟩ ⟨rfl, trivial⟩
    · replace hu3 := iteF hu3 hc
      refine T.exit ?_
      obtain rfl := Option.some.inj hu3
      repeat (first | refine T.passX ?_ | refine T.inX (by decide) ?_)
      refine T.hereX ?_
      exact T.toh (hk ((s1, s5, sr1), ()) (Eq.symm hn3)) ⟨fun _ _ h => h, trivial⟩ ⟨rfl, trivial⟩

theorem c41 (w : World) (v0 v1 : Value) {σ : Heap} (hσ : σ.le (snap w)) {x0 : (List (List Int))} {x1 : Int} {r : Int} (hF : laws_heldMarkS x0 x1 = some r) (h0 : Y64.val σ v0 x0) (h1 : (TI .i64).val σ v1 x1) :
    Calls Try.prog 41 #[v0, v1] w (Ret [] w σ ((TI .i64).sv r) []) := by
  unfold laws_heldMarkS at hF
  refine start (args := [v0, v1]) Try.func41 rfl 29 rfl [] [(0, (Y64.sv x0)), (1, ((TI .i64).sv x1))] [] (sat_start _ hσ) rfl (args1 rfl h0 (args1 rfl h1 (args0))) ?_
  refine T.seq ?_
  refine T.region mix 1 [4] [0] [(sp ((TI .i64).sv 0))] (by kernel_rfl) (AOK.cons (fun ρ a w hs hz hΓ hp => gp (d_assign (vI rfl))) AOK.nil rfl) (fun vs1 => ?_)
  refine T.nil ?_
  refine T.norm ?_
  refine T.seq ?_
  refine T.seq ?_
  refine T.region mix 1 [5] [0] [(sp ((TI .i64).sv 0))] (by kernel_rfl) (AOK.cons (fun ρ a w hs hz hΓ hp => gp (d_assign (vI rfl))) AOK.nil rfl) (fun vs2 => ?_)
  refine T.nil ?_
  refine T.norm ?_
  obtain ⟨yl3, e4, hF⟩ := bindS hF
  refine T.joinD (ι := (Int × Int) × (Unit)) (fun p => yl3 = .inl p.1) (Γ' := fun p => E [(1, ((TI .i64).sv p.1.1))]) (H' := fun p => HL []) (fun p hy => ?_) (fun hk => ?_)
  · obtain ⟨⟨o1, o5⟩, _⟩ := p
    cases hy
    refine T.norm ?_
    refine T.seq ?_
    refine T.region mix 2 [28, 4] [0, 1] [(sp ((TI .i64).sv o1)), (sp ((TI .i64).sv o1))] (by kernel_rfl) (AOK.cons (fun ρ a w hs hz hΓ hp => gp (d_move (hΓ 1 rfl))) (AOK.cons (fun ρ a w hs hz hΓ hp => gp (d_assign (hp 0 _ rfl rfl).1)) AOK.nil rfl) rfl) (fun vs5 => ?_)
    refine T.nil ?_
    refine T.norm ?_
    refine T.ret ?_
    obtain rfl := Option.some.inj hF
    refine T.fin0 fun ρ a w st => ?_
    exact ⟨_, results_one rfl rfl, (st.env 4)⟩
  · skip
    refine T.block ?_
    refine T.loop (f := laws_heldMarkS_l1 x0) (σ := (Int × Int)) (Z := Unit) (fun s z => E [(0, (Y64.sv x0)), (1, ((TI .i64).sv s.1)), (5, ((TI .i64).sv s.2))]) (fun s z => HL []) e4 () (fun φ h => T.toh h ⟨fun _ _ h => h, fun _ _ h => h, fun _ _ h => h, trivial⟩ trivial) (fun k s z uu3 hu3 hn3 => ?_)
    obtain ⟨s1, s5⟩ := s
    dsimp only [laws_heldMarkS_l1] at hu3
    refine T.seq ?_
    refine T.seq ?_
    refine T.region mix 4 [7, 8, 9, 10] [0, 0, 2, 7] [(sp ((TI .i64).sv s5)), (sp (Y64.sv x0)), (sp ((TI .i64).sv (x0.length : Int))), (sp (TB.sv (decide (s5 < (x0.length : Int)))))] (by kernel_rfl) (AOK.cons (fun ρ a w hs hz hΓ hp => gp (d_move (hΓ 5 rfl))) (AOK.cons (fun ρ a w hs hz hΓ hp => gp (d_move (hΓ 0 rfl))) (AOK.cons (fun ρ a w hs hz hΓ hp => gp (d_lenR u64 (hp 1 _ rfl rfl).1)) (AOK.cons (fun ρ a w hs hz hΓ hp => gp (d_lss (hp 0 _ rfl rfl).1 (hp 2 _ rfl rfl).1)) AOK.nil rfl) rfl) rfl) rfl) (fun vs6 => ?_)
    refine T.nil ?_
    refine T.norm ?_
    refine T.cond (b := (decide (s5 < (x0.length : Int)))) (fun _ _ h => h) (fun hc => ?_) (fun hc => ?_)
    · replace hu3 := iteT hu3 hc
      refine T.skip ?_
      refine T.norm ?_
      refine T.seq ?_
      refine T.block ?_
      refine T.seq ?_
      refine T.region mix 1 [6] [0] [(sp ((TI .i64).sv 0))] (by kernel_rfl) (AOK.cons (fun ρ a w hs hz hΓ hp => gp (d_assign (vI rfl))) AOK.nil rfl) (fun vs7 => ?_)
      refine T.nil ?_
      refine T.norm ?_
      obtain ⟨yl8, e9, hu3⟩ := bindS hu3
      refine T.joinD (ι := (Int × Int) × (Unit)) (fun p => yl8 = .inl p.1) (Γ' := fun p => E [(0, (Y64.sv x0)), (1, ((TI .i64).sv p.1.1)), (5, ((TI .i64).sv s5))]) (H' := fun p => HL []) (fun p hy => ?_) (fun hk => ?_)
      · obtain ⟨⟨o1_11, o6⟩, _⟩ := p
        cases hy
        refine T.fallX ?_
        refine T.norm ?_
        refine T.region mix 3 [11, 12, 5] [0, 1, 3] [(sp ((TI .i64).sv s5)), (sp ((TI .i64).sv (IntKind.i64.wrap (s5 + 1)))), (sp ((TI .i64).sv (IntKind.i64.wrap (s5 + 1))))] (by kernel_rfl) (AOK.cons (fun ρ a w hs hz hΓ hp => gp (d_move (hΓ 5 rfl))) (AOK.cons (fun ρ a w hs hz hΓ hp => gp (d_add (hp 0 _ rfl rfl).1 (vI rfl))) (AOK.cons (fun ρ a w hs hz hΓ hp => gp (d_assign (hp 1 _ rfl rfl).1)) AOK.nil rfl) rfl) rfl) (fun vs12 => ?_)
        refine T.nil ?_
        obtain rfl := Option.some.inj hu3
        exact T.again hn3 () (fun φ h => T.toh h ⟨fun _ _ h => h, fun _ _ h => h, fun _ _ h => h, trivial⟩ trivial)
      · skip
        refine T.block ?_
        refine T.loop (f := laws_heldMarkS_l2 x0 s5) (σ := (Int × Int)) (Z := Unit) (fun s z => E [(0, (Y64.sv x0)), (1, ((TI .i64).sv s.1)), (5, ((TI .i64).sv s5)), (6, ((TI .i64).sv s.2))]) (fun s z => HL []) e9 () (fun φ h => T.toh h ⟨fun _ _ h => h, fun _ _ h => h, fun _ _ h => h, fun _ _ h => h, trivial⟩ trivial) (fun k s z uu8 hu8 hn8 => ?_)
        obtain ⟨s1_10, s6⟩ := s
        dsimp only [laws_heldMarkS_l2] at hu8
        refine T.seq ?_
        refine T.seq ?_
        refine T.region mix 2 [13, 14] [0, 1] [(sp ((TI .i64).sv s6)), (sp (TB.sv (decide (s6 < 2))))] (by kernel_rfl) (AOK.cons (fun ρ a w hs hz hΓ hp => gp (d_move (hΓ 6 rfl))) (AOK.cons (fun ρ a w hs hz hΓ hp => gp (d_lss (hp 0 _ rfl rfl).1 (vI rfl))) AOK.nil rfl) rfl) (fun vs13 => ?_)
        refine T.nil ?_
        refine T.norm ?_
        refine T.cond (b := (decide (s6 < 2))) (fun _ _ h => h) (fun hc => ?_) (fun hc => ?_)
        · replace hu8 := iteT hu8 hc
          refine T.skip ?_
          refine T.norm ?_
          refine T.seq ?_
          refine T.block ?_
          refine T.seq ?_
          refine T.seq ?_
          obtain ⟨x20, e15, hu8⟩ := bindS hu8
          obtain ⟨x21, e16, hu8⟩ := bindS hu8
          refine T.region mix 9 [17, 18, 19, 20, 21, 22, 23, 24, 25] [0, 0, 0, 3, 15, 31, 0, 64, 255] [(sp (Y64.sv x0)), (sp ((TI .i64).sv s5)), (sp ((TI .i64).sv s6)), (sp ((TP Y25).sv x20)), (sp ((TP (TI .i16)).sv x21)), (sp ((TI .i16).sv x21)), (sp ((TI .i64).sv s1_10)), (sp ((TI .i16).sv (IntKind.i16.wrap s1_10))), (sp (TB.sv (decide (x21 ≠ (IntKind.i16.wrap s1_10)))))] (by kernel_rfl) (AOK.cons (fun ρ a w hs hz hΓ hp => gp (d_move (hΓ 0 rfl))) (AOK.cons (fun ρ a w hs hz hΓ hp => gp (d_move (hΓ 5 rfl))) (AOK.cons (fun ρ a w hs hz hΓ hp => gp (d_move (hΓ 6 rfl))) (AOK.cons (fun ρ a w hs hz hΓ hp => gp (d_idxR u64 y29 (hp 0 _ rfl rfl).1 (hp 1 _ rfl rfl).1 e15)) (AOK.cons (fun ρ a w hs hz hΓ hp => gp (d_idxP u29 y24 (hp 3 _ rfl rfl).1 (hp 2 _ rfl rfl).1 e16)) (AOK.cons (fun ρ a w hs hz hΓ hp => gp (d_load y24 hs.le (hp 4 _ rfl rfl).1)) (AOK.cons (fun ρ a w hs hz hΓ hp => gp (d_move (hΓ 1 rfl))) (AOK.cons (fun ρ a w hs hz hΓ hp => gp (d_conv u3 u24 (hp 6 _ rfl rfl).1)) (AOK.cons (fun ρ a w hs hz hΓ hp => gp (d_neq (hp 5 _ rfl rfl).1 (hp 7 _ rfl rfl).1)) AOK.nil rfl) rfl) rfl) rfl) rfl) rfl) rfl) rfl) rfl) (fun vs14 => ?_)
          refine T.nil ?_
          refine T.norm ?_
          refine T.cond (b := (decide (x21 ≠ (IntKind.i16.wrap s1_10)))) (fun _ _ h => h) (fun hc => ?_) (fun hc => ?_)
          · replace hu8 := iteT hu8 hc
            refine T.seq ?_
            refine T.region mix 1 [4] [0] [(sp ((TI .i64).sv (-1)))] (by kernel_rfl) (AOK.cons (fun ρ a w hs hz hΓ hp => gp (d_assign (vI rfl))) AOK.nil rfl) (fun vs17 => ?_)
            refine T.nil ?_
            refine T.norm ?_
            refine T.ret ?_
            obtain rfl := Option.some.inj hu8
            cases hn8
            obtain rfl := Option.some.inj hu3
            cases hn3
            obtain rfl := Option.some.inj hF
            refine T.fin0 fun ρ a w st => ?_
            exact ⟨_, results_one rfl rfl, (st.env 4)⟩
          · replace hu8 := iteF hu8 hc
            refine T.skip ?_
            refine T.norm ?_
            refine T.region mix 3 [26, 27, 1] [0, 1, 3] [(sp ((TI .i64).sv s1_10)), (sp ((TI .i64).sv (IntKind.i64.wrap (s1_10 + 1)))), (sp ((TI .i64).sv (IntKind.i64.wrap (s1_10 + 1))))] (by kernel_rfl) (AOK.cons (fun ρ a w hs hz hΓ hp => gp (d_move (hΓ 1 rfl))) (AOK.cons (fun ρ a w hs hz hΓ hp => gp (d_add (hp 0 _ rfl rfl).1 (vI rfl))) (AOK.cons (fun ρ a w hs hz hΓ hp => gp (d_assign (hp 1 _ rfl rfl).1)) AOK.nil rfl) rfl) rfl) (fun vs18 => ?_)
            refine T.nil ?_
            refine T.fallX ?_
            refine T.norm ?_
            refine T.region mix 3 [15, 16, 6] [0, 1, 3] [(sp ((TI .i64).sv s6)), (sp ((TI .i64).sv (IntKind.i64.wrap (s6 + 1)))), (sp ((TI .i64).sv (IntKind.i64.wrap (s6 + 1))))] (by kernel_rfl) (AOK.cons (fun ρ a w hs hz hΓ hp => gp (d_move (hΓ 6 rfl))) (AOK.cons (fun ρ a w hs hz hΓ hp => gp (d_add (hp 0 _ rfl rfl).1 (vI rfl))) (AOK.cons (fun ρ a w hs hz hΓ hp => gp (d_assign (hp 1 _ rfl rfl).1)) AOK.nil rfl) rfl) rfl) (fun vs19 => ?_)
            refine T.nil ?_
            obtain rfl := Option.some.inj hu8
            exact T.again hn8 () (fun φ h => T.toh h ⟨fun _ _ h => h, fun _ _ h => h, fun _ _ h => h, fun _ _ h => h, trivial⟩ trivial)
        · replace hu8 := iteF hu8 hc
          refine T.exit ?_
          obtain rfl := Option.some.inj hu8
          repeat (first | refine T.passX ?_ | refine T.inX (by decide) ?_)
          refine T.hereX ?_
          exact T.toh (hk ((s1_10, s6), ()) (Eq.symm hn8)) ⟨fun _ _ h => h, fun _ _ h => h, fun _ _ h => h, trivial⟩ trivial
    · replace hu3 := iteF hu3 hc
      refine T.exit ?_
      obtain rfl := Option.some.inj hu3
      repeat (first | refine T.passX ?_ | refine T.inX (by decide) ?_)
      refine T.hereX ?_
      exact T.toh (hk ((s1, s5), ()) (Eq.symm hn3)) ⟨fun _ _ h => h, trivial⟩ trivial

theorem c10 (w : World) (v0 : Value) {σ : Heap} (hσ : σ.le (snap w)) {x0 : ((List Int) × (List Int) × Int)} {r : Bool} (hF : laws_FnExactMarksOf x0 = some r) (h0 : Y36.val σ v0 x0) :
    Calls Try.prog 10 #[v0] w (Ret [] w σ (TB.sv r) []) := by
  unfold laws_FnExactMarksOf at hF
  refine start (args := [v0]) Try.func10 rfl 66 rfl [] [(0, (Y36.sv x0))] [] (sat_start _ hσ) rfl (args1 rfl h0 (args0)) ?_
  refine T.seq ?_
  refine T.region mix 2 [1, 2] [0, 0] [(sp ((TP Y36).sv x0)), (sp (TB.sv false))] (by kernel_rfl) (AOK.cons (fun ρ a w hs hz hΓ hp => gp (d_box hs.le (hΓ 0 rfl))) (AOK.cons (fun ρ a w hs hz hΓ hp => gp (d_assign (vB _))) AOK.nil rfl) rfl) (fun vs1 => ?_)
  refine T.nil ?_
  refine T.norm ?_
  refine T.seq ?_
  obtain ⟨x13, e3, hF⟩ := bindS hF
  obtain ⟨x14, e4, hF⟩ := bindS hF
  refine T.region mix 8 [12, 13, 14, 11, 15, 16, 3, 4] [0, 1, 3, 7, 15, 15, 31, 127] [(sp (Y36.sv x0)), (sp (Y36.sv x13)), (sO (SRel.tup2 SRel.any ((TI .i64).sv x14.2)) [(1, fun v => (slR 29 Y25 x14.1) (comp 0 v))]), (al 2 (id)), (al 2 (comp 0)), (sp ((TI .i64).sv x14.2)), (al 2 (comp 0)), (sp ((TI .i64).sv x14.2))] (by kernel_rfl) (AOK.cons (fun ρ a w hs hz hΓ hp => gp (d_load y37 hs.le (hΓ 1 rfl))) (AOK.cons (fun ρ a w hs hz hΓ hp => gp (d_call fn24 hs.le mapA1 (c24 w _ hs.le e3 ((hp 0 _ rfl rfl).1)))) (AOK.cons (fun ρ a w hs hz hΓ hp => g_call fn37 hs.le mapA1 (c37 w _ hs.le e4 ((hp 1 _ rfl rfl).1))) (AOK.cons (fun ρ a w hs hz hΓ hp => al_move rfl) (AOK.cons (fun ρ a w hs hz hΓ hp => al_extract2_0 (hp 2 _ rfl rfl).1 ((hp 3 _ rfl rfl).2 _ _ rfl)) (AOK.cons (fun ρ a w hs hz hΓ hp => gp (d_extractE2_1 (hp 2 _ rfl rfl).1 ((hp 3 _ rfl rfl).2 _ _ rfl))) (AOK.cons (fun ρ a w hs hz hΓ hp => al_assign ((hp 4 _ rfl rfl).2 _ _ rfl)) (AOK.cons (fun ρ a w hs hz hΓ hp => gp (d_assign (hp 5 _ rfl rfl).1)) AOK.nil rfl) rfl) rfl) rfl) rfl) rfl) rfl) rfl) (fun vs2 => ?_)
  refine T.nil ?_
  refine T.norm ?_
  refine T.seq ?_
  obtain ⟨x19, e6, hF⟩ := bindS hF
  obtain ⟨x20, e7, hF⟩ := bindS hF
  refine T.region mix 8 [18, 19, 20, 17, 21, 22, 5, 6] [0, 1, 3, 7, 15, 15, 31, 127] [(sp (Y36.sv x0)), (sp (Y36.sv x19)), (sO (SRel.tup2 SRel.any ((TI .i64).sv x20.2)) [(2, fun v => (slR 29 Y25 x20.1) (comp 0 v))]), (al 2 (id)), (al 2 (comp 0)), (sp ((TI .i64).sv x20.2)), (al 2 (comp 0)), (sp ((TI .i64).sv x20.2))] (by kernel_rfl) (AOK.cons (fun ρ a w hs hz hΓ hp => gp (d_load y37 hs.le (hΓ 1 rfl))) (AOK.cons (fun ρ a w hs hz hΓ hp => gp (d_call fn24 hs.le mapA1 (c24 w _ hs.le e6 ((hp 0 _ rfl rfl).1)))) (AOK.cons (fun ρ a w hs hz hΓ hp => g_call fn38 hs.le mapA1 (c38 w _ hs.le e7 ((hp 1 _ rfl rfl).1))) (AOK.cons (fun ρ a w hs hz hΓ hp => al_move rfl) (AOK.cons (fun ρ a w hs hz hΓ hp => al_extract2_0 (hp 2 _ rfl rfl).1 ((hp 3 _ rfl rfl).2 _ _ rfl)) (AOK.cons (fun ρ a w hs hz hΓ hp => gp (d_extractE2_1 (hp 2 _ rfl rfl).1 ((hp 3 _ rfl rfl).2 _ _ rfl))) (AOK.cons (fun ρ a w hs hz hΓ hp => al_assign ((hp 4 _ rfl rfl).2 _ _ rfl)) (AOK.cons (fun ρ a w hs hz hΓ hp => gp (d_assign (hp 5 _ rfl rfl).1)) AOK.nil rfl) rfl) rfl) rfl) rfl) rfl) rfl) rfl) (fun vs5 => ?_)
  refine T.nil ?_
  refine T.norm ?_
  refine T.seq ?_
  refine T.seq ?_
  obtain ⟨x25, e9, hF⟩ := bindS hF
  refine T.region mix 9 [23, 24, 25, 26, 27, 28, 29, 30, 31] [0, 0, 3, 7, 15, 31, 31, 127, 255] [(sp (SRel.eq (comp 0 (vs5 2)))), (sp (SRel.eq (comp 0 (vs2 2)))), (sp (TB.sv x25)), (sp (TB.sv (!x25))), (sp (TB.sv (!x25))), (sp (SRel.when ((!x25) = false) ((TI .i64).sv x20.2))), (sp (SRel.when ((!x25) = false) ((TI .i64).sv x14.2))), (sp (SRel.when ((!x25) = false) (TB.sv (decide (x20.2 ≠ x14.2))))), (sp (TB.sv ((!x25) || (decide (x20.2 ≠ x14.2)))))] (by kernel_rfl) (AOK.cons (fun ρ a w hs hz hΓ hp => gp (d_move (hΓ 5 rfl))) (AOK.cons (fun ρ a w hs hz hΓ hp => gp (d_move (hΓ 3 rfl))) (AOK.cons (fun ρ a w hs hz hΓ hp => gp (d_callF fn39 (loose_sv flat_TB) mapA2 (c39 w _ _ (Heap.le_refl _) e9 (sl_ro hs 2 rfl (hp 0 _ rfl rfl).1) (sl_ro hs 1 rfl (hp 1 _ rfl rfl).1)))) (AOK.cons (fun ρ a w hs hz hΓ hp => gp (d_not (hp 2 _ rfl rfl).1)) (AOK.cons (fun ρ a w hs hz hΓ hp => gp (d_move (hp 3 _ rfl rfl).1)) (AOK.cons (fun ρ a w hs hz hΓ hp => gg (g := 4) (d := 27) hz rfl (hp 4 _ rfl rfl).1 rfl (fun hc => d_move (hΓ 6 rfl))) (AOK.cons (fun ρ a w hs hz hΓ hp => gg (g := 4) (d := 27) hz rfl (hp 4 _ rfl rfl).1 rfl (fun hc => d_move (hΓ 4 rfl))) (AOK.cons (fun ρ a w hs hz hΓ hp => gg (g := 4) (d := 27) hz rfl (hp 4 _ rfl rfl).1 rfl (fun hc => d_neq ((hp 5 _ rfl rfl).1 hc) ((hp 6 _ rfl rfl).1 hc))) (AOK.cons (fun ρ a w hs hz hΓ hp => gp (d_pick (hp 4 _ rfl rfl).1 (fun hc => pON hc) (fun hc => pO hc ((hp 7 _ rfl rfl).1 hc)))) AOK.nil rfl) rfl) rfl) rfl) rfl) rfl) rfl) rfl) rfl) (fun vs8 => ?_)
  refine T.nil ?_
  refine T.norm ?_
  refine T.cond (b := ((!x25) || (decide (x20.2 ≠ x14.2)))) (fun _ _ h => h) (fun hc => ?_) (fun hc => ?_)
  · replace hF := iteT hF hc
    refine T.seq ?_
    refine T.region mix 1 [2] [0] [(sp (TB.sv false))] (by kernel_rfl) (AOK.cons (fun ρ a w hs hz hΓ hp => gp (d_assign (vB _))) AOK.nil rfl) (fun vs10 => ?_)
    refine T.nil ?_
    refine T.norm ?_
    refine T.ret ?_
    obtain rfl := Option.some.inj hF
    refine T.fin0 fun ρ a w st => ?_
    exact ⟨_, results_one rfl rfl, (st.env 2)⟩
  · replace hF := iteF hF hc
    refine T.skip ?_
    refine T.norm ?_
    refine T.seq ?_
    refine T.region mix 1 [7] [0] [(sp ((TI .i64).sv 1))] (by kernel_rfl) (AOK.cons (fun ρ a w hs hz hΓ hp => gp (d_assign (vI rfl))) AOK.nil rfl) (fun vs11 => ?_)
    refine T.nil ?_
    refine T.norm ?_
    refine T.seq ?_
    refine T.region mix 2 [32, 33] [0, 0, 3, 7] [(sp (SRel.eq (comp 0 (vs5 2)))), (sp ((TI .i64).sv 1))] (by kernel_rfl) (AOK.cons (fun ρ a w hs hz hΓ hp => gp (d_move (hΓ 5 rfl))) (AOK.cons (fun ρ a w hs hz hΓ hp => gp (d_move (hΓ 7 rfl))) AOK.nil rfl) rfl) (fun vs12 => ?_)
    obtain ⟨x34, e13, hF⟩ := bindS hF
    refine T.callB (R := ((TI .i64).sv x34.2)) (r := (slR 29 Y25 x20.1 (comp 0 (vs5 2)))) (r' := (slR 29 Y25 x34.1 (comp 0 (vs5 2)))) 2 fn40 rfl rfl (loose_slR (flat_TArr (flat_TI _))) (loose_slR (flat_TArr (flat_TI _))) rfl (fun ρ a w st hle hm => ?_) ?_
    · rw [mapA2]; exact call_at (r := slR 29 Y25 x34.1) (st.env 32) (c40 w _ _  e13 (hm_at (r := slR 29 Y25 x20.1) (st.env 32) hm) (Ty.val_mono _ (le_at (st.env 32) hle) (st.env 33)))
    refine T.does (R := ((TI .i64).sv x34.2)) rfl (fun ρ a w st => have hs := st.sat; d_assign (st.env 34)) ?_
    refine T.nil ?_
    refine T.norm ?_
    refine T.seq ?_
    refine T.region mix 1 [8] [0] [(sp ((TI .i64).sv 1))] (by kernel_rfl) (AOK.cons (fun ρ a w hs hz hΓ hp => gp (d_assign (vI rfl))) AOK.nil rfl) (fun vs14 => ?_)
    refine T.nil ?_
    refine T.norm ?_
    refine T.seq ?_
    obtain ⟨x37, e16, hF⟩ := bindS hF
    refine T.region mix 4 [35, 36, 37, 8] [0, 0, 3, 7] [(sp (SRel.eq (comp 0 (vs5 2)))), (sp ((TI .i64).sv 1)), (sp ((TI .i64).sv x37)), (sp ((TI .i64).sv x37))] (by kernel_rfl) (AOK.cons (fun ρ a w hs hz hΓ hp => gp (d_move (hΓ 5 rfl))) (AOK.cons (fun ρ a w hs hz hΓ hp => gp (d_move (hΓ 8 rfl))) (AOK.cons (fun ρ a w hs hz hΓ hp => gp (d_callF fn41 (loose_sv (flat_TI _)) mapA2 (c41 w _ _ (Heap.le_refl _) e16 (sl_ro hs 2 rfl (hp 0 _ rfl rfl).1) (Ty.val_mono _ hs.le (hp 1 _ rfl rfl).1)))) (AOK.cons (fun ρ a w hs hz hΓ hp => gp (d_assign (hp 2 _ rfl rfl).1)) AOK.nil rfl) rfl) rfl) rfl) (fun vs15 => ?_)
    refine T.nil ?_
    refine T.norm ?_
    refine T.seq ?_
    refine T.seq ?_
    refine T.region mix 2 [38, 39] [0, 1] [(sp ((TI .i64).sv x37)), (sp (TB.sv (decide (x37 < 0))))] (by kernel_rfl) (AOK.cons (fun ρ a w hs hz hΓ hp => gp (d_move (hΓ 8 rfl))) (AOK.cons (fun ρ a w hs hz hΓ hp => gp (d_lss (hp 0 _ rfl rfl).1 (vI rfl))) AOK.nil rfl) rfl) (fun vs17 => ?_)
    refine T.nil ?_
    refine T.norm ?_
    refine T.cond (b := (decide (x37 < 0))) (fun _ _ h => h) (fun hc => ?_) (fun hc => ?_)
    · replace hF := iteT hF hc
      refine T.seq ?_
      refine T.region mix 1 [2] [0] [(sp (TB.sv false))] (by kernel_rfl) (AOK.cons (fun ρ a w hs hz hΓ hp => gp (d_assign (vB _))) AOK.nil rfl) (fun vs18 => ?_)
      refine T.nil ?_
      refine T.norm ?_
      refine T.ret ?_
      obtain rfl := Option.some.inj hF
      refine T.fin0 fun ρ a w st => ?_
      exact ⟨_, results_one rfl rfl, (st.env 2)⟩
    · replace hF := iteF hF hc
      refine T.skip ?_
      refine T.norm ?_
      refine T.seq ?_
      refine T.seq ?_
      refine T.region mix 3 [40, 41, 42] [0, 0, 3] [(sp ((TI .i64).sv x37)), (sp ((TI .i64).sv x34.2)), (sp (TB.sv (decide (x37 ≠ x34.2))))] (by kernel_rfl) (AOK.cons (fun ρ a w hs hz hΓ hp => gp (d_move (hΓ 8 rfl))) (AOK.cons (fun ρ a w hs hz hΓ hp => gp (d_move (hΓ 7 rfl))) (AOK.cons (fun ρ a w hs hz hΓ hp => gp (d_neq (hp 0 _ rfl rfl).1 (hp 1 _ rfl rfl).1)) AOK.nil rfl) rfl) rfl) (fun vs19 => ?_)
      refine T.nil ?_
      refine T.norm ?_
      refine T.cond (b := (decide (x37 ≠ x34.2))) (fun _ _ h => h) (fun hc => ?_) (fun hc => ?_)
      · replace hF := iteT hF hc
        refine T.seq ?_
        refine T.region mix 1 [2] [0] [(sp (TB.sv false))] (by kernel_rfl) (AOK.cons (fun ρ a w hs hz hΓ hp => gp (d_assign (vB _))) AOK.nil rfl) (fun vs20 => ?_)
        refine T.nil ?_
        refine T.norm ?_
        refine T.ret ?_
        obtain rfl := Option.some.inj hF
        refine T.fin0 fun ρ a w st => ?_
        exact ⟨_, results_one rfl rfl, (st.env 2)⟩
      · replace hF := iteF hF hc
        refine T.skip ?_
        refine T.norm ?_
        refine T.seq ?_
        obtain ⟨x45, e22, hF⟩ := bindS hF
        obtain ⟨x46, e23, hF⟩ := bindS hF
        refine T.region mix 8 [44, 45, 46, 43, 47, 48, 9, 10] [0, 1, 3, 7, 15, 15, 31, 127] [(sp (Y36.sv x0)), (sp (Y36.sv x45)), (sO (SRel.tup2 SRel.any ((TI .i64).sv x46.2)) [(3, fun v => (slR 29 Y25 x46.1) (comp 0 v))]), (al 2 (id)), (al 2 (comp 0)), (sp ((TI .i64).sv x46.2)), (al 2 (comp 0)), (sp ((TI .i64).sv x46.2))] (by kernel_rfl) (AOK.cons (fun ρ a w hs hz hΓ hp => gp (d_load y37 hs.le (hΓ 1 rfl))) (AOK.cons (fun ρ a w hs hz hΓ hp => gp (d_call fn24 hs.le mapA1 (c24 w _ hs.le e22 ((hp 0 _ rfl rfl).1)))) (AOK.cons (fun ρ a w hs hz hΓ hp => g_call fn38 hs.le mapA1 (c38 w _ hs.le e23 ((hp 1 _ rfl rfl).1))) (AOK.cons (fun ρ a w hs hz hΓ hp => al_move rfl) (AOK.cons (fun ρ a w hs hz hΓ hp => al_extract2_0 (hp 2 _ rfl rfl).1 ((hp 3 _ rfl rfl).2 _ _ rfl)) (AOK.cons (fun ρ a w hs hz hΓ hp => gp (d_extractE2_1 (hp 2 _ rfl rfl).1 ((hp 3 _ rfl rfl).2 _ _ rfl))) (AOK.cons (fun ρ a w hs hz hΓ hp => al_assign ((hp 4 _ rfl rfl).2 _ _ rfl)) (AOK.cons (fun ρ a w hs hz hΓ hp => gp (d_assign (hp 5 _ rfl rfl).1)) AOK.nil rfl) rfl) rfl) rfl) rfl) rfl) rfl) rfl) (fun vs21 => ?_)
        refine T.nil ?_
        refine T.norm ?_
        refine T.seq ?_
        refine T.seq ?_
        obtain ⟨x51, e25, hF⟩ := bindS hF
        refine T.region mix 9 [49, 50, 51, 52, 53, 54, 55, 56, 57] [0, 0, 3, 7, 15, 31, 31, 127, 255] [(sp (SRel.eq (comp 0 (vs21 2)))), (sp (SRel.eq (comp 0 (vs2 2)))), (sp (TB.sv x51)), (sp (TB.sv (!x51))), (sp (TB.sv (!x51))), (sp (SRel.when ((!x51) = false) ((TI .i64).sv x46.2))), (sp (SRel.when ((!x51) = false) ((TI .i64).sv x14.2))), (sp (SRel.when ((!x51) = false) (TB.sv (decide (x46.2 ≠ x14.2))))), (sp (TB.sv ((!x51) || (decide (x46.2 ≠ x14.2)))))] (by kernel_rfl) (AOK.cons (fun ρ a w hs hz hΓ hp => gp (d_move (hΓ 9 rfl))) (AOK.cons (fun ρ a w hs hz hΓ hp => gp (d_move (hΓ 3 rfl))) (AOK.cons (fun ρ a w hs hz hΓ hp => gp (d_callF fn39 (loose_sv flat_TB) mapA2 (c39 w _ _ (Heap.le_refl _) e25 (sl_ro hs 3 rfl (hp 0 _ rfl rfl).1) (sl_ro hs 1 rfl (hp 1 _ rfl rfl).1)))) (AOK.cons (fun ρ a w hs hz hΓ hp => gp (d_not (hp 2 _ rfl rfl).1)) (AOK.cons (fun ρ a w hs hz hΓ hp => gp (d_move (hp 3 _ rfl rfl).1)) (AOK.cons (fun ρ a w hs hz hΓ hp => gg (g := 4) (d := 53) hz rfl (hp 4 _ rfl rfl).1 rfl (fun hc => d_move (hΓ 10 rfl))) (AOK.cons (fun ρ a w hs hz hΓ hp => gg (g := 4) (d := 53) hz rfl (hp 4 _ rfl rfl).1 rfl (fun hc => d_move (hΓ 4 rfl))) (AOK.cons (fun ρ a w hs hz hΓ hp => gg (g := 4) (d := 53) hz rfl (hp 4 _ rfl rfl).1 rfl (fun hc => d_neq ((hp 5 _ rfl rfl).1 hc) ((hp 6 _ rfl rfl).1 hc))) (AOK.cons (fun ρ a w hs hz hΓ hp => gp (d_pick (hp 4 _ rfl rfl).1 (fun hc => pON hc) (fun hc => pO hc ((hp 7 _ rfl rfl).1 hc)))) AOK.nil rfl) rfl) rfl) rfl) rfl) rfl) rfl) rfl) rfl) (fun vs24 => ?_)
        refine T.nil ?_
        refine T.norm ?_
        refine T.cond (b := ((!x51) || (decide (x46.2 ≠ x14.2)))) (fun _ _ h => h) (fun hc => ?_) (fun hc => ?_)
        · replace hF := iteT hF hc
          refine T.seq ?_
          refine T.region mix 1 [2] [0] [(sp (TB.sv false))] (by kernel_rfl) (AOK.cons (fun ρ a w hs hz hΓ hp => gp (d_assign (vB _))) AOK.nil rfl) (fun vs26 => ?_)
          refine T.nil ?_
          refine T.norm ?_
          refine T.ret ?_
          obtain rfl := Option.some.inj hF
          refine T.fin0 fun ρ a w st => ?_
          exact ⟨_, results_one rfl rfl, (st.env 2)⟩
        · replace hF := iteF hF hc
          refine T.skip ?_
          refine T.norm ?_
          refine T.seq ?_
          refine T.region mix 1 [8] [0] [(sp ((TI .i64).sv 1))] (by kernel_rfl) (AOK.cons (fun ρ a w hs hz hΓ hp => gp (d_assign (vI rfl))) AOK.nil rfl) (fun vs27 => ?_)
          refine T.nil ?_
          refine T.norm ?_
          refine T.seq ?_
          obtain ⟨x60, e29, hF⟩ := bindS hF
          refine T.region mix 4 [58, 59, 60, 8] [0, 0, 3, 7] [(sp (SRel.eq (comp 0 (vs5 2)))), (sp ((TI .i64).sv 1)), (sp ((TI .i64).sv x60)), (sp ((TI .i64).sv x60))] (by kernel_rfl) (AOK.cons (fun ρ a w hs hz hΓ hp => gp (d_move (hΓ 5 rfl))) (AOK.cons (fun ρ a w hs hz hΓ hp => gp (d_move (hΓ 8 rfl))) (AOK.cons (fun ρ a w hs hz hΓ hp => gp (d_callF fn41 (loose_sv (flat_TI _)) mapA2 (c41 w _ _ (Heap.le_refl _) e29 (sl_ro hs 2 rfl (hp 0 _ rfl rfl).1) (Ty.val_mono _ hs.le (hp 1 _ rfl rfl).1)))) (AOK.cons (fun ρ a w hs hz hΓ hp => gp (d_assign (hp 2 _ rfl rfl).1)) AOK.nil rfl) rfl) rfl) rfl) (fun vs28 => ?_)
          refine T.nil ?_
          refine T.norm ?_
          refine T.seq ?_
          refine T.seq ?_
          refine T.region mix 2 [61, 62] [0, 1] [(sp ((TI .i64).sv x60)), (sp (TB.sv (decide (x60 < 0))))] (by kernel_rfl) (AOK.cons (fun ρ a w hs hz hΓ hp => gp (d_move (hΓ 8 rfl))) (AOK.cons (fun ρ a w hs hz hΓ hp => gp (d_lss (hp 0 _ rfl rfl).1 (vI rfl))) AOK.nil rfl) rfl) (fun vs30 => ?_)
          refine T.nil ?_
          refine T.norm ?_
          refine T.cond (b := (decide (x60 < 0))) (fun _ _ h => h) (fun hc => ?_) (fun hc => ?_)
          · replace hF := iteT hF hc
            refine T.seq ?_
            refine T.region mix 1 [2] [0] [(sp (TB.sv false))] (by kernel_rfl) (AOK.cons (fun ρ a w hs hz hΓ hp => gp (d_assign (vB _))) AOK.nil rfl) (fun vs31 => ?_)
            refine T.nil ?_
            refine T.norm ?_
            refine T.ret ?_
            obtain rfl := Option.some.inj hF
            refine T.fin0 fun ρ a w st => ?_
            exact ⟨_, results_one rfl rfl, (st.env 2)⟩
          · replace hF := iteF hF hc
            refine T.skip ?_
            refine T.norm ?_
            refine T.seq ?_
            refine T.seq ?_
            refine T.region mix 3 [63, 64, 65] [0, 0, 3] [(sp ((TI .i64).sv x60)), (sp ((TI .i64).sv x34.2)), (sp (TB.sv (decide (x60 ≠ x34.2))))] (by kernel_rfl) (AOK.cons (fun ρ a w hs hz hΓ hp => gp (d_move (hΓ 8 rfl))) (AOK.cons (fun ρ a w hs hz hΓ hp => gp (d_move (hΓ 7 rfl))) (AOK.cons (fun ρ a w hs hz hΓ hp => gp (d_neq (hp 0 _ rfl rfl).1 (hp 1 _ rfl rfl).1)) AOK.nil rfl) rfl) rfl) (fun vs32 => ?_)
            refine T.nil ?_
            refine T.norm ?_
            refine T.cond (b := (decide (x60 ≠ x34.2))) (fun _ _ h => h) (fun hc => ?_) (fun hc => ?_)
            · replace hF := iteT hF hc
              refine T.seq ?_
              refine T.region mix 1 [2] [0] [(sp (TB.sv false))] (by kernel_rfl) (AOK.cons (fun ρ a w hs hz hΓ hp => gp (d_assign (vB _))) AOK.nil rfl) (fun vs33 => ?_)
              refine T.nil ?_
              refine T.norm ?_
              refine T.ret ?_
              obtain rfl := Option.some.inj hF
              refine T.fin0 fun ρ a w st => ?_
              exact ⟨_, results_one rfl rfl, (st.env 2)⟩
            · replace hF := iteF hF hc
              refine T.skip ?_
              refine T.norm ?_
              refine T.seq ?_
              refine T.region mix 1 [2] [0] [(sp (TB.sv true))] (by kernel_rfl) (AOK.cons (fun ρ a w hs hz hΓ hp => gp (d_assign (vB _))) AOK.nil rfl) (fun vs34 => ?_)
              refine T.nil ?_
              refine T.norm ?_
              refine T.ret ?_
              obtain rfl := Option.some.inj hF
              refine T.fin0 fun ρ a w st => ?_
              exact ⟨_, results_one rfl rfl, (st.env 2)⟩
end Go.Proofs.Ytnpkhhfpgedkoaa
