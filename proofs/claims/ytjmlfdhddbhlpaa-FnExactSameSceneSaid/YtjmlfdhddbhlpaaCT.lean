/-
  The walks: each function comes to what its plain function says.
-/
import Derived.Test.YtjmlfdhddbhlpaaFactsT
import Derived.Test.YtjmlfdhddbhlpaaFT
set_option linter.unusedVariables false
set_option maxHeartbeats 1600000
set_option maxRecDepth 100000
namespace Go.Proofs.Ytjmlfdhddbhlpaa
open Go
theorem c147 (w : World) (v0 v1 : Value) {σ : Heap} (hσ : σ.le (snap w)) {x0 : (List (List Nat))} {x1 : Int} {r : Int} (hF : laws_szPointS x0 x1 = some r) (h0 : Y156.val σ v0 x0) (h1 : (TI .i64).val σ v1 x1) :
    Calls Try.prog 147 #[v0, v1] w (Ret [] w σ ((TI .i64).sv r) []) := by
  unfold laws_szPointS at hF
  refine start (args := [v0, v1]) Try.func147 rfl 12 rfl [] [(0, (Y156.sv x0)), (1, ((TI .i64).sv x1))] [] (sat_start _ hσ) rfl (args1 rfl h0 (args1 rfl h1 (args0))) ?_
  refine T.seq ?_
  refine T.region mix 1 [4] [0] [(sp ((TI .i64).sv 0))] (by kernel_rfl) (AOK.cons (fun ρ a w hs hz hΓ hp => gp (d_assign (vI rfl))) AOK.nil rfl) (fun vs1 => ?_)
  refine T.nil ?_
  refine T.norm ?_
  refine T.seq ?_
  refine T.region mix 5 [5, 6, 7, 8, 1] [0, 0, 2, 7, 15] [(sp ((TI .i64).sv x1)), (sp (Y156.sv x0)), (sp ((TI .i64).sv (x0.length : Int))), (sp ((TI .i64).sv (IntKind.i64.wrap (x1 - (x0.length : Int))))), (sp ((TI .i64).sv (IntKind.i64.wrap (x1 - (x0.length : Int)))))] (by kernel_rfl) (AOK.cons (fun ρ a w hs hz hΓ hp => gp (d_move (hΓ 1 rfl))) (AOK.cons (fun ρ a w hs hz hΓ hp => gp (d_move (hΓ 0 rfl))) (AOK.cons (fun ρ a w hs hz hΓ hp => gp (d_lenR u156 (hp 1 _ rfl rfl).1)) (AOK.cons (fun ρ a w hs hz hΓ hp => gp (d_sub (hp 0 _ rfl rfl).1 (hp 2 _ rfl rfl).1)) (AOK.cons (fun ρ a w hs hz hΓ hp => gp (d_assign (hp 3 _ rfl rfl).1)) AOK.nil rfl) rfl) rfl) rfl) rfl) (fun vs2 => ?_)
  refine T.nil ?_
  refine T.norm ?_
  refine T.seq ?_
  refine T.seq ?_
  refine T.region mix 2 [9, 10] [0, 1] [(sp ((TI .i64).sv (IntKind.i64.wrap (x1 - (x0.length : Int))))), (sp (TB.sv (decide ((IntKind.i64.wrap (x1 - (x0.length : Int))) < 0))))] (by kernel_rfl) (AOK.cons (fun ρ a w hs hz hΓ hp => gp (d_move (hΓ 1 rfl))) (AOK.cons (fun ρ a w hs hz hΓ hp => gp (d_lss (hp 0 _ rfl rfl).1 (vI rfl))) AOK.nil rfl) rfl) (fun vs3 => ?_)
  refine T.nil ?_
  refine T.norm ?_
  refine T.cond (b := (decide ((IntKind.i64.wrap (x1 - (x0.length : Int))) < 0))) (fun _ _ h => h) (fun hc => ?_) (fun hc => ?_)
  · replace hF := iteT hF hc
    refine T.seq ?_
    refine T.region mix 1 [4] [0] [(sp ((TI .i64).sv (-1)))] (by kernel_rfl) (AOK.cons (fun ρ a w hs hz hΓ hp => gp (d_assign (vI rfl))) AOK.nil rfl) (fun vs4 => ?_)
    refine T.nil ?_
    refine T.norm ?_
    refine T.ret ?_
    obtain rfl := Option.some.inj hF
    refine T.fin0 fun ρ a w st => ?_
    exact ⟨_, results_one rfl rfl, (st.env 4)⟩
  · replace hF := iteF hF hc
    refine T.skip ?_
    refine T.norm ?_
    refine T.seq ?_
    refine T.region mix 2 [11, 4] [0, 1] [(sp ((TI .i64).sv (IntKind.i64.wrap (x1 - (x0.length : Int))))), (sp ((TI .i64).sv (IntKind.i64.wrap (x1 - (x0.length : Int)))))] (by kernel_rfl) (AOK.cons (fun ρ a w hs hz hΓ hp => gp (d_move (hΓ 1 rfl))) (AOK.cons (fun ρ a w hs hz hΓ hp => gp (d_assign (hp 0 _ rfl rfl).1)) AOK.nil rfl) rfl) (fun vs5 => ?_)
    refine T.nil ?_
    refine T.norm ?_
    refine T.ret ?_
    obtain rfl := Option.some.inj hF
    refine T.fin0 fun ρ a w st => ?_
    exact ⟨_, results_one rfl rfl, (st.env 4)⟩

theorem c170 (w : World) (v0 v1 : Value) {σ : Heap} (hσ : σ.le (snap w)) {x0 : (List Int)} {x1 : Int} {r : Int} (hF : laws_szInt16S x0 x1 = some r) (h0 : Y169.val σ v0 x0) (h1 : (TI .i64).val σ v1 x1) :
    Calls Try.prog 170 #[v0, v1] w (Ret [] w σ ((TI .i64).sv r) []) := by
  unfold laws_szInt16S at hF
  refine start (args := [v0, v1]) Try.func170 rfl 12 rfl [] [(0, (Y169.sv x0)), (1, ((TI .i64).sv x1))] [] (sat_start _ hσ) rfl (args1 rfl h0 (args1 rfl h1 (args0))) ?_
  refine T.seq ?_
  refine T.region mix 1 [4] [0] [(sp ((TI .i64).sv 0))] (by kernel_rfl) (AOK.cons (fun ρ a w hs hz hΓ hp => gp (d_assign (vI rfl))) AOK.nil rfl) (fun vs1 => ?_)
  refine T.nil ?_
  refine T.norm ?_
  refine T.seq ?_
  refine T.region mix 5 [5, 6, 7, 8, 1] [0, 0, 2, 7, 15] [(sp ((TI .i64).sv x1)), (sp (Y169.sv x0)), (sp ((TI .i64).sv (x0.length : Int))), (sp ((TI .i64).sv (IntKind.i64.wrap (x1 - (x0.length : Int))))), (sp ((TI .i64).sv (IntKind.i64.wrap (x1 - (x0.length : Int)))))] (by kernel_rfl) (AOK.cons (fun ρ a w hs hz hΓ hp => gp (d_move (hΓ 1 rfl))) (AOK.cons (fun ρ a w hs hz hΓ hp => gp (d_move (hΓ 0 rfl))) (AOK.cons (fun ρ a w hs hz hΓ hp => gp (d_lenR u169 (hp 1 _ rfl rfl).1)) (AOK.cons (fun ρ a w hs hz hΓ hp => gp (d_sub (hp 0 _ rfl rfl).1 (hp 2 _ rfl rfl).1)) (AOK.cons (fun ρ a w hs hz hΓ hp => gp (d_assign (hp 3 _ rfl rfl).1)) AOK.nil rfl) rfl) rfl) rfl) rfl) (fun vs2 => ?_)
  refine T.nil ?_
  refine T.norm ?_
  refine T.seq ?_
  refine T.seq ?_
  refine T.region mix 2 [9, 10] [0, 1] [(sp ((TI .i64).sv (IntKind.i64.wrap (x1 - (x0.length : Int))))), (sp (TB.sv (decide ((IntKind.i64.wrap (x1 - (x0.length : Int))) < 0))))] (by kernel_rfl) (AOK.cons (fun ρ a w hs hz hΓ hp => gp (d_move (hΓ 1 rfl))) (AOK.cons (fun ρ a w hs hz hΓ hp => gp (d_lss (hp 0 _ rfl rfl).1 (vI rfl))) AOK.nil rfl) rfl) (fun vs3 => ?_)
  refine T.nil ?_
  refine T.norm ?_
  refine T.cond (b := (decide ((IntKind.i64.wrap (x1 - (x0.length : Int))) < 0))) (fun _ _ h => h) (fun hc => ?_) (fun hc => ?_)
  · replace hF := iteT hF hc
    refine T.seq ?_
    refine T.region mix 1 [4] [0] [(sp ((TI .i64).sv (-1)))] (by kernel_rfl) (AOK.cons (fun ρ a w hs hz hΓ hp => gp (d_assign (vI rfl))) AOK.nil rfl) (fun vs4 => ?_)
    refine T.nil ?_
    refine T.norm ?_
    refine T.ret ?_
    obtain rfl := Option.some.inj hF
    refine T.fin0 fun ρ a w st => ?_
    exact ⟨_, results_one rfl rfl, (st.env 4)⟩
  · replace hF := iteF hF hc
    refine T.skip ?_
    refine T.norm ?_
    refine T.seq ?_
    refine T.region mix 2 [11, 4] [0, 1] [(sp ((TI .i64).sv (IntKind.i64.wrap (x1 - (x0.length : Int))))), (sp ((TI .i64).sv (IntKind.i64.wrap (x1 - (x0.length : Int)))))] (by kernel_rfl) (AOK.cons (fun ρ a w hs hz hΓ hp => gp (d_move (hΓ 1 rfl))) (AOK.cons (fun ρ a w hs hz hΓ hp => gp (d_assign (hp 0 _ rfl rfl).1)) AOK.nil rfl) rfl) (fun vs5 => ?_)
    refine T.nil ?_
    refine T.norm ?_
    refine T.ret ?_
    obtain rfl := Option.some.inj hF
    refine T.fin0 fun ρ a w st => ?_
    exact ⟨_, results_one rfl rfl, (st.env 4)⟩

theorem c148 (w : World) (v0 v1 : Value) {σ : Heap} (hσ : σ.le (snap w)) {x0 : (List (List Int))} {x1 : Int} {r : Int} (hF : laws_szInt16SS x0 x1 = some r) (h0 : Y125.val σ v0 x0) (h1 : (TI .i64).val σ v1 x1) :
    Calls Try.prog 148 #[v0, v1] w (Ret [] w σ ((TI .i64).sv r) []) := by
  unfold laws_szInt16SS at hF
  refine start (args := [v0, v1]) Try.func148 rfl 27 rfl [] [(0, (Y125.sv x0)), (1, ((TI .i64).sv x1))] [] (sat_start _ hσ) rfl (args1 rfl h0 (args1 rfl h1 (args0))) ?_
  refine T.seq ?_
  refine T.region mix 1 [4] [0] [(sp ((TI .i64).sv 0))] (by kernel_rfl) (AOK.cons (fun ρ a w hs hz hΓ hp => gp (d_assign (vI rfl))) AOK.nil rfl) (fun vs1 => ?_)
  refine T.nil ?_
  refine T.norm ?_
  refine T.seq ?_
  refine T.region mix 5 [6, 7, 8, 9, 1] [0, 0, 2, 7, 15] [(sp ((TI .i64).sv x1)), (sp (Y125.sv x0)), (sp ((TI .i64).sv (x0.length : Int))), (sp ((TI .i64).sv (IntKind.i64.wrap (x1 - (x0.length : Int))))), (sp ((TI .i64).sv (IntKind.i64.wrap (x1 - (x0.length : Int)))))] (by kernel_rfl) (AOK.cons (fun ρ a w hs hz hΓ hp => gp (d_move (hΓ 1 rfl))) (AOK.cons (fun ρ a w hs hz hΓ hp => gp (d_move (hΓ 0 rfl))) (AOK.cons (fun ρ a w hs hz hΓ hp => gp (d_lenR u125 (hp 1 _ rfl rfl).1)) (AOK.cons (fun ρ a w hs hz hΓ hp => gp (d_sub (hp 0 _ rfl rfl).1 (hp 2 _ rfl rfl).1)) (AOK.cons (fun ρ a w hs hz hΓ hp => gp (d_assign (hp 3 _ rfl rfl).1)) AOK.nil rfl) rfl) rfl) rfl) rfl) (fun vs2 => ?_)
  refine T.nil ?_
  refine T.norm ?_
  refine T.seq ?_
  refine T.seq ?_
  refine T.region mix 2 [10, 11] [0, 1] [(sp ((TI .i64).sv (IntKind.i64.wrap (x1 - (x0.length : Int))))), (sp (TB.sv (decide ((IntKind.i64.wrap (x1 - (x0.length : Int))) < 0))))] (by kernel_rfl) (AOK.cons (fun ρ a w hs hz hΓ hp => gp (d_move (hΓ 1 rfl))) (AOK.cons (fun ρ a w hs hz hΓ hp => gp (d_lss (hp 0 _ rfl rfl).1 (vI rfl))) AOK.nil rfl) rfl) (fun vs3 => ?_)
  refine T.nil ?_
  refine T.norm ?_
  refine T.cond (b := (decide ((IntKind.i64.wrap (x1 - (x0.length : Int))) < 0))) (fun _ _ h => h) (fun hc => ?_) (fun hc => ?_)
  · replace hF := iteT hF hc
    refine T.seq ?_
    refine T.region mix 1 [4] [0] [(sp ((TI .i64).sv (-1)))] (by kernel_rfl) (AOK.cons (fun ρ a w hs hz hΓ hp => gp (d_assign (vI rfl))) AOK.nil rfl) (fun vs4 => ?_)
    refine T.nil ?_
    refine T.norm ?_
    refine T.ret ?_
    obtain rfl := Option.some.inj hF
    refine T.fin0 fun ρ a w st => ?_
    exact ⟨_, results_one rfl rfl, (st.env 4)⟩
  · replace hF := iteF hF hc
    refine T.skip ?_
    refine T.norm ?_
    refine T.seq ?_
    refine T.seq ?_
    refine T.region mix 1 [5] [0] [(sp ((TI .i64).sv 0))] (by kernel_rfl) (AOK.cons (fun ρ a w hs hz hΓ hp => gp (d_assign (vI rfl))) AOK.nil rfl) (fun vs5 => ?_)
    refine T.nil ?_
    refine T.norm ?_
    obtain ⟨yl6, e7, hF⟩ := bindS hF
    refine T.joinD (ι := (Int × Int) × (Unit)) (fun p => yl6 = .inl p.1) (Γ' := fun p => E [(1, ((TI .i64).sv p.1.1))]) (H' := fun p => HL []) (fun p hy => ?_) (fun hk => ?_)
    · obtain ⟨⟨o1, o5⟩, _⟩ := p
      cases hy
      refine T.norm ?_
      refine T.seq ?_
      refine T.region mix 2 [26, 4] [0, 1] [(sp ((TI .i64).sv o1)), (sp ((TI .i64).sv o1))] (by kernel_rfl) (AOK.cons (fun ρ a w hs hz hΓ hp => gp (d_move (hΓ 1 rfl))) (AOK.cons (fun ρ a w hs hz hΓ hp => gp (d_assign (hp 0 _ rfl rfl).1)) AOK.nil rfl) rfl) (fun vs8 => ?_)
      refine T.nil ?_
      refine T.norm ?_
      refine T.ret ?_
      obtain rfl := Option.some.inj hF
      refine T.fin0 fun ρ a w st => ?_
      exact ⟨_, results_one rfl rfl, (st.env 4)⟩
    · skip
      refine T.block ?_
      refine T.loop (f := laws_szInt16SS_l1 x0) (σ := (Int × Int)) (Z := Unit) (fun s z => E [(0, (Y125.sv x0)), (1, ((TI .i64).sv s.1)), (5, ((TI .i64).sv s.2))]) (fun s z => HL []) e7 () (fun φ h => T.toh h ⟨fun _ _ h => h, fun _ _ h => h, fun _ _ h => h, trivial⟩ trivial) (fun k s z uu6 hu6 hn6 => ?_)
      obtain ⟨s1, s5⟩ := s
      dsimp only [laws_szInt16SS_l1] at hu6
      refine T.seq ?_
      refine T.seq ?_
      refine T.region mix 4 [12, 13, 14, 15] [0, 0, 2, 7] [(sp ((TI .i64).sv s5)), (sp (Y125.sv x0)), (sp ((TI .i64).sv (x0.length : Int))), (sp (TB.sv (decide (s5 < (x0.length : Int)))))] (by kernel_rfl) (AOK.cons (fun ρ a w hs hz hΓ hp => gp (d_move (hΓ 5 rfl))) (AOK.cons (fun ρ a w hs hz hΓ hp => gp (d_move (hΓ 0 rfl))) (AOK.cons (fun ρ a w hs hz hΓ hp => gp (d_lenR u125 (hp 1 _ rfl rfl).1)) (AOK.cons (fun ρ a w hs hz hΓ hp => gp (d_lss (hp 0 _ rfl rfl).1 (hp 2 _ rfl rfl).1)) AOK.nil rfl) rfl) rfl) rfl) (fun vs9 => ?_)
      refine T.nil ?_
      refine T.norm ?_
      refine T.cond (b := (decide (s5 < (x0.length : Int)))) (fun _ _ h => h) (fun hc => ?_) (fun hc => ?_)
      · replace hu6 := iteT hu6 hc
        refine T.skip ?_
        refine T.norm ?_
        refine T.seq ?_
        refine T.block ?_
        refine T.seq ?_
        obtain ⟨x20, e11, hu6⟩ := bindS hu6
        obtain ⟨x23, e12, hu6⟩ := bindS hu6
        refine T.region mix 7 [18, 19, 20, 21, 22, 23, 1] [0, 0, 3, 7, 0, 31, 63] [(sp (Y125.sv x0)), (sp ((TI .i64).sv s5)), (sp ((TP Y169).sv x20)), (sp (Y169.sv x20)), (sp ((TI .i64).sv s1)), (sp ((TI .i64).sv x23)), (sp ((TI .i64).sv x23))] (by kernel_rfl) (AOK.cons (fun ρ a w hs hz hΓ hp => gp (d_move (hΓ 0 rfl))) (AOK.cons (fun ρ a w hs hz hΓ hp => gp (d_move (hΓ 5 rfl))) (AOK.cons (fun ρ a w hs hz hΓ hp => gp (d_idxR u125 y169 (hp 0 _ rfl rfl).1 (hp 1 _ rfl rfl).1 e11)) (AOK.cons (fun ρ a w hs hz hΓ hp => gp (d_load y169 hs.le (hp 2 _ rfl rfl).1)) (AOK.cons (fun ρ a w hs hz hΓ hp => gp (d_move (hΓ 1 rfl))) (AOK.cons (fun ρ a w hs hz hΓ hp => gp (d_call fn170 hs.le mapA2 (c170 w _ _ hs.le e12 ((hp 3 _ rfl rfl).1) ((hp 4 _ rfl rfl).1)))) (AOK.cons (fun ρ a w hs hz hΓ hp => gp (d_assign (hp 5 _ rfl rfl).1)) AOK.nil rfl) rfl) rfl) rfl) rfl) rfl) rfl) (fun vs10 => ?_)
        refine T.nil ?_
        refine T.norm ?_
        refine T.seq ?_
        refine T.region mix 2 [24, 25] [0, 1] [(sp ((TI .i64).sv x23)), (sp (TB.sv (decide (x23 < 0))))] (by kernel_rfl) (AOK.cons (fun ρ a w hs hz hΓ hp => gp (d_move (hΓ 1 rfl))) (AOK.cons (fun ρ a w hs hz hΓ hp => gp (d_lss (hp 0 _ rfl rfl).1 (vI rfl))) AOK.nil rfl) rfl) (fun vs13 => ?_)
        refine T.nil ?_
        refine T.norm ?_
        refine T.cond (b := (decide (x23 < 0))) (fun _ _ h => h) (fun hc => ?_) (fun hc => ?_)
        · replace hu6 := iteT hu6 hc
          refine T.seq ?_
          refine T.region mix 1 [4] [0] [(sp ((TI .i64).sv (-1)))] (by kernel_rfl) (AOK.cons (fun ρ a w hs hz hΓ hp => gp (d_assign (vI rfl))) AOK.nil rfl) (fun vs14 => ?_)
          refine T.nil ?_
          refine T.norm ?_
          refine T.ret ?_
          obtain rfl := Option.some.inj hu6
          cases hn6
          obtain rfl := Option.some.inj hF
          refine T.fin0 fun ρ a w st => ?_
          exact ⟨_, results_one rfl rfl, (st.env 4)⟩
        · replace hu6 := iteF hu6 hc
          refine T.skip ?_
          refine T.fallX ?_
          refine T.norm ?_
          refine T.region mix 3 [16, 17, 5] [0, 1, 3] [(sp ((TI .i64).sv s5)), (sp ((TI .i64).sv (IntKind.i64.wrap (s5 + 1)))), (sp ((TI .i64).sv (IntKind.i64.wrap (s5 + 1))))] (by kernel_rfl) (AOK.cons (fun ρ a w hs hz hΓ hp => gp (d_move (hΓ 5 rfl))) (AOK.cons (fun ρ a w hs hz hΓ hp => gp (d_add (hp 0 _ rfl rfl).1 (vI rfl))) (AOK.cons (fun ρ a w hs hz hΓ hp => gp (d_assign (hp 1 _ rfl rfl).1)) AOK.nil rfl) rfl) rfl) (fun vs15 => ?_)
          refine T.nil ?_
          obtain rfl := Option.some.inj hu6
          exact T.again hn6 () (fun φ h => T.toh h ⟨fun _ _ h => h, fun _ _ h => h, fun _ _ h => h, trivial⟩ trivial)
      · replace hu6 := iteF hu6 hc
        refine T.exit ?_
        obtain rfl := Option.some.inj hu6
        repeat (first | refine T.passX ?_ | refine T.inX (by decide) ?_)
        refine T.hereX ?_
        exact T.toh (hk ((s1, s5), ()) (Eq.symm hn6)) ⟨fun _ _ h => h, trivial⟩ trivial

theorem c123 (w : World) (v0 v1 : Value) {σ : Heap} (hσ : σ.le (snap w)) {x0 : ((List (List Nat)) × (List (List Int)))} {x1 : Int} {r : Int} (hF : laws_szSolid x0 x1 = some r) (h0 : Y157.val σ v0 x0) (h1 : (TI .i64).val σ v1 x1) :
    Calls Try.prog 123 #[v0, v1] w (Ret [] w σ ((TI .i64).sv r) []) := by
  unfold laws_szSolid at hF
  refine start (args := [v0, v1]) Try.func123 rfl 18 rfl [] [(0, (Y157.sv x0)), (1, ((TI .i64).sv x1))] [] (sat_start _ hσ) rfl (args1 rfl h0 (args1 rfl h1 (args0))) ?_
  refine T.seq ?_
  refine T.region mix 2 [2, 4] [0, 0] [(sp ((TP Y157).sv x0)), (sp ((TI .i64).sv 0))] (by kernel_rfl) (AOK.cons (fun ρ a w hs hz hΓ hp => gp (d_box hs.le (hΓ 0 rfl))) (AOK.cons (fun ρ a w hs hz hΓ hp => gp (d_assign (vI rfl))) AOK.nil rfl) rfl) (fun vs1 => ?_)
  refine T.nil ?_
  refine T.norm ?_
  refine T.seq ?_
  obtain ⟨x8, e3, hF⟩ := bindS hF
  refine T.region mix 5 [5, 6, 7, 8, 1] [0, 1, 0, 7, 15] [(sp ((TP Y156).sv x0.1)), (sp (Y156.sv x0.1)), (sp ((TI .i64).sv x1)), (sp ((TI .i64).sv x8)), (sp ((TI .i64).sv x8))] (by kernel_rfl) (AOK.cons (fun ρ a w hs hz hΓ hp => gp (d_fieldP fa158_0 (hΓ 2 rfl) (At.fst (At.refl _ _)))) (AOK.cons (fun ρ a w hs hz hΓ hp => gp (d_load y156 hs.le (hp 0 _ rfl rfl).1)) (AOK.cons (fun ρ a w hs hz hΓ hp => gp (d_move (hΓ 1 rfl))) (AOK.cons (fun ρ a w hs hz hΓ hp => gp (d_call fn147 hs.le mapA2 (c147 w _ _ hs.le e3 ((hp 1 _ rfl rfl).1) ((hp 2 _ rfl rfl).1)))) (AOK.cons (fun ρ a w hs hz hΓ hp => gp (d_assign (hp 3 _ rfl rfl).1)) AOK.nil rfl) rfl) rfl) rfl) rfl) (fun vs2 => ?_)
  refine T.nil ?_
  refine T.norm ?_
  refine T.seq ?_
  refine T.seq ?_
  refine T.region mix 2 [9, 10] [0, 1] [(sp ((TI .i64).sv x8)), (sp (TB.sv (decide (x8 < 0))))] (by kernel_rfl) (AOK.cons (fun ρ a w hs hz hΓ hp => gp (d_move (hΓ 1 rfl))) (AOK.cons (fun ρ a w hs hz hΓ hp => gp (d_lss (hp 0 _ rfl rfl).1 (vI rfl))) AOK.nil rfl) rfl) (fun vs4 => ?_)
  refine T.nil ?_
  refine T.norm ?_
  refine T.cond (b := (decide (x8 < 0))) (fun _ _ h => h) (fun hc => ?_) (fun hc => ?_)
  · replace hF := iteT hF hc
    refine T.seq ?_
    refine T.region mix 1 [4] [0] [(sp ((TI .i64).sv (-1)))] (by kernel_rfl) (AOK.cons (fun ρ a w hs hz hΓ hp => gp (d_assign (vI rfl))) AOK.nil rfl) (fun vs5 => ?_)
    refine T.nil ?_
    refine T.norm ?_
    refine T.ret ?_
    obtain rfl := Option.some.inj hF
    refine T.fin0 fun ρ a w st => ?_
    exact ⟨_, results_one rfl rfl, (st.env 4)⟩
  · replace hF := iteF hF hc
    refine T.skip ?_
    refine T.norm ?_
    refine T.seq ?_
    obtain ⟨x14, e7, hF⟩ := bindS hF
    refine T.region mix 5 [11, 12, 13, 14, 1] [0, 1, 0, 7, 15] [(sp ((TP Y125).sv x0.2)), (sp (Y125.sv x0.2)), (sp ((TI .i64).sv x8)), (sp ((TI .i64).sv x14)), (sp ((TI .i64).sv x14))] (by kernel_rfl) (AOK.cons (fun ρ a w hs hz hΓ hp => gp (d_fieldP fa158_1 (hΓ 2 rfl) (At.snd (At.refl _ _)))) (AOK.cons (fun ρ a w hs hz hΓ hp => gp (d_load y125 hs.le (hp 0 _ rfl rfl).1)) (AOK.cons (fun ρ a w hs hz hΓ hp => gp (d_move (hΓ 1 rfl))) (AOK.cons (fun ρ a w hs hz hΓ hp => gp (d_call fn148 hs.le mapA2 (c148 w _ _ hs.le e7 ((hp 1 _ rfl rfl).1) ((hp 2 _ rfl rfl).1)))) (AOK.cons (fun ρ a w hs hz hΓ hp => gp (d_assign (hp 3 _ rfl rfl).1)) AOK.nil rfl) rfl) rfl) rfl) rfl) (fun vs6 => ?_)
    refine T.nil ?_
    refine T.norm ?_
    refine T.seq ?_
    refine T.seq ?_
    refine T.region mix 2 [15, 16] [0, 1] [(sp ((TI .i64).sv x14)), (sp (TB.sv (decide (x14 < 0))))] (by kernel_rfl) (AOK.cons (fun ρ a w hs hz hΓ hp => gp (d_move (hΓ 1 rfl))) (AOK.cons (fun ρ a w hs hz hΓ hp => gp (d_lss (hp 0 _ rfl rfl).1 (vI rfl))) AOK.nil rfl) rfl) (fun vs8 => ?_)
    refine T.nil ?_
    refine T.norm ?_
    refine T.cond (b := (decide (x14 < 0))) (fun _ _ h => h) (fun hc => ?_) (fun hc => ?_)
    · replace hF := iteT hF hc
      refine T.seq ?_
      refine T.region mix 1 [4] [0] [(sp ((TI .i64).sv (-1)))] (by kernel_rfl) (AOK.cons (fun ρ a w hs hz hΓ hp => gp (d_assign (vI rfl))) AOK.nil rfl) (fun vs9 => ?_)
      refine T.nil ?_
      refine T.norm ?_
      refine T.ret ?_
      obtain rfl := Option.some.inj hF
      refine T.fin0 fun ρ a w st => ?_
      exact ⟨_, results_one rfl rfl, (st.env 4)⟩
    · replace hF := iteF hF hc
      refine T.skip ?_
      refine T.norm ?_
      refine T.seq ?_
      refine T.region mix 2 [17, 4] [0, 1] [(sp ((TI .i64).sv x14)), (sp ((TI .i64).sv x14))] (by kernel_rfl) (AOK.cons (fun ρ a w hs hz hΓ hp => gp (d_move (hΓ 1 rfl))) (AOK.cons (fun ρ a w hs hz hΓ hp => gp (d_assign (hp 0 _ rfl rfl).1)) AOK.nil rfl) rfl) (fun vs10 => ?_)
      refine T.nil ?_
      refine T.norm ?_
      refine T.ret ?_
      obtain rfl := Option.some.inj hF
      refine T.fin0 fun ρ a w st => ?_
      exact ⟨_, results_one rfl rfl, (st.env 4)⟩

theorem c75 (w : World) (v0 v1 : Value) {σ : Heap} (hσ : σ.le (snap w)) {x0 : (List ((List (List Nat)) × (List (List Int))))} {x1 : Int} {r : Int} (hF : laws_szSolidS x0 x1 = some r) (h0 : Y58.val σ v0 x0) (h1 : (TI .i64).val σ v1 x1) :
    Calls Try.prog 75 #[v0, v1] w (Ret [] w σ ((TI .i64).sv r) []) := by
  unfold laws_szSolidS at hF
  refine start (args := [v0, v1]) Try.func75 rfl 27 rfl [] [(0, (Y58.sv x0)), (1, ((TI .i64).sv x1))] [] (sat_start _ hσ) rfl (args1 rfl h0 (args1 rfl h1 (args0))) ?_
  refine T.seq ?_
  refine T.region mix 1 [4] [0] [(sp ((TI .i64).sv 0))] (by kernel_rfl) (AOK.cons (fun ρ a w hs hz hΓ hp => gp (d_assign (vI rfl))) AOK.nil rfl) (fun vs1 => ?_)
  refine T.nil ?_
  refine T.norm ?_
  refine T.seq ?_
  refine T.region mix 5 [6, 7, 8, 9, 1] [0, 0, 2, 7, 15] [(sp ((TI .i64).sv x1)), (sp (Y58.sv x0)), (sp ((TI .i64).sv (x0.length : Int))), (sp ((TI .i64).sv (IntKind.i64.wrap (x1 - (x0.length : Int))))), (sp ((TI .i64).sv (IntKind.i64.wrap (x1 - (x0.length : Int)))))] (by kernel_rfl) (AOK.cons (fun ρ a w hs hz hΓ hp => gp (d_move (hΓ 1 rfl))) (AOK.cons (fun ρ a w hs hz hΓ hp => gp (d_move (hΓ 0 rfl))) (AOK.cons (fun ρ a w hs hz hΓ hp => gp (d_lenR u58 (hp 1 _ rfl rfl).1)) (AOK.cons (fun ρ a w hs hz hΓ hp => gp (d_sub (hp 0 _ rfl rfl).1 (hp 2 _ rfl rfl).1)) (AOK.cons (fun ρ a w hs hz hΓ hp => gp (d_assign (hp 3 _ rfl rfl).1)) AOK.nil rfl) rfl) rfl) rfl) rfl) (fun vs2 => ?_)
  refine T.nil ?_
  refine T.norm ?_
  refine T.seq ?_
  refine T.seq ?_
  refine T.region mix 2 [10, 11] [0, 1] [(sp ((TI .i64).sv (IntKind.i64.wrap (x1 - (x0.length : Int))))), (sp (TB.sv (decide ((IntKind.i64.wrap (x1 - (x0.length : Int))) < 0))))] (by kernel_rfl) (AOK.cons (fun ρ a w hs hz hΓ hp => gp (d_move (hΓ 1 rfl))) (AOK.cons (fun ρ a w hs hz hΓ hp => gp (d_lss (hp 0 _ rfl rfl).1 (vI rfl))) AOK.nil rfl) rfl) (fun vs3 => ?_)
  refine T.nil ?_
  refine T.norm ?_
  refine T.cond (b := (decide ((IntKind.i64.wrap (x1 - (x0.length : Int))) < 0))) (fun _ _ h => h) (fun hc => ?_) (fun hc => ?_)
  · replace hF := iteT hF hc
    refine T.seq ?_
    refine T.region mix 1 [4] [0] [(sp ((TI .i64).sv (-1)))] (by kernel_rfl) (AOK.cons (fun ρ a w hs hz hΓ hp => gp (d_assign (vI rfl))) AOK.nil rfl) (fun vs4 => ?_)
    refine T.nil ?_
    refine T.norm ?_
    refine T.ret ?_
    obtain rfl := Option.some.inj hF
    refine T.fin0 fun ρ a w st => ?_
    exact ⟨_, results_one rfl rfl, (st.env 4)⟩
  · replace hF := iteF hF hc
    refine T.skip ?_
    refine T.norm ?_
    refine T.seq ?_
    refine T.seq ?_
    refine T.region mix 1 [5] [0] [(sp ((TI .i64).sv 0))] (by kernel_rfl) (AOK.cons (fun ρ a w hs hz hΓ hp => gp (d_assign (vI rfl))) AOK.nil rfl) (fun vs5 => ?_)
    refine T.nil ?_
    refine T.norm ?_
    obtain ⟨yl6, e7, hF⟩ := bindS hF
    refine T.joinD (ι := (Int × Int) × (Unit)) (fun p => yl6 = .inl p.1) (Γ' := fun p => E [(1, ((TI .i64).sv p.1.1))]) (H' := fun p => HL []) (fun p hy => ?_) (fun hk => ?_)
    · obtain ⟨⟨o1, o5⟩, _⟩ := p
      cases hy
      refine T.norm ?_
      refine T.seq ?_
      refine T.region mix 2 [26, 4] [0, 1] [(sp ((TI .i64).sv o1)), (sp ((TI .i64).sv o1))] (by kernel_rfl) (AOK.cons (fun ρ a w hs hz hΓ hp => gp (d_move (hΓ 1 rfl))) (AOK.cons (fun ρ a w hs hz hΓ hp => gp (d_assign (hp 0 _ rfl rfl).1)) AOK.nil rfl) rfl) (fun vs8 => ?_)
      refine T.nil ?_
      refine T.norm ?_
      refine T.ret ?_
      obtain rfl := Option.some.inj hF
      refine T.fin0 fun ρ a w st => ?_
      exact ⟨_, results_one rfl rfl, (st.env 4)⟩
    · skip
      refine T.block ?_
      refine T.loop (f := laws_szSolidS_l1 x0) (σ := (Int × Int)) (Z := Unit) (fun s z => E [(0, (Y58.sv x0)), (1, ((TI .i64).sv s.1)), (5, ((TI .i64).sv s.2))]) (fun s z => HL []) e7 () (fun φ h => T.toh h ⟨fun _ _ h => h, fun _ _ h => h, fun _ _ h => h, trivial⟩ trivial) (fun k s z uu6 hu6 hn6 => ?_)
      obtain ⟨s1, s5⟩ := s
      dsimp only [laws_szSolidS_l1] at hu6
      refine T.seq ?_
      refine T.seq ?_
      refine T.region mix 4 [12, 13, 14, 15] [0, 0, 2, 7] [(sp ((TI .i64).sv s5)), (sp (Y58.sv x0)), (sp ((TI .i64).sv (x0.length : Int))), (sp (TB.sv (decide (s5 < (x0.length : Int)))))] (by kernel_rfl) (AOK.cons (fun ρ a w hs hz hΓ hp => gp (d_move (hΓ 5 rfl))) (AOK.cons (fun ρ a w hs hz hΓ hp => gp (d_move (hΓ 0 rfl))) (AOK.cons (fun ρ a w hs hz hΓ hp => gp (d_lenR u58 (hp 1 _ rfl rfl).1)) (AOK.cons (fun ρ a w hs hz hΓ hp => gp (d_lss (hp 0 _ rfl rfl).1 (hp 2 _ rfl rfl).1)) AOK.nil rfl) rfl) rfl) rfl) (fun vs9 => ?_)
      refine T.nil ?_
      refine T.norm ?_
      refine T.cond (b := (decide (s5 < (x0.length : Int)))) (fun _ _ h => h) (fun hc => ?_) (fun hc => ?_)
      · replace hu6 := iteT hu6 hc
        refine T.skip ?_
        refine T.norm ?_
        refine T.seq ?_
        refine T.block ?_
        refine T.seq ?_
        obtain ⟨x20, e11, hu6⟩ := bindS hu6
        obtain ⟨x23, e12, hu6⟩ := bindS hu6
        refine T.region mix 7 [18, 19, 20, 21, 22, 23, 1] [0, 0, 3, 7, 0, 31, 63] [(sp (Y58.sv x0)), (sp ((TI .i64).sv s5)), (sp ((TP Y157).sv x20)), (sp (Y157.sv x20)), (sp ((TI .i64).sv s1)), (sp ((TI .i64).sv x23)), (sp ((TI .i64).sv x23))] (by kernel_rfl) (AOK.cons (fun ρ a w hs hz hΓ hp => gp (d_move (hΓ 0 rfl))) (AOK.cons (fun ρ a w hs hz hΓ hp => gp (d_move (hΓ 5 rfl))) (AOK.cons (fun ρ a w hs hz hΓ hp => gp (d_idxR u58 y158 (hp 0 _ rfl rfl).1 (hp 1 _ rfl rfl).1 e11)) (AOK.cons (fun ρ a w hs hz hΓ hp => gp (d_load y158 hs.le (hp 2 _ rfl rfl).1)) (AOK.cons (fun ρ a w hs hz hΓ hp => gp (d_move (hΓ 1 rfl))) (AOK.cons (fun ρ a w hs hz hΓ hp => gp (d_call fn123 hs.le mapA2 (c123 w _ _ hs.le e12 ((hp 3 _ rfl rfl).1) ((hp 4 _ rfl rfl).1)))) (AOK.cons (fun ρ a w hs hz hΓ hp => gp (d_assign (hp 5 _ rfl rfl).1)) AOK.nil rfl) rfl) rfl) rfl) rfl) rfl) rfl) (fun vs10 => ?_)
        refine T.nil ?_
        refine T.norm ?_
        refine T.seq ?_
        refine T.region mix 2 [24, 25] [0, 1] [(sp ((TI .i64).sv x23)), (sp (TB.sv (decide (x23 < 0))))] (by kernel_rfl) (AOK.cons (fun ρ a w hs hz hΓ hp => gp (d_move (hΓ 1 rfl))) (AOK.cons (fun ρ a w hs hz hΓ hp => gp (d_lss (hp 0 _ rfl rfl).1 (vI rfl))) AOK.nil rfl) rfl) (fun vs13 => ?_)
        refine T.nil ?_
        refine T.norm ?_
        refine T.cond (b := (decide (x23 < 0))) (fun _ _ h => h) (fun hc => ?_) (fun hc => ?_)
        · replace hu6 := iteT hu6 hc
          refine T.seq ?_
          refine T.region mix 1 [4] [0] [(sp ((TI .i64).sv (-1)))] (by kernel_rfl) (AOK.cons (fun ρ a w hs hz hΓ hp => gp (d_assign (vI rfl))) AOK.nil rfl) (fun vs14 => ?_)
          refine T.nil ?_
          refine T.norm ?_
          refine T.ret ?_
          obtain rfl := Option.some.inj hu6
          cases hn6
          obtain rfl := Option.some.inj hF
          refine T.fin0 fun ρ a w st => ?_
          exact ⟨_, results_one rfl rfl, (st.env 4)⟩
        · replace hu6 := iteF hu6 hc
          refine T.skip ?_
          refine T.fallX ?_
          refine T.norm ?_
          refine T.region mix 3 [16, 17, 5] [0, 1, 3] [(sp ((TI .i64).sv s5)), (sp ((TI .i64).sv (IntKind.i64.wrap (s5 + 1)))), (sp ((TI .i64).sv (IntKind.i64.wrap (s5 + 1))))] (by kernel_rfl) (AOK.cons (fun ρ a w hs hz hΓ hp => gp (d_move (hΓ 5 rfl))) (AOK.cons (fun ρ a w hs hz hΓ hp => gp (d_add (hp 0 _ rfl rfl).1 (vI rfl))) (AOK.cons (fun ρ a w hs hz hΓ hp => gp (d_assign (hp 1 _ rfl rfl).1)) AOK.nil rfl) rfl) rfl) (fun vs15 => ?_)
          refine T.nil ?_
          obtain rfl := Option.some.inj hu6
          exact T.again hn6 () (fun φ h => T.toh h ⟨fun _ _ h => h, fun _ _ h => h, fun _ _ h => h, trivial⟩ trivial)
      · replace hu6 := iteF hu6 hc
        refine T.exit ?_
        obtain rfl := Option.some.inj hu6
        repeat (first | refine T.passX ?_ | refine T.inX (by decide) ?_)
        refine T.hereX ?_
        exact T.toh (hk ((s1, s5), ()) (Eq.symm hn6)) ⟨fun _ _ h => h, trivial⟩ trivial

theorem c30 (w : World) (v0 v1 : Value) {σ : Heap} (hσ : σ.le (snap w)) {x0 : (((List Nat) × (List Nat) × (List Nat) × Nat × Nat) × (List ((List (List Nat)) × (List (List Int)))))} {x1 : Int} {r : Int} (hF : laws_szScene x0 x1 = some r) (h0 : Y59.val σ v0 x0) (h1 : (TI .i64).val σ v1 x1) :
    Calls Try.prog 30 #[v0, v1] w (Ret [] w σ ((TI .i64).sv r) []) := by
  unfold laws_szScene at hF
  refine start (args := [v0, v1]) Try.func30 rfl 12 rfl [] [(0, (Y59.sv x0)), (1, ((TI .i64).sv x1))] [] (sat_start _ hσ) rfl (args1 rfl h0 (args1 rfl h1 (args0))) ?_
  refine T.seq ?_
  refine T.region mix 2 [2, 4] [0, 0] [(sp ((TP Y59).sv x0)), (sp ((TI .i64).sv 0))] (by kernel_rfl) (AOK.cons (fun ρ a w hs hz hΓ hp => gp (d_box hs.le (hΓ 0 rfl))) (AOK.cons (fun ρ a w hs hz hΓ hp => gp (d_assign (vI rfl))) AOK.nil rfl) rfl) (fun vs1 => ?_)
  refine T.nil ?_
  refine T.norm ?_
  refine T.seq ?_
  obtain ⟨x8, e3, hF⟩ := bindS hF
  refine T.region mix 5 [5, 6, 7, 8, 1] [0, 1, 0, 7, 15] [(sp ((TP Y58).sv x0.2)), (sp (Y58.sv x0.2)), (sp ((TI .i64).sv x1)), (sp ((TI .i64).sv x8)), (sp ((TI .i64).sv x8))] (by kernel_rfl) (AOK.cons (fun ρ a w hs hz hΓ hp => gp (d_fieldP fa60_1 (hΓ 2 rfl) (At.snd (At.refl _ _)))) (AOK.cons (fun ρ a w hs hz hΓ hp => gp (d_load y58 hs.le (hp 0 _ rfl rfl).1)) (AOK.cons (fun ρ a w hs hz hΓ hp => gp (d_move (hΓ 1 rfl))) (AOK.cons (fun ρ a w hs hz hΓ hp => gp (d_call fn75 hs.le mapA2 (c75 w _ _ hs.le e3 ((hp 1 _ rfl rfl).1) ((hp 2 _ rfl rfl).1)))) (AOK.cons (fun ρ a w hs hz hΓ hp => gp (d_assign (hp 3 _ rfl rfl).1)) AOK.nil rfl) rfl) rfl) rfl) rfl) (fun vs2 => ?_)
  refine T.nil ?_
  refine T.norm ?_
  refine T.seq ?_
  refine T.seq ?_
  refine T.region mix 2 [9, 10] [0, 1] [(sp ((TI .i64).sv x8)), (sp (TB.sv (decide (x8 < 0))))] (by kernel_rfl) (AOK.cons (fun ρ a w hs hz hΓ hp => gp (d_move (hΓ 1 rfl))) (AOK.cons (fun ρ a w hs hz hΓ hp => gp (d_lss (hp 0 _ rfl rfl).1 (vI rfl))) AOK.nil rfl) rfl) (fun vs4 => ?_)
  refine T.nil ?_
  refine T.norm ?_
  refine T.cond (b := (decide (x8 < 0))) (fun _ _ h => h) (fun hc => ?_) (fun hc => ?_)
  · replace hF := iteT hF hc
    refine T.seq ?_
    refine T.region mix 1 [4] [0] [(sp ((TI .i64).sv (-1)))] (by kernel_rfl) (AOK.cons (fun ρ a w hs hz hΓ hp => gp (d_assign (vI rfl))) AOK.nil rfl) (fun vs5 => ?_)
    refine T.nil ?_
    refine T.norm ?_
    refine T.ret ?_
    obtain rfl := Option.some.inj hF
    refine T.fin0 fun ρ a w st => ?_
    exact ⟨_, results_one rfl rfl, (st.env 4)⟩
  · replace hF := iteF hF hc
    refine T.skip ?_
    refine T.norm ?_
    refine T.seq ?_
    refine T.region mix 2 [11, 4] [0, 1] [(sp ((TI .i64).sv x8)), (sp ((TI .i64).sv x8))] (by kernel_rfl) (AOK.cons (fun ρ a w hs hz hΓ hp => gp (d_move (hΓ 1 rfl))) (AOK.cons (fun ρ a w hs hz hΓ hp => gp (d_assign (hp 0 _ rfl rfl).1)) AOK.nil rfl) rfl) (fun vs6 => ?_)
    refine T.nil ?_
    refine T.norm ?_
    refine T.ret ?_
    obtain rfl := Option.some.inj hF
    refine T.fin0 fun ρ a w st => ?_
    exact ⟨_, results_one rfl rfl, (st.env 4)⟩

theorem c126 (w : World) (v0 : Value) {σ : Heap} (hσ : σ.le (snap w)) {x0 : (List Nat)} {r : (List Nat)} (hF : laws_toPoint x0 = some r) (h0 : Y55.val σ v0 x0) :
    Calls Try.prog 126 #[v0] w (Ret [] w σ (Y55.sv r) []) := by
  unfold laws_toPoint at hF
  refine start (args := [v0]) Try.func126 rfl 15 rfl [] [(0, (Y55.sv x0))] [] (sat_start _ hσ) rfl (args1 rfl h0 (args0)) ?_
  refine T.seq ?_
  refine T.region mix 2 [1, 2] [0, 0] [(sp ((TP Y55).sv x0)), (sO SRel.any [(1, (boxR 63 Y55 (List.replicate 3 0)))])] (by kernel_rfl) (AOK.cons (fun ρ a w hs hz hΓ hp => gp (d_box hs.le (hΓ 0 rfl))) (AOK.cons (fun ρ a w hs hz hΓ hp => g_alloc hs.le z63 zc63) AOK.nil rfl) rfl) (fun vs1 => ?_)
  refine T.nil ?_
  refine T.norm ?_
  refine T.seq ?_
  refine T.region mix 1 [3] [0] [(sO SRel.any [(2, (boxR 63 Y55 (List.replicate 3 0)))])] (by kernel_rfl) (AOK.cons (fun ρ a w hs hz hΓ hp => g_alloc hs.le z63 zc63) AOK.nil rfl) (fun vs2 => ?_)
  refine T.nil ?_
  refine T.norm ?_
  refine T.seq ?_
  refine T.seq ?_
  refine T.region mix 1 [4] [0] [(sp ((TI .i64).sv 0))] (by kernel_rfl) (AOK.cons (fun ρ a w hs hz hΓ hp => gp (d_assign (vI rfl))) AOK.nil rfl) (fun vs3 => ?_)
  refine T.nil ?_
  refine T.norm ?_
  obtain ⟨yl4, e5, hF⟩ := bindS hF
  refine T.joinD (ι := (Int × (List Nat)) × (Unit)) (fun p => yl4 = p.1) (Γ' := fun p => E [(2, (SRel.eq (vs1 1))), (3, (SRel.eq (vs2 0)))]) (H' := fun p => HL [(1, (boxR 63 Y55 (List.replicate 3 0) (vs1 1))), (2, (boxR 63 Y55 p.1.2 (vs2 0)))]) (fun p hy => ?_) (fun hk => ?_)
  · obtain ⟨⟨o4, or2⟩, _⟩ := p
    cases hy
    refine T.norm ?_
    refine T.seq ?_
    refine T.region mix 1 [14] [0, 1] [(sp (Y55.sv or2))] (by kernel_rfl) (AOK.cons (fun ρ a w hs hz hΓ hp => gp (d_loadO y63 hs 2 rfl (.inl ⟨(hΓ 3 rfl), rfl⟩) (At.refl Y55 or2))) AOK.nil rfl) (fun vs6 => ?_)
    refine T.store 1 y63 rfl (fun ρ a w st => ⟨.inl ⟨(st.env 2), rfl⟩, (st.env 14)⟩) (At.refl Y55 (List.replicate 3 0)) ?_
    refine T.nil ?_
    refine T.norm ?_
    refine T.ret ?_
    obtain rfl := Option.some.inj hF
    refine T.fin0 fun ρ a w st => ?_
    obtain ⟨q0, hr0, hv0⟩ := rv_cell y63 st.sat 1 rfl (st.env 2)
    exact ⟨_, results_one rfl hr0, hv0⟩
  · skip
    refine T.block ?_
    refine T.loop (f := laws_toPoint_l1 x0) (σ := (Int × (List Nat))) (Z := Unit) (fun s z => E [(1, ((TP Y55).sv x0)), (2, (SRel.eq (vs1 1))), (3, (SRel.eq (vs2 0))), (4, ((TI .i64).sv s.1))]) (fun s z => HL [(1, (boxR 63 Y55 (List.replicate 3 0) (vs1 1))), (2, (boxR 63 Y55 s.2 (vs2 0)))]) e5 () (fun φ h => T.toh h ⟨fun _ _ h => h, fun _ _ h => h.1, fun _ _ h => h.1, fun _ _ h => h, trivial⟩ ⟨rfl, rfl, trivial⟩) (fun k s z uu4 hu4 hn4 => ?_)
    obtain ⟨s4, sr2⟩ := s
    dsimp only [laws_toPoint_l1] at hu4
    refine T.seq ?_
    refine T.seq ?_
    refine T.region mix 2 [5, 6] [0, 1] [(sp ((TI .i64).sv s4)), (sp (TB.sv (decide (s4 < 3))))] (by kernel_rfl) (AOK.cons (fun ρ a w hs hz hΓ hp => gp (d_move (hΓ 4 rfl))) (AOK.cons (fun ρ a w hs hz hΓ hp => gp (d_lss (hp 0 _ rfl rfl).1 (vI rfl))) AOK.nil rfl) rfl) (fun vs7 => ?_)
    refine T.nil ?_
    refine T.norm ?_
    refine T.cond (b := (decide (s4 < 3))) (fun _ _ h => h) (fun hc => ?_) (fun hc => ?_)
    · replace hu4 := iteT hu4 hc
      refine T.skip ?_
      refine T.norm ?_
      refine T.seq ?_
      refine T.block ?_
      obtain ⟨x11, e9, hu4⟩ := bindS hu4
      obtain ⟨x13, e10, hu4⟩ := bindS hu4
      refine T.region mix 5 [9, 10, 11, 12, 13] [0, 0, 2, 6, 15, 31] [(sp ((TI .i64).sv s4)), (sp ((TI .i64).sv s4)), (sp ((TP (TF .f32)).sv x11)), (sp ((TF .f32).sv x11)), (sp (SRel.eq (at_ (vs2 0) (0 + s4.toNat * (TF .f32).n))))] (by kernel_rfl) (AOK.cons (fun ρ a w hs hz hΓ hp => gp (d_move (hΓ 4 rfl))) (AOK.cons (fun ρ a w hs hz hΓ hp => gp (d_move (hΓ 4 rfl))) (AOK.cons (fun ρ a w hs hz hΓ hp => gp (d_idxP u55 y54 (hΓ 1 rfl) (hp 1 _ rfl rfl).1 e9)) (AOK.cons (fun ρ a w hs hz hΓ hp => gp (d_load y54 hs.le (hp 2 _ rfl rfl).1)) (AOK.cons (fun ρ a w hs hz hΓ hp => gp (d_idxO u63 y54 hs 2 rfl (.inl ⟨(hΓ 3 rfl), rfl⟩) (At.refl Y55 sr2) (hp 0 _ rfl rfl).1 e10)) AOK.nil rfl) rfl) rfl) rfl) rfl) (fun vs8 => ?_)
      refine T.store 2 y54 rfl (fun ρ a w st => ⟨.inr (st.env 13), (st.env 12)⟩) (At.elem (At.refl Y55 sr2) (idx_get e10).2) ?_
      refine T.nil ?_
      refine T.fallX ?_
      refine T.norm ?_
      refine T.region mix 3 [7, 8, 4] [0, 1, 3] [(sp ((TI .i64).sv s4)), (sp ((TI .i64).sv (IntKind.i64.wrap (s4 + 1)))), (sp ((TI .i64).sv (IntKind.i64.wrap (s4 + 1))))] (by kernel_rfl) (AOK.cons (fun ρ a w hs hz hΓ hp => gp (d_move (hΓ 4 rfl))) (AOK.cons (fun ρ a w hs hz hΓ hp => gp (d_add (hp 0 _ rfl rfl).1 (vI rfl))) (AOK.cons (fun ρ a w hs hz hΓ hp => gp (d_assign (hp 1 _ rfl rfl).1)) AOK.nil rfl) rfl) rfl) (fun vs11 => ?_)
      refine T.nil ?_
      obtain rfl := Option.some.inj hu4
      exact T.again hn4 () (fun φ h => T.toh h ⟨fun _ _ h => h, fun _ _ h => h, fun _ _ h => h, fun _ _ h => h, trivial⟩ ⟨rfl, rfl, trivial⟩)
    · replace hu4 := iteF hu4 hc
      refine T.exit ?_
      obtain rfl := Option.some.inj hu4
      repeat (first | refine T.passX ?_ | refine T.inX (by decide) ?_)
      refine T.hereX ?_
      exact T.toh (hk ((s4, sr2), ()) (Eq.symm hn4)) ⟨fun _ _ h => h, fun _ _ h => h, trivial⟩ ⟨rfl, rfl, trivial⟩

theorem c77 (w : World) (v0 : Value) {σ : Heap} (hσ : σ.le (snap w)) {x0 : ((List Nat) × (List Nat) × (List Nat) × Nat × Nat)} {r : ((List Nat) × (List Nat) × (List Nat) × Nat × Nat)} (hF : laws_toCamera x0 = some r) (h0 : Y56.val σ v0 x0) :
    Calls Try.prog 77 #[v0] w (Ret [] w σ (Y56.sv r) []) := by
  unfold laws_toCamera at hF
  refine start (args := [v0]) Try.func77 rfl 23 rfl [] [(0, (Y56.sv x0))] [] (sat_start _ hσ) rfl (args1 rfl h0 (args0)) ?_
  refine T.seq ?_
  refine T.region mix 2 [1, 2] [0, 0] [(sp ((TP Y56).sv x0)), (sO SRel.any [(1, (boxR 65 Y56 ((List.replicate 3 0), (List.replicate 3 0), (List.replicate 3 0), 0, 0)))])] (by kernel_rfl) (AOK.cons (fun ρ a w hs hz hΓ hp => gp (d_box hs.le (hΓ 0 rfl))) (AOK.cons (fun ρ a w hs hz hΓ hp => g_alloc hs.le z65 zc65) AOK.nil rfl) rfl) (fun vs1 => ?_)
  refine T.nil ?_
  refine T.norm ?_
  refine T.seq ?_
  refine T.region mix 1 [3] [0] [(sO SRel.any [(2, (boxR 65 Y56 ((List.replicate 3 0), (List.replicate 3 0), (List.replicate 3 0), 0, 0)))])] (by kernel_rfl) (AOK.cons (fun ρ a w hs hz hΓ hp => g_alloc hs.le z65 zc65) AOK.nil rfl) (fun vs2 => ?_)
  refine T.nil ?_
  refine T.norm ?_
  refine T.seq ?_
  obtain ⟨x6, e4, hF⟩ := bindS hF
  refine T.region mix 4 [4, 5, 6, 7] [0, 1, 3, 7, 15] [(sp ((TP Y55).sv x0.1)), (sp (Y55.sv x0.1)), (sp (Y55.sv x6)), (sp (SRel.eq (at_ (vs2 0) (0 + 0))))] (by kernel_rfl) (AOK.cons (fun ρ a w hs hz hΓ hp => gp (d_fieldP fa57_0 (hΓ 1 rfl) (At.fst (At.refl _ _)))) (AOK.cons (fun ρ a w hs hz hΓ hp => gp (d_load y55 hs.le (hp 0 _ rfl rfl).1)) (AOK.cons (fun ρ a w hs hz hΓ hp => gp (d_call fn126 hs.le mapA1 (c126 w _ hs.le e4 ((hp 1 _ rfl rfl).1)))) (AOK.cons (fun ρ a w hs hz hΓ hp => gp (d_fieldO fa65_0 hs 2 rfl (.inl ⟨(hΓ 3 rfl).1, rfl⟩))) AOK.nil rfl) rfl) rfl) rfl) (fun vs3 => ?_)
  refine T.store 2 y63 rfl (fun ρ a w st => ⟨.inr (st.env 7), (st.env 6)⟩) (At.fst (At.refl Y56 ((List.replicate 3 0), (List.replicate 3 0), (List.replicate 3 0), 0, 0))) ?_
  refine T.nil ?_
  refine T.norm ?_
  refine T.seq ?_
  obtain ⟨x10, e6, hF⟩ := bindS hF
  refine T.region mix 4 [8, 9, 10, 11] [0, 1, 3, 7, 15] [(sp ((TP Y55).sv x0.2.1)), (sp (Y55.sv x0.2.1)), (sp (Y55.sv x10)), (sp (SRel.eq (at_ (vs2 0) (0 + 3))))] (by kernel_rfl) (AOK.cons (fun ρ a w hs hz hΓ hp => gp (d_fieldP fa57_1 (hΓ 1 rfl) (At.fst (At.snd (At.refl _ _))))) (AOK.cons (fun ρ a w hs hz hΓ hp => gp (d_load y55 hs.le (hp 0 _ rfl rfl).1)) (AOK.cons (fun ρ a w hs hz hΓ hp => gp (d_call fn126 hs.le mapA1 (c126 w _ hs.le e6 ((hp 1 _ rfl rfl).1)))) (AOK.cons (fun ρ a w hs hz hΓ hp => gp (d_fieldO fa65_1 hs 2 rfl (.inl ⟨(hΓ 3 rfl).1, rfl⟩))) AOK.nil rfl) rfl) rfl) rfl) (fun vs5 => ?_)
  refine T.store 2 y63 rfl (fun ρ a w st => ⟨.inr (st.env 11), (st.env 10)⟩) (At.fst (At.snd (At.refl Y56 (x6, (List.replicate 3 0), (List.replicate 3 0), 0, 0)))) ?_
  refine T.nil ?_
  refine T.norm ?_
  refine T.seq ?_
  obtain ⟨x14, e8, hF⟩ := bindS hF
  refine T.region mix 4 [12, 13, 14, 15] [0, 1, 3, 7, 15] [(sp ((TP Y55).sv x0.2.2.1)), (sp (Y55.sv x0.2.2.1)), (sp (Y55.sv x14)), (sp (SRel.eq (at_ (vs2 0) (0 + 6))))] (by kernel_rfl) (AOK.cons (fun ρ a w hs hz hΓ hp => gp (d_fieldP fa57_2 (hΓ 1 rfl) (At.fst (At.snd (At.snd (At.refl _ _)))))) (AOK.cons (fun ρ a w hs hz hΓ hp => gp (d_load y55 hs.le (hp 0 _ rfl rfl).1)) (AOK.cons (fun ρ a w hs hz hΓ hp => gp (d_call fn126 hs.le mapA1 (c126 w _ hs.le e8 ((hp 1 _ rfl rfl).1)))) (AOK.cons (fun ρ a w hs hz hΓ hp => gp (d_fieldO fa65_2 hs 2 rfl (.inl ⟨(hΓ 3 rfl).1, rfl⟩))) AOK.nil rfl) rfl) rfl) rfl) (fun vs7 => ?_)
  refine T.store 2 y63 rfl (fun ρ a w st => ⟨.inr (st.env 15), (st.env 14)⟩) (At.fst (At.snd (At.snd (At.refl Y56 (x6, x10, (List.replicate 3 0), 0, 0))))) ?_
  refine T.nil ?_
  refine T.norm ?_
  refine T.seq ?_
  refine T.region mix 3 [16, 17, 18] [0, 1, 3, 7] [(sp ((TP (TF .f32)).sv x0.2.2.2.1)), (sp ((TF .f32).sv x0.2.2.2.1)), (sp (SRel.eq (at_ (vs2 0) (0 + 9))))] (by kernel_rfl) (AOK.cons (fun ρ a w hs hz hΓ hp => gp (d_fieldP fa57_3 (hΓ 1 rfl) (At.fst (At.snd (At.snd (At.snd (At.refl _ _))))))) (AOK.cons (fun ρ a w hs hz hΓ hp => gp (d_load y54 hs.le (hp 0 _ rfl rfl).1)) (AOK.cons (fun ρ a w hs hz hΓ hp => gp (d_fieldO fa65_3 hs 2 rfl (.inl ⟨(hΓ 3 rfl).1, rfl⟩))) AOK.nil rfl) rfl) rfl) (fun vs9 => ?_)
  refine T.store 2 y54 rfl (fun ρ a w st => ⟨.inr (st.env 18), (st.env 17)⟩) (At.fst (At.snd (At.snd (At.snd (At.refl Y56 (x6, x10, x14, 0, 0)))))) ?_
  refine T.nil ?_
  refine T.norm ?_
  refine T.seq ?_
  refine T.region mix 3 [19, 20, 21] [0, 1, 3, 7] [(sp ((TP (TF .f32)).sv x0.2.2.2.2)), (sp ((TF .f32).sv x0.2.2.2.2)), (sp (SRel.eq (at_ (vs2 0) (0 + 10))))] (by kernel_rfl) (AOK.cons (fun ρ a w hs hz hΓ hp => gp (d_fieldP fa57_4 (hΓ 1 rfl) (At.snd (At.snd (At.snd (At.snd (At.refl _ _))))))) (AOK.cons (fun ρ a w hs hz hΓ hp => gp (d_load y54 hs.le (hp 0 _ rfl rfl).1)) (AOK.cons (fun ρ a w hs hz hΓ hp => gp (d_fieldO fa65_4 hs 2 rfl (.inl ⟨(hΓ 3 rfl).1, rfl⟩))) AOK.nil rfl) rfl) rfl) (fun vs10 => ?_)
  refine T.store 2 y54 rfl (fun ρ a w st => ⟨.inr (st.env 21), (st.env 20)⟩) (At.snd (At.snd (At.snd (At.snd (At.refl Y56 (x6, x10, x14, x0.2.2.2.1, 0)))))) ?_
  refine T.nil ?_
  refine T.norm ?_
  refine T.seq ?_
  refine T.region mix 1 [22] [0, 1] [(sp (Y56.sv (x6, x10, x14, x0.2.2.2.1, x0.2.2.2.2)))] (by kernel_rfl) (AOK.cons (fun ρ a w hs hz hΓ hp => gp (d_loadO y65 hs 2 rfl (.inl ⟨(hΓ 3 rfl).1, rfl⟩) (At.refl Y56 (x6, x10, x14, x0.2.2.2.1, x0.2.2.2.2)))) AOK.nil rfl) (fun vs11 => ?_)
  refine T.store 1 y65 rfl (fun ρ a w st => ⟨.inl ⟨(st.env 2).1, rfl⟩, (st.env 22)⟩) (At.refl Y56 ((List.replicate 3 0), (List.replicate 3 0), (List.replicate 3 0), 0, 0)) ?_
  refine T.nil ?_
  refine T.norm ?_
  refine T.ret ?_
  obtain rfl := Option.some.inj hF
  refine T.fin0 fun ρ a w st => ?_
  obtain ⟨q0, hr0, hv0⟩ := rv_cell y65 st.sat 1 rfl (st.env 2).1
  exact ⟨_, results_one rfl hr0, hv0⟩

theorem c152 (w : World) (v0 : Value) {σ : Heap} (hσ : σ.le (snap w)) {x0 : (List (List Nat))} {r : (List (List Nat))} (hF : laws_toPointS x0 = some r) (h0 : Y156.val σ v0 x0) :
    Calls Try.prog 152 #[v0] w (Ret [] w σ SRel.any [slR 63 Y55 r]) := by
  unfold laws_toPointS at hF
  refine start (args := [v0]) Try.func152 rfl 23 rfl [] [(0, (Y156.sv x0))] [] (sat_start _ hσ) rfl (args1 rfl h0 (args0)) ?_
  refine T.seq ?_
  refine T.region mix 1 [2] [0] [(sO SRel.any [(1, (slR 63 Y55 []))])] (by kernel_rfl) (AOK.cons (fun ρ a w hs hz hΓ hp => g_nilSl) AOK.nil rfl) (fun vs1 => ?_)
  refine T.nil ?_
  refine T.norm ?_
  refine T.seq ?_
  obtain ⟨_u7, e3, hF⟩ := bindS hF
  refine T.region mix 4 [5, 6, 7, 3] [0, 1, 3, 7] [(sp (Y156.sv x0)), (sp ((TI .i64).sv (x0.length : Int))), (sO SRel.any [(2, (slR 63 Y55 (List.replicate (x0.length : Int).toNat (List.replicate 3 0))))]), (al 2 (id))] (by kernel_rfl) (AOK.cons (fun ρ a w hs hz hΓ hp => gp (d_move (hΓ 0 rfl))) (AOK.cons (fun ρ a w hs hz hΓ hp => gp (d_lenR u156 (hp 0 _ rfl rfl).1)) (AOK.cons (fun ρ a w hs hz hΓ hp => g_makeSl hs.le u124 i63 rfl zc63 (hp 1 _ rfl rfl).1 (hp 1 _ rfl rfl).1 (need_get e3)) (AOK.cons (fun ρ a w hs hz hΓ hp => al_assign rfl) AOK.nil rfl) rfl) rfl) rfl) (fun vs2 => ?_)
  refine T.nil ?_
  refine T.norm ?_
  refine T.seq ?_
  refine T.seq ?_
  refine T.region mix 1 [4] [0] [(sp ((TI .i64).sv 0))] (by kernel_rfl) (AOK.cons (fun ρ a w hs hz hΓ hp => gp (d_assign (vI rfl))) AOK.nil rfl) (fun vs4 => ?_)
  refine T.nil ?_
  refine T.norm ?_
  obtain ⟨yl5, e6, hF⟩ := bindS hF
  refine T.joinD (ι := (Int × (List (List Nat))) × (Unit)) (fun p => yl5 = p.1) (Γ' := fun p => E [(3, (SRel.eq (vs2 2)))]) (H' := fun p => HL [(2, (slR 63 Y55 p.1.2 (vs2 2)))]) (fun p hy => ?_) (fun hk => ?_)
  · obtain ⟨⟨o4, or2⟩, _⟩ := p
    cases hy
    refine T.norm ?_
    refine T.seq ?_
    refine T.region mix 2 [22, 2] [0, 1] [(sp (SRel.eq (vs2 2))), (sp (SRel.eq (vs2 2)))] (by kernel_rfl) (AOK.cons (fun ρ a w hs hz hΓ hp => gp (d_move (hΓ 3 rfl))) (AOK.cons (fun ρ a w hs hz hΓ hp => gp (d_assign (hp 0 _ rfl rfl).1)) AOK.nil rfl) rfl) (fun vs7 => ?_)
    refine T.nil ?_
    refine T.norm ?_
    refine T.ret ?_
    obtain rfl := Option.some.inj hF
    refine T.fin fun ρ a w st => ?_
    exact ⟨_, results_one rfl rfl, trivial, own1 (own_at (id := 2) (st.env 2) rfl), List.pairwise_singleton _ _⟩
  · skip
    refine T.block ?_
    refine T.loop (f := laws_toPointS_l1 x0) (σ := (Int × (List (List Nat)))) (Z := Unit) (fun s z => E [(0, (Y156.sv x0)), (3, (SRel.eq (vs2 2))), (4, ((TI .i64).sv s.1))]) (fun s z => HL [(2, (slR 63 Y55 s.2 (vs2 2)))]) e6 () (fun φ h => T.toh h ⟨fun _ _ h => h, fun _ _ h => h, fun _ _ h => h, trivial⟩ ⟨rfl, trivial⟩) (fun k s z uu5 hu5 hn5 => ?_)
    obtain ⟨s4, sr2⟩ := s
    dsimp only [laws_toPointS_l1] at hu5
    refine T.seq ?_
    refine T.seq ?_
    refine T.region mix 4 [8, 9, 10, 11] [0, 0, 2, 7] [(sp ((TI .i64).sv s4)), (sp (Y156.sv x0)), (sp ((TI .i64).sv (x0.length : Int))), (sp (TB.sv (decide (s4 < (x0.length : Int)))))] (by kernel_rfl) (AOK.cons (fun ρ a w hs hz hΓ hp => gp (d_move (hΓ 4 rfl))) (AOK.cons (fun ρ a w hs hz hΓ hp => gp (d_move (hΓ 0 rfl))) (AOK.cons (fun ρ a w hs hz hΓ hp => gp (d_lenR u156 (hp 1 _ rfl rfl).1)) (AOK.cons (fun ρ a w hs hz hΓ hp => gp (d_lss (hp 0 _ rfl rfl).1 (hp 2 _ rfl rfl).1)) AOK.nil rfl) rfl) rfl) rfl) (fun vs8 => ?_)
    refine T.nil ?_
    refine T.norm ?_
    refine T.cond (b := (decide (s4 < (x0.length : Int)))) (fun _ _ h => h) (fun hc => ?_) (fun hc => ?_)
    · replace hu5 := iteT hu5 hc
      refine T.skip ?_
      refine T.norm ?_
      refine T.seq ?_
      refine T.block ?_
      obtain ⟨x18, e10, hu5⟩ := bindS hu5
      obtain ⟨x20, e11, hu5⟩ := bindS hu5
      obtain ⟨x21, e12, hu5⟩ := bindS hu5
      refine T.region mix 8 [14, 15, 16, 17, 18, 19, 20, 21] [0, 0, 0, 0, 12, 28, 60, 127, 255] [(sp (SRel.eq (vs2 2))), (sp ((TI .i64).sv s4)), (sp (Y156.sv x0)), (sp ((TI .i64).sv s4)), (sp ((TP Y55).sv x18)), (sp (Y55.sv x18)), (sp (Y55.sv x20)), (sp (SRel.eq (at_ (vs2 2) (s4.toNat * Y55.n + 0))))] (by kernel_rfl) (AOK.cons (fun ρ a w hs hz hΓ hp => gp (d_move (hΓ 3 rfl))) (AOK.cons (fun ρ a w hs hz hΓ hp => gp (d_move (hΓ 4 rfl))) (AOK.cons (fun ρ a w hs hz hΓ hp => gp (d_move (hΓ 0 rfl))) (AOK.cons (fun ρ a w hs hz hΓ hp => gp (d_move (hΓ 4 rfl))) (AOK.cons (fun ρ a w hs hz hΓ hp => gp (d_idxR u156 y55 (hp 2 _ rfl rfl).1 (hp 3 _ rfl rfl).1 e10)) (AOK.cons (fun ρ a w hs hz hΓ hp => gp (d_load y55 hs.le (hp 4 _ rfl rfl).1)) (AOK.cons (fun ρ a w hs hz hΓ hp => gp (d_call fn126 hs.le mapA1 (c126 w _ hs.le e11 ((hp 5 _ rfl rfl).1)))) (AOK.cons (fun ρ a w hs hz hΓ hp => gp (d_idxS u124 y63 hs 2 rfl (hp 0 _ rfl rfl).1 (hp 1 _ rfl rfl).1 e12)) AOK.nil rfl) rfl) rfl) rfl) rfl) rfl) rfl) rfl) (fun vs9 => ?_)
      refine T.storeS 2 y63 rfl (idx_get e12).2 (fun ρ a w st => ⟨(st.env 21), (st.env 20)⟩) (At.refl Y55 x21) ?_
      refine T.nil ?_
      refine T.fallX ?_
      refine T.norm ?_
      refine T.region mix 3 [12, 13, 4] [0, 1, 3] [(sp ((TI .i64).sv s4)), (sp ((TI .i64).sv (IntKind.i64.wrap (s4 + 1)))), (sp ((TI .i64).sv (IntKind.i64.wrap (s4 + 1))))] (by kernel_rfl) (AOK.cons (fun ρ a w hs hz hΓ hp => gp (d_move (hΓ 4 rfl))) (AOK.cons (fun ρ a w hs hz hΓ hp => gp (d_add (hp 0 _ rfl rfl).1 (vI rfl))) (AOK.cons (fun ρ a w hs hz hΓ hp => gp (d_assign (hp 1 _ rfl rfl).1)) AOK.nil rfl) rfl) rfl) (fun vs13 => ?_)
      refine T.nil ?_
      obtain rfl := Option.some.inj hu5
      exact T.again hn5 () (fun φ h => T.toh h ⟨fun _ _ h => h, fun _ _ h => h, fun _ _ h => h, trivial⟩ ⟨rfl, trivial⟩)
    · replace hu5 := iteF hu5 hc
      refine T.exit ?_
      obtain rfl := Option.some.inj hu5
      repeat (first | refine T.passX ?_ | refine T.inX (by decide) ?_)
      refine T.hereX ?_
      exact T.toh (hk ((s4, sr2), ()) (Eq.symm hn5)) ⟨fun _ _ h => h, trivial⟩ ⟨rfl, trivial⟩

theorem c171 (w : World) (v0 : Value) {σ : Heap} (hσ : σ.le (snap w)) {x0 : (List Int)} {r : (List Int)} (hF : laws_toInt16S x0 = some r) (h0 : Y169.val σ v0 x0) :
    Calls Try.prog 171 #[v0] w (Ret [] w σ SRel.any [slR 23 (TI .i16) r]) := by
  unfold laws_toInt16S at hF
  refine start (args := [v0]) Try.func171 rfl 22 rfl [] [(0, (Y169.sv x0))] [] (sat_start _ hσ) rfl (args1 rfl h0 (args0)) ?_
  refine T.seq ?_
  refine T.region mix 1 [2] [0] [(sO SRel.any [(1, (slR 23 (TI .i16) []))])] (by kernel_rfl) (AOK.cons (fun ρ a w hs hz hΓ hp => g_nilSl) AOK.nil rfl) (fun vs1 => ?_)
  refine T.nil ?_
  refine T.norm ?_
  refine T.seq ?_
  obtain ⟨_u7, e3, hF⟩ := bindS hF
  refine T.region mix 4 [5, 6, 7, 3] [0, 1, 3, 7] [(sp (Y169.sv x0)), (sp ((TI .i64).sv (x0.length : Int))), (sO SRel.any [(2, (slR 23 (TI .i16) (List.replicate (x0.length : Int).toNat 0)))]), (al 2 (id))] (by kernel_rfl) (AOK.cons (fun ρ a w hs hz hΓ hp => gp (d_move (hΓ 0 rfl))) (AOK.cons (fun ρ a w hs hz hΓ hp => gp (d_lenR u169 (hp 0 _ rfl rfl).1)) (AOK.cons (fun ρ a w hs hz hΓ hp => g_makeSl hs.le u169 i23 rfl zc23 (hp 1 _ rfl rfl).1 (hp 1 _ rfl rfl).1 (need_get e3)) (AOK.cons (fun ρ a w hs hz hΓ hp => al_assign rfl) AOK.nil rfl) rfl) rfl) rfl) (fun vs2 => ?_)
  refine T.nil ?_
  refine T.norm ?_
  refine T.seq ?_
  refine T.seq ?_
  refine T.region mix 1 [4] [0] [(sp ((TI .i64).sv 0))] (by kernel_rfl) (AOK.cons (fun ρ a w hs hz hΓ hp => gp (d_assign (vI rfl))) AOK.nil rfl) (fun vs4 => ?_)
  refine T.nil ?_
  refine T.norm ?_
  obtain ⟨yl5, e6, hF⟩ := bindS hF
  refine T.joinD (ι := (Int × (List Int)) × (Unit)) (fun p => yl5 = p.1) (Γ' := fun p => E [(3, (SRel.eq (vs2 2)))]) (H' := fun p => HL [(2, (slR 23 (TI .i16) p.1.2 (vs2 2)))]) (fun p hy => ?_) (fun hk => ?_)
  · obtain ⟨⟨o4, or2⟩, _⟩ := p
    cases hy
    refine T.norm ?_
    refine T.seq ?_
    refine T.region mix 2 [21, 2] [0, 1] [(sp (SRel.eq (vs2 2))), (sp (SRel.eq (vs2 2)))] (by kernel_rfl) (AOK.cons (fun ρ a w hs hz hΓ hp => gp (d_move (hΓ 3 rfl))) (AOK.cons (fun ρ a w hs hz hΓ hp => gp (d_assign (hp 0 _ rfl rfl).1)) AOK.nil rfl) rfl) (fun vs7 => ?_)
    refine T.nil ?_
    refine T.norm ?_
    refine T.ret ?_
    obtain rfl := Option.some.inj hF
    refine T.fin fun ρ a w st => ?_
    exact ⟨_, results_one rfl rfl, trivial, own1 (own_at (id := 2) (st.env 2) rfl), List.pairwise_singleton _ _⟩
  · skip
    refine T.block ?_
    refine T.loop (f := laws_toInt16S_l1 x0) (σ := (Int × (List Int))) (Z := Unit) (fun s z => E [(0, (Y169.sv x0)), (3, (SRel.eq (vs2 2))), (4, ((TI .i64).sv s.1))]) (fun s z => HL [(2, (slR 23 (TI .i16) s.2 (vs2 2)))]) e6 () (fun φ h => T.toh h ⟨fun _ _ h => h, fun _ _ h => h, fun _ _ h => h, trivial⟩ ⟨rfl, trivial⟩) (fun k s z uu5 hu5 hn5 => ?_)
    obtain ⟨s4, sr2⟩ := s
    dsimp only [laws_toInt16S_l1] at hu5
    refine T.seq ?_
    refine T.seq ?_
    refine T.region mix 4 [8, 9, 10, 11] [0, 0, 2, 7] [(sp ((TI .i64).sv s4)), (sp (Y169.sv x0)), (sp ((TI .i64).sv (x0.length : Int))), (sp (TB.sv (decide (s4 < (x0.length : Int)))))] (by kernel_rfl) (AOK.cons (fun ρ a w hs hz hΓ hp => gp (d_move (hΓ 4 rfl))) (AOK.cons (fun ρ a w hs hz hΓ hp => gp (d_move (hΓ 0 rfl))) (AOK.cons (fun ρ a w hs hz hΓ hp => gp (d_lenR u169 (hp 1 _ rfl rfl).1)) (AOK.cons (fun ρ a w hs hz hΓ hp => gp (d_lss (hp 0 _ rfl rfl).1 (hp 2 _ rfl rfl).1)) AOK.nil rfl) rfl) rfl) rfl) (fun vs8 => ?_)
    refine T.nil ?_
    refine T.norm ?_
    refine T.cond (b := (decide (s4 < (x0.length : Int)))) (fun _ _ h => h) (fun hc => ?_) (fun hc => ?_)
    · replace hu5 := iteT hu5 hc
      refine T.skip ?_
      refine T.norm ?_
      refine T.seq ?_
      refine T.block ?_
      obtain ⟨x18, e10, hu5⟩ := bindS hu5
      obtain ⟨x20, e11, hu5⟩ := bindS hu5
      refine T.region mix 7 [14, 15, 16, 17, 18, 19, 20] [0, 0, 0, 0, 12, 28, 63, 127] [(sp (SRel.eq (vs2 2))), (sp ((TI .i64).sv s4)), (sp (Y169.sv x0)), (sp ((TI .i64).sv s4)), (sp ((TP (TI .i16)).sv x18)), (sp ((TI .i16).sv x18)), (sp (SRel.eq (at_ (vs2 2) (s4.toNat * (TI .i16).n + 0))))] (by kernel_rfl) (AOK.cons (fun ρ a w hs hz hΓ hp => gp (d_move (hΓ 3 rfl))) (AOK.cons (fun ρ a w hs hz hΓ hp => gp (d_move (hΓ 4 rfl))) (AOK.cons (fun ρ a w hs hz hΓ hp => gp (d_move (hΓ 0 rfl))) (AOK.cons (fun ρ a w hs hz hΓ hp => gp (d_move (hΓ 4 rfl))) (AOK.cons (fun ρ a w hs hz hΓ hp => gp (d_idxR u169 y23 (hp 2 _ rfl rfl).1 (hp 3 _ rfl rfl).1 e10)) (AOK.cons (fun ρ a w hs hz hΓ hp => gp (d_load y23 hs.le (hp 4 _ rfl rfl).1)) (AOK.cons (fun ρ a w hs hz hΓ hp => gp (d_idxS u169 y23 hs 2 rfl (hp 0 _ rfl rfl).1 (hp 1 _ rfl rfl).1 e11)) AOK.nil rfl) rfl) rfl) rfl) rfl) rfl) rfl) (fun vs9 => ?_)
      refine T.storeS 2 y23 rfl (idx_get e11).2 (fun ρ a w st => ⟨(st.env 20), (st.env 19)⟩) (At.refl (TI .i16) x20) ?_
      refine T.nil ?_
      refine T.fallX ?_
      refine T.norm ?_
      refine T.region mix 3 [12, 13, 4] [0, 1, 3] [(sp ((TI .i64).sv s4)), (sp ((TI .i64).sv (IntKind.i64.wrap (s4 + 1)))), (sp ((TI .i64).sv (IntKind.i64.wrap (s4 + 1))))] (by kernel_rfl) (AOK.cons (fun ρ a w hs hz hΓ hp => gp (d_move (hΓ 4 rfl))) (AOK.cons (fun ρ a w hs hz hΓ hp => gp (d_add (hp 0 _ rfl rfl).1 (vI rfl))) (AOK.cons (fun ρ a w hs hz hΓ hp => gp (d_assign (hp 1 _ rfl rfl).1)) AOK.nil rfl) rfl) rfl) (fun vs12 => ?_)
      refine T.nil ?_
      obtain rfl := Option.some.inj hu5
      exact T.again hn5 () (fun φ h => T.toh h ⟨fun _ _ h => h, fun _ _ h => h, fun _ _ h => h, trivial⟩ ⟨rfl, trivial⟩)
    · replace hu5 := iteF hu5 hc
      refine T.exit ?_
      obtain rfl := Option.some.inj hu5
      repeat (first | refine T.passX ?_ | refine T.inX (by decide) ?_)
      refine T.hereX ?_
      exact T.toh (hk ((s4, sr2), ()) (Eq.symm hn5)) ⟨fun _ _ h => h, trivial⟩ ⟨rfl, trivial⟩

theorem c153 (w : World) (v0 : Value) {σ : Heap} (hσ : σ.le (snap w)) {x0 : (List (List Int))} {r : (List (List Int))} (hF : laws_toInt16SS x0 = some r) (h0 : Y125.val σ v0 x0) :
    Calls Try.prog 153 #[v0] w (Ret [] w σ SRel.any [slR 169 Y169 r]) := by
  unfold laws_toInt16SS at hF
  refine start (args := [v0]) Try.func153 rfl 23 rfl [] [(0, (Y125.sv x0))] [] (sat_start _ hσ) rfl (args1 rfl h0 (args0)) ?_
  refine T.seq ?_
  refine T.region mix 1 [2] [0] [(sO SRel.any [(1, (slR 169 Y169 []))])] (by kernel_rfl) (AOK.cons (fun ρ a w hs hz hΓ hp => g_nilSl) AOK.nil rfl) (fun vs1 => ?_)
  refine T.nil ?_
  refine T.norm ?_
  refine T.seq ?_
  obtain ⟨_u7, e3, hF⟩ := bindS hF
  refine T.region mix 4 [5, 6, 7, 3] [0, 1, 3, 7] [(sp (Y125.sv x0)), (sp ((TI .i64).sv (x0.length : Int))), (sO SRel.any [(2, (slR 169 Y169 (List.replicate (x0.length : Int).toNat [])))]), (al 2 (id))] (by kernel_rfl) (AOK.cons (fun ρ a w hs hz hΓ hp => gp (d_move (hΓ 0 rfl))) (AOK.cons (fun ρ a w hs hz hΓ hp => gp (d_lenR u125 (hp 0 _ rfl rfl).1)) (AOK.cons (fun ρ a w hs hz hΓ hp => g_makeSl hs.le u125 i169 rfl zc169 (hp 1 _ rfl rfl).1 (hp 1 _ rfl rfl).1 (need_get e3)) (AOK.cons (fun ρ a w hs hz hΓ hp => al_assign rfl) AOK.nil rfl) rfl) rfl) rfl) (fun vs2 => ?_)
  refine T.nil ?_
  refine T.norm ?_
  refine T.seq ?_
  refine T.seq ?_
  refine T.region mix 1 [4] [0] [(sp ((TI .i64).sv 0))] (by kernel_rfl) (AOK.cons (fun ρ a w hs hz hΓ hp => gp (d_assign (vI rfl))) AOK.nil rfl) (fun vs4 => ?_)
  refine T.nil ?_
  refine T.norm ?_
  obtain ⟨yl5, e6, hF⟩ := bindS hF
  refine T.joinD (ι := (Int × (List (List Int))) × (Unit)) (fun p => yl5 = p.1) (Γ' := fun p => E [(3, (SRel.eq (vs2 2)))]) (H' := fun p => HL [(2, (slR 169 Y169 p.1.2 (vs2 2)))]) (fun p hy => ?_) (fun hk => ?_)
  · obtain ⟨⟨o4, or2⟩, _⟩ := p
    cases hy
    refine T.norm ?_
    refine T.seq ?_
    refine T.region mix 2 [22, 2] [0, 1] [(sp (SRel.eq (vs2 2))), (sp (SRel.eq (vs2 2)))] (by kernel_rfl) (AOK.cons (fun ρ a w hs hz hΓ hp => gp (d_move (hΓ 3 rfl))) (AOK.cons (fun ρ a w hs hz hΓ hp => gp (d_assign (hp 0 _ rfl rfl).1)) AOK.nil rfl) rfl) (fun vs7 => ?_)
    refine T.nil ?_
    refine T.norm ?_
    refine T.ret ?_
    obtain rfl := Option.some.inj hF
    refine T.fin fun ρ a w st => ?_
    exact ⟨_, results_one rfl rfl, trivial, own1 (own_at (id := 2) (st.env 2) rfl), List.pairwise_singleton _ _⟩
  · skip
    refine T.block ?_
    refine T.loop (f := laws_toInt16SS_l1 x0) (σ := (Int × (List (List Int)))) (Z := Unit) (fun s z => E [(0, (Y125.sv x0)), (3, (SRel.eq (vs2 2))), (4, ((TI .i64).sv s.1))]) (fun s z => HL [(2, (slR 169 Y169 s.2 (vs2 2)))]) e6 () (fun φ h => T.toh h ⟨fun _ _ h => h, fun _ _ h => h, fun _ _ h => h, trivial⟩ ⟨rfl, trivial⟩) (fun k s z uu5 hu5 hn5 => ?_)
    obtain ⟨s4, sr2⟩ := s
    dsimp only [laws_toInt16SS_l1] at hu5
    refine T.seq ?_
    refine T.seq ?_
    refine T.region mix 4 [8, 9, 10, 11] [0, 0, 2, 7] [(sp ((TI .i64).sv s4)), (sp (Y125.sv x0)), (sp ((TI .i64).sv (x0.length : Int))), (sp (TB.sv (decide (s4 < (x0.length : Int)))))] (by kernel_rfl) (AOK.cons (fun ρ a w hs hz hΓ hp => gp (d_move (hΓ 4 rfl))) (AOK.cons (fun ρ a w hs hz hΓ hp => gp (d_move (hΓ 0 rfl))) (AOK.cons (fun ρ a w hs hz hΓ hp => gp (d_lenR u125 (hp 1 _ rfl rfl).1)) (AOK.cons (fun ρ a w hs hz hΓ hp => gp (d_lss (hp 0 _ rfl rfl).1 (hp 2 _ rfl rfl).1)) AOK.nil rfl) rfl) rfl) rfl) (fun vs8 => ?_)
    refine T.nil ?_
    refine T.norm ?_
    refine T.cond (b := (decide (s4 < (x0.length : Int)))) (fun _ _ h => h) (fun hc => ?_) (fun hc => ?_)
    · replace hu5 := iteT hu5 hc
      refine T.skip ?_
      refine T.norm ?_
      refine T.seq ?_
      refine T.block ?_
      obtain ⟨x18, e10, hu5⟩ := bindS hu5
      obtain ⟨x20, e11, hu5⟩ := bindS hu5
      obtain ⟨x21, e12, hu5⟩ := bindS hu5
      refine T.region mix 8 [14, 15, 16, 17, 18, 19, 20, 21] [0, 0, 0, 0, 12, 28, 60, 127, 255] [(sp (SRel.eq (vs2 2))), (sp ((TI .i64).sv s4)), (sp (Y125.sv x0)), (sp ((TI .i64).sv s4)), (sp ((TP Y169).sv x18)), (sp (Y169.sv x18)), (sp (Y169.sv x20)), (sp (SRel.eq (at_ (vs2 2) (s4.toNat * Y169.n + 0))))] (by kernel_rfl) (AOK.cons (fun ρ a w hs hz hΓ hp => gp (d_move (hΓ 3 rfl))) (AOK.cons (fun ρ a w hs hz hΓ hp => gp (d_move (hΓ 4 rfl))) (AOK.cons (fun ρ a w hs hz hΓ hp => gp (d_move (hΓ 0 rfl))) (AOK.cons (fun ρ a w hs hz hΓ hp => gp (d_move (hΓ 4 rfl))) (AOK.cons (fun ρ a w hs hz hΓ hp => gp (d_idxR u125 y169 (hp 2 _ rfl rfl).1 (hp 3 _ rfl rfl).1 e10)) (AOK.cons (fun ρ a w hs hz hΓ hp => gp (d_load y169 hs.le (hp 4 _ rfl rfl).1)) (AOK.cons (fun ρ a w hs hz hΓ hp => gp (d_callR fn171 hs.le mapA1 (c171 w _ hs.le e11 ((hp 5 _ rfl rfl).1)))) (AOK.cons (fun ρ a w hs hz hΓ hp => gp (d_idxS u125 y169 hs 2 rfl (hp 0 _ rfl rfl).1 (hp 1 _ rfl rfl).1 e12)) AOK.nil rfl) rfl) rfl) rfl) rfl) rfl) rfl) rfl) (fun vs9 => ?_)
      refine T.storeS 2 y169 rfl (idx_get e12).2 (fun ρ a w st => ⟨(st.env 21), (st.env 20)⟩) (At.refl Y169 x21) ?_
      refine T.nil ?_
      refine T.fallX ?_
      refine T.norm ?_
      refine T.region mix 3 [12, 13, 4] [0, 1, 3] [(sp ((TI .i64).sv s4)), (sp ((TI .i64).sv (IntKind.i64.wrap (s4 + 1)))), (sp ((TI .i64).sv (IntKind.i64.wrap (s4 + 1))))] (by kernel_rfl) (AOK.cons (fun ρ a w hs hz hΓ hp => gp (d_move (hΓ 4 rfl))) (AOK.cons (fun ρ a w hs hz hΓ hp => gp (d_add (hp 0 _ rfl rfl).1 (vI rfl))) (AOK.cons (fun ρ a w hs hz hΓ hp => gp (d_assign (hp 1 _ rfl rfl).1)) AOK.nil rfl) rfl) rfl) (fun vs13 => ?_)
      refine T.nil ?_
      obtain rfl := Option.some.inj hu5
      exact T.again hn5 () (fun φ h => T.toh h ⟨fun _ _ h => h, fun _ _ h => h, fun _ _ h => h, trivial⟩ ⟨rfl, trivial⟩)
    · replace hu5 := iteF hu5 hc
      refine T.exit ?_
      obtain rfl := Option.some.inj hu5
      repeat (first | refine T.passX ?_ | refine T.inX (by decide) ?_)
      refine T.hereX ?_
      exact T.toh (hk ((s4, sr2), ()) (Eq.symm hn5)) ⟨fun _ _ h => h, trivial⟩ ⟨rfl, trivial⟩

theorem c127 (w : World) (v0 : Value) {σ : Heap} (hσ : σ.le (snap w)) {x0 : ((List (List Nat)) × (List (List Int)))} {r : ((List (List Nat)) × (List (List Int)))} (hF : laws_toSolid x0 = some r) (h0 : Y157.val σ v0 x0) :
    Calls Try.prog 127 #[v0] w (Ret [] w σ (Y157.sv r) []) := by
  unfold laws_toSolid at hF
  refine start (args := [v0]) Try.func127 rfl 13 rfl [] [(0, (Y157.sv x0))] [] (sat_start _ hσ) rfl (args1 rfl h0 (args0)) ?_
  refine T.seq ?_
  refine T.region mix 2 [1, 2] [0, 0] [(sp ((TP Y157).sv x0)), (sO SRel.any [(1, (boxR 127 Y157 ([], [])))])] (by kernel_rfl) (AOK.cons (fun ρ a w hs hz hΓ hp => gp (d_box hs.le (hΓ 0 rfl))) (AOK.cons (fun ρ a w hs hz hΓ hp => g_alloc hs.le z127 zc127) AOK.nil rfl) rfl) (fun vs1 => ?_)
  refine T.nil ?_
  refine T.norm ?_
  refine T.seq ?_
  refine T.region mix 1 [3] [0] [(sO SRel.any [(2, (boxR 127 Y157 ([], [])))])] (by kernel_rfl) (AOK.cons (fun ρ a w hs hz hΓ hp => g_alloc hs.le z127 zc127) AOK.nil rfl) (fun vs2 => ?_)
  refine T.nil ?_
  refine T.norm ?_
  refine T.seq ?_
  obtain ⟨x6, e4, hF⟩ := bindS hF
  refine T.region mix 4 [4, 5, 6, 7] [0, 1, 3, 7, 15] [(sp ((TP Y156).sv x0.1)), (sp (Y156.sv x0.1)), (sp (Y156.sv x6)), (sp (SRel.eq (at_ (vs2 0) (0 + 0))))] (by kernel_rfl) (AOK.cons (fun ρ a w hs hz hΓ hp => gp (d_fieldP fa158_0 (hΓ 1 rfl) (At.fst (At.refl _ _)))) (AOK.cons (fun ρ a w hs hz hΓ hp => gp (d_load y156 hs.le (hp 0 _ rfl rfl).1)) (AOK.cons (fun ρ a w hs hz hΓ hp => gp (d_callR fn152 hs.le mapA1 (c152 w _ hs.le e4 ((hp 1 _ rfl rfl).1)))) (AOK.cons (fun ρ a w hs hz hΓ hp => gp (d_fieldO fa127_0 hs 2 rfl (.inl ⟨(hΓ 3 rfl).1, rfl⟩))) AOK.nil rfl) rfl) rfl) rfl) (fun vs3 => ?_)
  refine T.store 2 y124 rfl (fun ρ a w st => ⟨.inr (st.env 7), (st.env 6)⟩) (At.fst (At.refl Y157 ([], []))) ?_
  refine T.nil ?_
  refine T.norm ?_
  refine T.seq ?_
  obtain ⟨x10, e6, hF⟩ := bindS hF
  refine T.region mix 4 [8, 9, 10, 11] [0, 1, 3, 7, 15] [(sp ((TP Y125).sv x0.2)), (sp (Y125.sv x0.2)), (sp (Y125.sv x10)), (sp (SRel.eq (at_ (vs2 0) (0 + 1))))] (by kernel_rfl) (AOK.cons (fun ρ a w hs hz hΓ hp => gp (d_fieldP fa158_1 (hΓ 1 rfl) (At.snd (At.refl _ _)))) (AOK.cons (fun ρ a w hs hz hΓ hp => gp (d_load y125 hs.le (hp 0 _ rfl rfl).1)) (AOK.cons (fun ρ a w hs hz hΓ hp => gp (d_callR fn153 hs.le mapA1 (c153 w _ hs.le e6 ((hp 1 _ rfl rfl).1)))) (AOK.cons (fun ρ a w hs hz hΓ hp => gp (d_fieldO fa127_1 hs 2 rfl (.inl ⟨(hΓ 3 rfl).1, rfl⟩))) AOK.nil rfl) rfl) rfl) rfl) (fun vs5 => ?_)
  refine T.store 2 y125 rfl (fun ρ a w st => ⟨.inr (st.env 11), (st.env 10)⟩) (At.snd (At.refl Y157 (x6, []))) ?_
  refine T.nil ?_
  refine T.norm ?_
  refine T.seq ?_
  refine T.region mix 1 [12] [0, 1] [(sp (Y157.sv (x6, x10)))] (by kernel_rfl) (AOK.cons (fun ρ a w hs hz hΓ hp => gp (d_loadO y127 hs 2 rfl (.inl ⟨(hΓ 3 rfl).1, rfl⟩) (At.refl Y157 (x6, x10)))) AOK.nil rfl) (fun vs7 => ?_)
  refine T.store 1 y127 rfl (fun ρ a w st => ⟨.inl ⟨(st.env 2).1, rfl⟩, (st.env 12)⟩) (At.refl Y157 ([], [])) ?_
  refine T.nil ?_
  refine T.norm ?_
  refine T.ret ?_
  obtain rfl := Option.some.inj hF
  refine T.fin0 fun ρ a w st => ?_
  obtain ⟨q0, hr0, hv0⟩ := rv_cell y127 st.sat 1 rfl (st.env 2).1
  exact ⟨_, results_one rfl hr0, hv0⟩

theorem c78 (w : World) (v0 : Value) {σ : Heap} (hσ : σ.le (snap w)) {x0 : (List ((List (List Nat)) × (List (List Int))))} {r : (List ((List (List Nat)) × (List (List Int))))} (hF : laws_toSolidS x0 = some r) (h0 : Y58.val σ v0 x0) :
    Calls Try.prog 78 #[v0] w (Ret [] w σ SRel.any [slR 127 Y157 r]) := by
  unfold laws_toSolidS at hF
  refine start (args := [v0]) Try.func78 rfl 23 rfl [] [(0, (Y58.sv x0))] [] (sat_start _ hσ) rfl (args1 rfl h0 (args0)) ?_
  refine T.seq ?_
  refine T.region mix 1 [2] [0] [(sO SRel.any [(1, (slR 127 Y157 []))])] (by kernel_rfl) (AOK.cons (fun ρ a w hs hz hΓ hp => g_nilSl) AOK.nil rfl) (fun vs1 => ?_)
  refine T.nil ?_
  refine T.norm ?_
  refine T.seq ?_
  obtain ⟨_u7, e3, hF⟩ := bindS hF
  refine T.region mix 4 [5, 6, 7, 3] [0, 1, 3, 7] [(sp (Y58.sv x0)), (sp ((TI .i64).sv (x0.length : Int))), (sO SRel.any [(2, (slR 127 Y157 (List.replicate (x0.length : Int).toNat ([], []))))]), (al 2 (id))] (by kernel_rfl) (AOK.cons (fun ρ a w hs hz hΓ hp => gp (d_move (hΓ 0 rfl))) (AOK.cons (fun ρ a w hs hz hΓ hp => gp (d_lenR u58 (hp 0 _ rfl rfl).1)) (AOK.cons (fun ρ a w hs hz hΓ hp => g_makeSl hs.le u66 i127 rfl zc127 (hp 1 _ rfl rfl).1 (hp 1 _ rfl rfl).1 (need_get e3)) (AOK.cons (fun ρ a w hs hz hΓ hp => al_assign rfl) AOK.nil rfl) rfl) rfl) rfl) (fun vs2 => ?_)
  refine T.nil ?_
  refine T.norm ?_
  refine T.seq ?_
  refine T.seq ?_
  refine T.region mix 1 [4] [0] [(sp ((TI .i64).sv 0))] (by kernel_rfl) (AOK.cons (fun ρ a w hs hz hΓ hp => gp (d_assign (vI rfl))) AOK.nil rfl) (fun vs4 => ?_)
  refine T.nil ?_
  refine T.norm ?_
  obtain ⟨yl5, e6, hF⟩ := bindS hF
  refine T.joinD (ι := (Int × (List ((List (List Nat)) × (List (List Int))))) × (Unit)) (fun p => yl5 = p.1) (Γ' := fun p => E [(3, (SRel.eq (vs2 2)))]) (H' := fun p => HL [(2, (slR 127 Y157 p.1.2 (vs2 2)))]) (fun p hy => ?_) (fun hk => ?_)
  · obtain ⟨⟨o4, or2⟩, _⟩ := p
    cases hy
    refine T.norm ?_
    refine T.seq ?_
    refine T.region mix 2 [22, 2] [0, 1] [(sp (SRel.eq (vs2 2))), (sp (SRel.eq (vs2 2)))] (by kernel_rfl) (AOK.cons (fun ρ a w hs hz hΓ hp => gp (d_move (hΓ 3 rfl))) (AOK.cons (fun ρ a w hs hz hΓ hp => gp (d_assign (hp 0 _ rfl rfl).1)) AOK.nil rfl) rfl) (fun vs7 => ?_)
    refine T.nil ?_
    refine T.norm ?_
    refine T.ret ?_
    obtain rfl := Option.some.inj hF
    refine T.fin fun ρ a w st => ?_
    exact ⟨_, results_one rfl rfl, trivial, own1 (own_at (id := 2) (st.env 2) rfl), List.pairwise_singleton _ _⟩
  · skip
    refine T.block ?_
    refine T.loop (f := laws_toSolidS_l1 x0) (σ := (Int × (List ((List (List Nat)) × (List (List Int)))))) (Z := Unit) (fun s z => E [(0, (Y58.sv x0)), (3, (SRel.eq (vs2 2))), (4, ((TI .i64).sv s.1))]) (fun s z => HL [(2, (slR 127 Y157 s.2 (vs2 2)))]) e6 () (fun φ h => T.toh h ⟨fun _ _ h => h, fun _ _ h => h, fun _ _ h => h, trivial⟩ ⟨rfl, trivial⟩) (fun k s z uu5 hu5 hn5 => ?_)
    obtain ⟨s4, sr2⟩ := s
    dsimp only [laws_toSolidS_l1] at hu5
    refine T.seq ?_
    refine T.seq ?_
    refine T.region mix 4 [8, 9, 10, 11] [0, 0, 2, 7] [(sp ((TI .i64).sv s4)), (sp (Y58.sv x0)), (sp ((TI .i64).sv (x0.length : Int))), (sp (TB.sv (decide (s4 < (x0.length : Int)))))] (by kernel_rfl) (AOK.cons (fun ρ a w hs hz hΓ hp => gp (d_move (hΓ 4 rfl))) (AOK.cons (fun ρ a w hs hz hΓ hp => gp (d_move (hΓ 0 rfl))) (AOK.cons (fun ρ a w hs hz hΓ hp => gp (d_lenR u58 (hp 1 _ rfl rfl).1)) (AOK.cons (fun ρ a w hs hz hΓ hp => gp (d_lss (hp 0 _ rfl rfl).1 (hp 2 _ rfl rfl).1)) AOK.nil rfl) rfl) rfl) rfl) (fun vs8 => ?_)
    refine T.nil ?_
    refine T.norm ?_
    refine T.cond (b := (decide (s4 < (x0.length : Int)))) (fun _ _ h => h) (fun hc => ?_) (fun hc => ?_)
    · replace hu5 := iteT hu5 hc
      refine T.skip ?_
      refine T.norm ?_
      refine T.seq ?_
      refine T.block ?_
      obtain ⟨x18, e10, hu5⟩ := bindS hu5
      obtain ⟨x20, e11, hu5⟩ := bindS hu5
      obtain ⟨x21, e12, hu5⟩ := bindS hu5
      refine T.region mix 8 [14, 15, 16, 17, 18, 19, 20, 21] [0, 0, 0, 0, 12, 28, 60, 127, 255] [(sp (SRel.eq (vs2 2))), (sp ((TI .i64).sv s4)), (sp (Y58.sv x0)), (sp ((TI .i64).sv s4)), (sp ((TP Y157).sv x18)), (sp (Y157.sv x18)), (sp (Y157.sv x20)), (sp (SRel.eq (at_ (vs2 2) (s4.toNat * Y157.n + 0))))] (by kernel_rfl) (AOK.cons (fun ρ a w hs hz hΓ hp => gp (d_move (hΓ 3 rfl))) (AOK.cons (fun ρ a w hs hz hΓ hp => gp (d_move (hΓ 4 rfl))) (AOK.cons (fun ρ a w hs hz hΓ hp => gp (d_move (hΓ 0 rfl))) (AOK.cons (fun ρ a w hs hz hΓ hp => gp (d_move (hΓ 4 rfl))) (AOK.cons (fun ρ a w hs hz hΓ hp => gp (d_idxR u58 y158 (hp 2 _ rfl rfl).1 (hp 3 _ rfl rfl).1 e10)) (AOK.cons (fun ρ a w hs hz hΓ hp => gp (d_load y158 hs.le (hp 4 _ rfl rfl).1)) (AOK.cons (fun ρ a w hs hz hΓ hp => gp (d_call fn127 hs.le mapA1 (c127 w _ hs.le e11 ((hp 5 _ rfl rfl).1)))) (AOK.cons (fun ρ a w hs hz hΓ hp => gp (d_idxS u66 y127 hs 2 rfl (hp 0 _ rfl rfl).1 (hp 1 _ rfl rfl).1 e12)) AOK.nil rfl) rfl) rfl) rfl) rfl) rfl) rfl) rfl) (fun vs9 => ?_)
      refine T.storeS 2 y127 rfl (idx_get e12).2 (fun ρ a w st => ⟨(st.env 21), (st.env 20)⟩) (At.refl Y157 x21) ?_
      refine T.nil ?_
      refine T.fallX ?_
      refine T.norm ?_
      refine T.region mix 3 [12, 13, 4] [0, 1, 3] [(sp ((TI .i64).sv s4)), (sp ((TI .i64).sv (IntKind.i64.wrap (s4 + 1)))), (sp ((TI .i64).sv (IntKind.i64.wrap (s4 + 1))))] (by kernel_rfl) (AOK.cons (fun ρ a w hs hz hΓ hp => gp (d_move (hΓ 4 rfl))) (AOK.cons (fun ρ a w hs hz hΓ hp => gp (d_add (hp 0 _ rfl rfl).1 (vI rfl))) (AOK.cons (fun ρ a w hs hz hΓ hp => gp (d_assign (hp 1 _ rfl rfl).1)) AOK.nil rfl) rfl) rfl) (fun vs13 => ?_)
      refine T.nil ?_
      obtain rfl := Option.some.inj hu5
      exact T.again hn5 () (fun φ h => T.toh h ⟨fun _ _ h => h, fun _ _ h => h, fun _ _ h => h, trivial⟩ ⟨rfl, trivial⟩)
    · replace hu5 := iteF hu5 hc
      refine T.exit ?_
      obtain rfl := Option.some.inj hu5
      repeat (first | refine T.passX ?_ | refine T.inX (by decide) ?_)
      refine T.hereX ?_
      exact T.toh (hk ((s4, sr2), ()) (Eq.symm hn5)) ⟨fun _ _ h => h, trivial⟩ ⟨rfl, trivial⟩

theorem c32 (w : World) (v0 : Value) {σ : Heap} (hσ : σ.le (snap w)) {x0 : (((List Nat) × (List Nat) × (List Nat) × Nat × Nat) × (List ((List (List Nat)) × (List (List Int)))))} {r : (((List Nat) × (List Nat) × (List Nat) × Nat × Nat) × (List ((List (List Nat)) × (List (List Int)))))} (hF : laws_toScene x0 = some r) (h0 : Y59.val σ v0 x0) :
    Calls Try.prog 32 #[v0] w (Ret [] w σ (Y59.sv r) []) := by
  unfold laws_toScene at hF
  refine start (args := [v0]) Try.func32 rfl 13 rfl [] [(0, (Y59.sv x0))] [] (sat_start _ hσ) rfl (args1 rfl h0 (args0)) ?_
  refine T.seq ?_
  refine T.region mix 2 [1, 2] [0, 0] [(sp ((TP Y59).sv x0)), (sO SRel.any [(1, (boxR 68 Y59 (((List.replicate 3 0), (List.replicate 3 0), (List.replicate 3 0), 0, 0), [])))])] (by kernel_rfl) (AOK.cons (fun ρ a w hs hz hΓ hp => gp (d_box hs.le (hΓ 0 rfl))) (AOK.cons (fun ρ a w hs hz hΓ hp => g_alloc hs.le z68 zc68) AOK.nil rfl) rfl) (fun vs1 => ?_)
  refine T.nil ?_
  refine T.norm ?_
  refine T.seq ?_
  refine T.region mix 1 [3] [0] [(sO SRel.any [(2, (boxR 68 Y59 (((List.replicate 3 0), (List.replicate 3 0), (List.replicate 3 0), 0, 0), [])))])] (by kernel_rfl) (AOK.cons (fun ρ a w hs hz hΓ hp => g_alloc hs.le z68 zc68) AOK.nil rfl) (fun vs2 => ?_)
  refine T.nil ?_
  refine T.norm ?_
  refine T.seq ?_
  obtain ⟨x6, e4, hF⟩ := bindS hF
  refine T.region mix 4 [4, 5, 6, 7] [0, 1, 3, 7, 15] [(sp ((TP Y56).sv x0.1)), (sp (Y56.sv x0.1)), (sp (Y56.sv x6)), (sp (SRel.eq (at_ (vs2 0) (0 + 0))))] (by kernel_rfl) (AOK.cons (fun ρ a w hs hz hΓ hp => gp (d_fieldP fa60_0 (hΓ 1 rfl) (At.fst (At.refl _ _)))) (AOK.cons (fun ρ a w hs hz hΓ hp => gp (d_load y57 hs.le (hp 0 _ rfl rfl).1)) (AOK.cons (fun ρ a w hs hz hΓ hp => gp (d_call fn77 hs.le mapA1 (c77 w _ hs.le e4 ((hp 1 _ rfl rfl).1)))) (AOK.cons (fun ρ a w hs hz hΓ hp => gp (d_fieldO fa68_0 hs 2 rfl (.inl ⟨(hΓ 3 rfl).1, rfl⟩))) AOK.nil rfl) rfl) rfl) rfl) (fun vs3 => ?_)
  refine T.store 2 y65 rfl (fun ρ a w st => ⟨.inr (st.env 7), (st.env 6)⟩) (At.fst (At.refl Y59 (((List.replicate 3 0), (List.replicate 3 0), (List.replicate 3 0), 0, 0), []))) ?_
  refine T.nil ?_
  refine T.norm ?_
  refine T.seq ?_
  obtain ⟨x10, e6, hF⟩ := bindS hF
  refine T.region mix 4 [8, 9, 10, 11] [0, 1, 3, 7, 15] [(sp ((TP Y58).sv x0.2)), (sp (Y58.sv x0.2)), (sp (Y58.sv x10)), (sp (SRel.eq (at_ (vs2 0) (0 + 11))))] (by kernel_rfl) (AOK.cons (fun ρ a w hs hz hΓ hp => gp (d_fieldP fa60_1 (hΓ 1 rfl) (At.snd (At.refl _ _)))) (AOK.cons (fun ρ a w hs hz hΓ hp => gp (d_load y58 hs.le (hp 0 _ rfl rfl).1)) (AOK.cons (fun ρ a w hs hz hΓ hp => gp (d_callR fn78 hs.le mapA1 (c78 w _ hs.le e6 ((hp 1 _ rfl rfl).1)))) (AOK.cons (fun ρ a w hs hz hΓ hp => gp (d_fieldO fa68_1 hs 2 rfl (.inl ⟨(hΓ 3 rfl).1, rfl⟩))) AOK.nil rfl) rfl) rfl) rfl) (fun vs5 => ?_)
  refine T.store 2 y66 rfl (fun ρ a w st => ⟨.inr (st.env 11), (st.env 10)⟩) (At.snd (At.refl Y59 (x6, []))) ?_
  refine T.nil ?_
  refine T.norm ?_
  refine T.seq ?_
  refine T.region mix 1 [12] [0, 1] [(sp (Y59.sv (x6, x10)))] (by kernel_rfl) (AOK.cons (fun ρ a w hs hz hΓ hp => gp (d_loadO y68 hs 2 rfl (.inl ⟨(hΓ 3 rfl).1, rfl⟩) (At.refl Y59 (x6, x10)))) AOK.nil rfl) (fun vs7 => ?_)
  refine T.store 1 y68 rfl (fun ρ a w st => ⟨.inl ⟨(st.env 2).1, rfl⟩, (st.env 12)⟩) (At.refl Y59 (((List.replicate 3 0), (List.replicate 3 0), (List.replicate 3 0), 0, 0), [])) ?_
  refine T.nil ?_
  refine T.norm ?_
  refine T.ret ?_
  obtain rfl := Option.some.inj hF
  refine T.fin0 fun ρ a w st => ?_
  obtain ⟨q0, hr0, hv0⟩ := rv_cell y68 st.sat 1 rfl (st.env 2).1
  exact ⟨_, results_one rfl hr0, hv0⟩

theorem c150 (w : World) (v0 v1 : Value) {σ : Heap} (hσ : σ.le (snap w)) {x0 : Nat} {x1 : Nat} {r : Bool} (hF : spec_l01Same x0 x1 = some r) (h0 : (TF .f32).val σ v0 x0) (h1 : (TF .f32).val σ v1 x1) :
    Calls Try.prog 150 #[v0, v1] w (Ret [] w σ (TB.sv r) []) := by
  unfold spec_l01Same at hF
  refine start (args := [v0, v1]) Try.func150 rfl 26 rfl [] [(0, ((TF .f32).sv x0)), (1, ((TF .f32).sv x1))] [] (sat_start _ hσ) rfl (args1 rfl h0 (args1 rfl h1 (args0))) ?_
  refine T.seq ?_
  refine T.region mix 1 [4] [0] [(sp (TB.sv false))] (by kernel_rfl) (AOK.cons (fun ρ a w hs hz hΓ hp => gp (d_assign (vB _))) AOK.nil rfl) (fun vs1 => ?_)
  refine T.nil ?_
  refine T.norm ?_
  refine T.seq ?_
  refine T.seq ?_
  refine T.region mix 8 [5, 6, 7, 8, 9, 10, 11, 12] [0, 0, 3, 7, 15, 15, 63, 127] [(sp ((TF .f32).sv x0)), (sp ((TF .f32).sv x0)), (sp (TB.sv (fneq .f32 x0 x0))), (sp (TB.sv (fneq .f32 x0 x0))), (sp (SRel.when ((fneq .f32 x0 x0) = false) ((TF .f32).sv x1))), (sp (SRel.when ((fneq .f32 x0 x0) = false) ((TF .f32).sv x1))), (sp (SRel.when ((fneq .f32 x0 x0) = false) (TB.sv (fneq .f32 x1 x1)))), (sp (TB.sv ((fneq .f32 x0 x0) || (fneq .f32 x1 x1))))] (by kernel_rfl) (AOK.cons (fun ρ a w hs hz hΓ hp => gp (d_move (hΓ 0 rfl))) (AOK.cons (fun ρ a w hs hz hΓ hp => gp (d_move (hΓ 0 rfl))) (AOK.cons (fun ρ a w hs hz hΓ hp => gp (d_fneq (hp 0 _ rfl rfl).1 (hp 1 _ rfl rfl).1)) (AOK.cons (fun ρ a w hs hz hΓ hp => gp (d_move (hp 2 _ rfl rfl).1)) (AOK.cons (fun ρ a w hs hz hΓ hp => gg (g := 3) (d := 8) hz rfl (hp 3 _ rfl rfl).1 rfl (fun hc => d_move (hΓ 1 rfl))) (AOK.cons (fun ρ a w hs hz hΓ hp => gg (g := 3) (d := 8) hz rfl (hp 3 _ rfl rfl).1 rfl (fun hc => d_move (hΓ 1 rfl))) (AOK.cons (fun ρ a w hs hz hΓ hp => gg (g := 3) (d := 8) hz rfl (hp 3 _ rfl rfl).1 rfl (fun hc => d_fneq ((hp 4 _ rfl rfl).1 hc) ((hp 5 _ rfl rfl).1 hc))) (AOK.cons (fun ρ a w hs hz hΓ hp => gp (d_pick (hp 3 _ rfl rfl).1 (fun hc => pON hc) (fun hc => pO hc ((hp 6 _ rfl rfl).1 hc)))) AOK.nil rfl) rfl) rfl) rfl) rfl) rfl) rfl) rfl) (fun vs2 => ?_)
  refine T.nil ?_
  refine T.norm ?_
  refine T.cond (b := ((fneq .f32 x0 x0) || (fneq .f32 x1 x1))) (fun _ _ h => h) (fun hc => ?_) (fun hc => ?_)
  · replace hF := iteT hF hc
    refine T.seq ?_
    refine T.region mix 9 [13, 14, 15, 16, 17, 18, 19, 20, 4] [0, 0, 3, 7, 15, 15, 63, 127, 255] [(sp ((TF .f32).sv x0)), (sp ((TF .f32).sv x0)), (sp (TB.sv (fneq .f32 x0 x0))), (sp (TB.sv (fneq .f32 x0 x0))), (sp (SRel.when ((fneq .f32 x0 x0) = true) ((TF .f32).sv x1))), (sp (SRel.when ((fneq .f32 x0 x0) = true) ((TF .f32).sv x1))), (sp (SRel.when ((fneq .f32 x0 x0) = true) (TB.sv (fneq .f32 x1 x1)))), (sp (TB.sv ((fneq .f32 x0 x0) && (fneq .f32 x1 x1)))), (sp (TB.sv ((fneq .f32 x0 x0) && (fneq .f32 x1 x1))))] (by kernel_rfl) (AOK.cons (fun ρ a w hs hz hΓ hp => gp (d_move (hΓ 0 rfl))) (AOK.cons (fun ρ a w hs hz hΓ hp => gp (d_move (hΓ 0 rfl))) (AOK.cons (fun ρ a w hs hz hΓ hp => gp (d_fneq (hp 0 _ rfl rfl).1 (hp 1 _ rfl rfl).1)) (AOK.cons (fun ρ a w hs hz hΓ hp => gp (d_move (hp 2 _ rfl rfl).1)) (AOK.cons (fun ρ a w hs hz hΓ hp => gg (g := 3) (d := 16) hz rfl (hp 3 _ rfl rfl).1 rfl (fun hc => d_move (hΓ 1 rfl))) (AOK.cons (fun ρ a w hs hz hΓ hp => gg (g := 3) (d := 16) hz rfl (hp 3 _ rfl rfl).1 rfl (fun hc => d_move (hΓ 1 rfl))) (AOK.cons (fun ρ a w hs hz hΓ hp => gg (g := 3) (d := 16) hz rfl (hp 3 _ rfl rfl).1 rfl (fun hc => d_fneq ((hp 4 _ rfl rfl).1 hc) ((hp 5 _ rfl rfl).1 hc))) (AOK.cons (fun ρ a w hs hz hΓ hp => gp (d_pick (hp 3 _ rfl rfl).1 (fun hc => pA hc ((hp 6 _ rfl rfl).1 hc)) (fun hc => pAN hc))) (AOK.cons (fun ρ a w hs hz hΓ hp => gp (d_assign (hp 7 _ rfl rfl).1)) AOK.nil rfl) rfl) rfl) rfl) rfl) rfl) rfl) rfl) rfl) (fun vs3 => ?_)
    refine T.nil ?_
    refine T.norm ?_
    refine T.ret ?_
    obtain rfl := Option.some.inj hF
    refine T.fin0 fun ρ a w st => ?_
    exact ⟨_, results_one rfl rfl, (st.env 4)⟩
  · replace hF := iteF hF hc
    refine T.skip ?_
    refine T.norm ?_
    refine T.seq ?_
    obtain ⟨_u22, e5, hF⟩ := bindS hF
    obtain ⟨_u24, e6, hF⟩ := bindS hF
    refine T.region mix 6 [21, 22, 23, 24, 25, 4] [0, 1, 0, 7, 15, 31] [(sp ((TF .f32).sv x0)), (sp ((TI .u32).sv (x0 : Int))), (sp ((TF .f32).sv x1)), (sp ((TI .u32).sv (x1 : Int))), (sp (TB.sv (decide ((x0 : Int) = (x1 : Int))))), (sp (TB.sv (decide ((x0 : Int) = (x1 : Int)))))] (by kernel_rfl) (AOK.cons (fun ρ a w hs hz hΓ hp => gp (d_move (hΓ 0 rfl))) (AOK.cons (fun ρ a w hs hz hΓ hp => gp (d_bits32 ex154 (hp 0 _ rfl rfl).1 (need_get e5))) (AOK.cons (fun ρ a w hs hz hΓ hp => gp (d_move (hΓ 1 rfl))) (AOK.cons (fun ρ a w hs hz hΓ hp => gp (d_bits32 ex154 (hp 2 _ rfl rfl).1 (need_get e6))) (AOK.cons (fun ρ a w hs hz hΓ hp => gp (d_eql (hp 1 _ rfl rfl).1 (hp 3 _ rfl rfl).1)) (AOK.cons (fun ρ a w hs hz hΓ hp => gp (d_assign (hp 4 _ rfl rfl).1)) AOK.nil rfl) rfl) rfl) rfl) rfl) rfl) (fun vs4 => ?_)
    refine T.nil ?_
    refine T.norm ?_
    refine T.ret ?_
    obtain rfl := Option.some.inj hF
    refine T.fin0 fun ρ a w st => ?_
    exact ⟨_, results_one rfl rfl, (st.env 4)⟩

theorem c149 (w : World) (v0 v1 : Value) {σ : Heap} (hσ : σ.le (snap w)) {x0 : (List Nat)} {x1 : (List Nat)} {r : Bool} (hF : spec_l01SamePoint x0 x1 = some r) (h0 : Y55.val σ v0 x0) (h1 : Y55.val σ v1 x1) :
    Calls Try.prog 149 #[v0, v1] w (Ret [] w σ (TB.sv r) []) := by
  unfold spec_l01SamePoint at hF
  refine start (args := [v0, v1]) Try.func149 rfl 24 rfl [] [(0, (Y55.sv x0)), (1, (Y55.sv x1))] [] (sat_start _ hσ) rfl (args1 rfl h0 (args1 rfl h1 (args0))) ?_
  refine T.seq ?_
  refine T.region mix 3 [2, 3, 4] [0, 0, 0] [(sp ((TP Y55).sv x0)), (sp ((TP Y55).sv x1)), (sp (TB.sv false))] (by kernel_rfl) (AOK.cons (fun ρ a w hs hz hΓ hp => gp (d_box hs.le (hΓ 0 rfl))) (AOK.cons (fun ρ a w hs hz hΓ hp => gp (d_box hs.le (hΓ 1 rfl))) (AOK.cons (fun ρ a w hs hz hΓ hp => gp (d_assign (vB _))) AOK.nil rfl) rfl) rfl) (fun vs1 => ?_)
  refine T.nil ?_
  refine T.norm ?_
  refine T.seq ?_
  obtain ⟨x9, e3, hF⟩ := bindS hF
  obtain ⟨x16, e5, hF⟩ := bindS hF
  obtain ⟨x15, e6⟩ : ∃ (x15 : Bool), x9 = true → spec_l01Same (nth x0 1) (nth x1 1) = some x15 ∧ x15 = x16 := by
    by_cases hb : x9 = true
    · replace e5 := iteT e5 hb
      obtain ⟨x15, e4, e5⟩ := bindS e5
      exact ⟨x15, fun _ => ⟨e4, Option.some.inj e5⟩⟩
    · exact ⟨default, fun h => absurd h hb⟩
  have e7 : x9 = false → false = x16 := fun h => Option.some.inj (iteF e5 h)
  obtain ⟨x23, e9, hF⟩ := bindS hF
  obtain ⟨x22, e10⟩ : ∃ (x22 : Bool), x16 = true → spec_l01Same (nth x0 2) (nth x1 2) = some x22 ∧ x22 = x23 := by
    by_cases hb : x16 = true
    · replace e9 := iteT e9 hb
      obtain ⟨x22, e8, e9⟩ := bindS e9
      exact ⟨x22, fun _ => ⟨e8, Option.some.inj e9⟩⟩
    · exact ⟨default, fun h => absurd h hb⟩
  have e11 : x16 = false → false = x23 := fun h => Option.some.inj (iteF e9 h)
  refine T.region mix 20 [5, 6, 7, 8, 9, 10, 11, 12, 13, 14, 15, 16, 17, 18, 19, 20, 21, 22, 23, 4] [0, 1, 0, 4, 15, 31, 63, 127, 63, 319, 1023, 2047, 4095, 8191, 16383, 8191, 40959, 131071, 262143, 524287] [(sp ((TP (TF .f32)).sv (nth x0 0))), (sp ((TF .f32).sv (nth x0 0))), (sp ((TP (TF .f32)).sv (nth x1 0))), (sp ((TF .f32).sv (nth x1 0))), (sp (TB.sv x9)), (sp (TB.sv x9)), (sp (SRel.when (x9 = true) ((TP (TF .f32)).sv (nth x0 1)))), (sp (SRel.when (x9 = true) ((TF .f32).sv (nth x0 1)))), (sp (SRel.when (x9 = true) ((TP (TF .f32)).sv (nth x1 1)))), (sp (SRel.when (x9 = true) ((TF .f32).sv (nth x1 1)))), (sp (SRel.when (x9 = true) (TB.sv x15))), (sp (TB.sv x16)), (sp (TB.sv x16)), (sp (SRel.when (x16 = true) ((TP (TF .f32)).sv (nth x0 2)))), (sp (SRel.when (x16 = true) ((TF .f32).sv (nth x0 2)))), (sp (SRel.when (x16 = true) ((TP (TF .f32)).sv (nth x1 2)))), (sp (SRel.when (x16 = true) ((TF .f32).sv (nth x1 2)))), (sp (SRel.when (x16 = true) (TB.sv x22))), (sp (TB.sv x23)), (sp (TB.sv x23))] (by kernel_rfl) (AOK.cons (fun ρ a w hs hz hΓ hp => gp (d_idxPc .i64 0 u63 y54 (hΓ 2 rfl) rfl)) (AOK.cons (fun ρ a w hs hz hΓ hp => gp (d_load y54 hs.le (hp 0 _ rfl rfl).1)) (AOK.cons (fun ρ a w hs hz hΓ hp => gp (d_idxPc .i64 0 u63 y54 (hΓ 3 rfl) rfl)) (AOK.cons (fun ρ a w hs hz hΓ hp => gp (d_load y54 hs.le (hp 2 _ rfl rfl).1)) (AOK.cons (fun ρ a w hs hz hΓ hp => gp (d_call fn150 hs.le mapA2 (c150 w _ _ hs.le e3 ((hp 1 _ rfl rfl).1) ((hp 3 _ rfl rfl).1)))) (AOK.cons (fun ρ a w hs hz hΓ hp => gp (d_move (hp 4 _ rfl rfl).1)) (AOK.cons (fun ρ a w hs hz hΓ hp => gg (g := 5) (d := 10) hz rfl (hp 5 _ rfl rfl).1 rfl (fun hc => d_idxPc .i64 1 u63 y54 (hΓ 2 rfl) rfl)) (AOK.cons (fun ρ a w hs hz hΓ hp => gg (g := 5) (d := 10) hz rfl (hp 5 _ rfl rfl).1 rfl (fun hc => d_load y54 hs.le ((hp 6 _ rfl rfl).1 hc))) (AOK.cons (fun ρ a w hs hz hΓ hp => gg (g := 5) (d := 10) hz rfl (hp 5 _ rfl rfl).1 rfl (fun hc => d_idxPc .i64 1 u63 y54 (hΓ 3 rfl) rfl)) (AOK.cons (fun ρ a w hs hz hΓ hp => gg (g := 5) (d := 10) hz rfl (hp 5 _ rfl rfl).1 rfl (fun hc => d_load y54 hs.le ((hp 8 _ rfl rfl).1 hc))) (AOK.cons (fun ρ a w hs hz hΓ hp => gg (g := 5) (d := 10) hz rfl (hp 5 _ rfl rfl).1 rfl (fun hc => d_call fn150 hs.le mapA2 (c150 w _ _ hs.le (e6 hc).1 ((hp 7 _ rfl rfl).1 hc) ((hp 9 _ rfl rfl).1 hc)))) (AOK.cons (fun ρ a w hs hz hΓ hp => gp (d_pick (hp 5 _ rfl rfl).1 (fun hc => (pE ((e6 hc).2) ((hp 10 _ rfl rfl).1 hc))) (fun hc => pC (e7 hc)))) (AOK.cons (fun ρ a w hs hz hΓ hp => gp (d_move (hp 11 _ rfl rfl).1)) (AOK.cons (fun ρ a w hs hz hΓ hp => gg (g := 12) (d := 17) hz rfl (hp 12 _ rfl rfl).1 rfl (fun hc => d_idxPc .i64 2 u63 y54 (hΓ 2 rfl) rfl)) (AOK.cons (fun ρ a w hs hz hΓ hp => gg (g := 12) (d := 17) hz rfl (hp 12 _ rfl rfl).1 rfl (fun hc => d_load y54 hs.le ((hp 13 _ rfl rfl).1 hc))) (AOK.cons (fun ρ a w hs hz hΓ hp => gg (g := 12) (d := 17) hz rfl (hp 12 _ rfl rfl).1 rfl (fun hc => d_idxPc .i64 2 u63 y54 (hΓ 3 rfl) rfl)) (AOK.cons (fun ρ a w hs hz hΓ hp => gg (g := 12) (d := 17) hz rfl (hp 12 _ rfl rfl).1 rfl (fun hc => d_load y54 hs.le ((hp 15 _ rfl rfl).1 hc))) (AOK.cons (fun ρ a w hs hz hΓ hp => gg (g := 12) (d := 17) hz rfl (hp 12 _ rfl rfl).1 rfl (fun hc => d_call fn150 hs.le mapA2 (c150 w _ _ hs.le (e10 hc).1 ((hp 14 _ rfl rfl).1 hc) ((hp 16 _ rfl rfl).1 hc)))) (AOK.cons (fun ρ a w hs hz hΓ hp => gp (d_pick (hp 12 _ rfl rfl).1 (fun hc => (pE ((e10 hc).2) ((hp 17 _ rfl rfl).1 hc))) (fun hc => pC (e11 hc)))) (AOK.cons (fun ρ a w hs hz hΓ hp => gp (d_assign (hp 18 _ rfl rfl).1)) AOK.nil rfl) rfl) rfl) rfl) rfl) rfl) rfl) rfl) rfl) rfl) rfl) rfl) rfl) rfl) rfl) rfl) rfl) rfl) rfl) rfl) (fun vs2 => ?_)
  refine T.nil ?_
  refine T.norm ?_
  refine T.ret ?_
  obtain rfl := Option.some.inj hF
  refine T.fin0 fun ρ a w st => ?_
  exact ⟨_, results_one rfl rfl, (st.env 4)⟩

theorem c124 (w : World) (v0 v1 : Value) {σ : Heap} (hσ : σ.le (snap w)) {x0 : ((List Nat) × (List Nat) × (List Nat) × Nat × Nat)} {x1 : ((List Nat) × (List Nat) × (List Nat) × Nat × Nat)} {r : Bool} (hF : spec_l02Same x0 x1 = some r) (h0 : (TP Y56).val σ v0 x0) (h1 : (TP Y56).val σ v1 x1) :
    Calls Try.prog 124 #[v0, v1] w (Ret [] w σ (TB.sv r) []) := by
  unfold spec_l02Same at hF
  refine start (args := [v0, v1]) Try.func124 rfl 58 rfl [] [(0, ((TP Y56).sv x0)), (1, ((TP Y56).sv x1))] [] (sat_start _ hσ) rfl (args1 rfl h0 (args1 rfl h1 (args0))) ?_
  refine T.seq ?_
  refine T.region mix 1 [4] [0] [(sp (TB.sv false))] (by kernel_rfl) (AOK.cons (fun ρ a w hs hz hΓ hp => gp (d_assign (vB _))) AOK.nil rfl) (fun vs1 => ?_)
  refine T.nil ?_
  refine T.norm ?_
  refine T.seq ?_
  obtain ⟨x13, e3, hF⟩ := bindS hF
  obtain ⟨x24, e5, hF⟩ := bindS hF
  obtain ⟨x23, e6⟩ : ∃ (x23 : Bool), x13 = true → spec_l01SamePoint x0.2.1 x1.2.1 = some x23 ∧ x23 = x24 := by
    by_cases hb : x13 = true
    · replace e5 := iteT e5 hb
      obtain ⟨x23, e4, e5⟩ := bindS e5
      exact ⟨x23, fun _ => ⟨e4, Option.some.inj e5⟩⟩
    · exact ⟨default, fun h => absurd h hb⟩
  have e7 : x13 = false → false = x24 := fun h => Option.some.inj (iteF e5 h)
  obtain ⟨x35, e9, hF⟩ := bindS hF
  obtain ⟨x34, e10⟩ : ∃ (x34 : Bool), x24 = true → spec_l01SamePoint x0.2.2.1 x1.2.2.1 = some x34 ∧ x34 = x35 := by
    by_cases hb : x24 = true
    · replace e9 := iteT e9 hb
      obtain ⟨x34, e8, e9⟩ := bindS e9
      exact ⟨x34, fun _ => ⟨e8, Option.some.inj e9⟩⟩
    · exact ⟨default, fun h => absurd h hb⟩
  have e11 : x24 = false → false = x35 := fun h => Option.some.inj (iteF e9 h)
  obtain ⟨x46, e13, hF⟩ := bindS hF
  obtain ⟨x45, e14⟩ : ∃ (x45 : Bool), x35 = true → spec_l01Same x0.2.2.2.1 x1.2.2.2.1 = some x45 ∧ x45 = x46 := by
    by_cases hb : x35 = true
    · replace e13 := iteT e13 hb
      obtain ⟨x45, e12, e13⟩ := bindS e13
      exact ⟨x45, fun _ => ⟨e12, Option.some.inj e13⟩⟩
    · exact ⟨default, fun h => absurd h hb⟩
  have e15 : x35 = false → false = x46 := fun h => Option.some.inj (iteF e13 h)
  obtain ⟨x57, e17, hF⟩ := bindS hF
  obtain ⟨x56, e18⟩ : ∃ (x56 : Bool), x46 = true → spec_l01Same x0.2.2.2.2 x1.2.2.2.2 = some x56 ∧ x56 = x57 := by
    by_cases hb : x46 = true
    · replace e17 := iteT e17 hb
      obtain ⟨x56, e16, e17⟩ := bindS e17
      exact ⟨x56, fun _ => ⟨e16, Option.some.inj e17⟩⟩
    · exact ⟨default, fun h => absurd h hb⟩
  have e19 : x46 = false → false = x57 := fun h => Option.some.inj (iteF e17 h)
  refine T.region mix 54 [5, 6, 7, 8, 9, 10, 11, 12, 13, 14, 15, 16, 17, 18, 19, 20, 21, 22, 23, 24, 25, 26, 27, 28, 29, 30, 31, 32, 33, 34, 35, 36, 37, 38, 39, 40, 41, 42, 43, 44, 45, 46, 47, 48, 49, 50, 51, 52, 53, 54, 55, 56, 57, 4] [0, 1, 3, 7, 0, 16, 48, 112, 255, 511, 1023, 2047, 4095, 8191, 1023, 17407, 50175, 115711, 262143, 524287, 1048575, 2097151, 4194303, 8388607, 16777215, 2097151, 35651583, 102760447, 236978175, 536870911, 1073741823, 2147483647, 4294967295, 8589934591, 17179869183, 34359738367, 4294967295, 73014444031, 210453397503, 485331304447, 1099511627775, 2199023255551, 4398046511103, 8796093022207, 17592186044415, 35184372088831, 70368744177663, 8796093022207, 149533581377535, 431008558088191, 993958511509503, 2251799813685247, 4503599627370495, 9007199254740991] [(sp ((TP Y56).sv x0)), (sp ((TP Y56).sv x0)), (sp ((TP Y55).sv x0.1)), (sp (Y55.sv x0.1)), (sp ((TP Y56).sv x1)), (sp ((TP Y56).sv x1)), (sp ((TP Y55).sv x1.1)), (sp (Y55.sv x1.1)), (sp (TB.sv x13)), (sp (TB.sv x13)), (sp (SRel.when (x13 = true) ((TP Y56).sv x0))), (sp (SRel.when (x13 = true) ((TP Y56).sv x0))), (sp (SRel.when (x13 = true) ((TP Y55).sv x0.2.1))), (sp (SRel.when (x13 = true) (Y55.sv x0.2.1))), (sp (SRel.when (x13 = true) ((TP Y56).sv x1))), (sp (SRel.when (x13 = true) ((TP Y56).sv x1))), (sp (SRel.when (x13 = true) ((TP Y55).sv x1.2.1))), (sp (SRel.when (x13 = true) (Y55.sv x1.2.1))), (sp (SRel.when (x13 = true) (TB.sv x23))), (sp (TB.sv x24)), (sp (TB.sv x24)), (sp (SRel.when (x24 = true) ((TP Y56).sv x0))), (sp (SRel.when (x24 = true) ((TP Y56).sv x0))), (sp (SRel.when (x24 = true) ((TP Y55).sv x0.2.2.1))), (sp (SRel.when (x24 = true) (Y55.sv x0.2.2.1))), (sp (SRel.when (x24 = true) ((TP Y56).sv x1))), (sp (SRel.when (x24 = true) ((TP Y56).sv x1))), (sp (SRel.when (x24 = true) ((TP Y55).sv x1.2.2.1))), (sp (SRel.when (x24 = true) (Y55.sv x1.2.2.1))), (sp (SRel.when (x24 = true) (TB.sv x34))), (sp (TB.sv x35)), (sp (TB.sv x35)), (sp (SRel.when (x35 = true) ((TP Y56).sv x0))), (sp (SRel.when (x35 = true) ((TP Y56).sv x0))), (sp (SRel.when (x35 = true) ((TP (TF .f32)).sv x0.2.2.2.1))), (sp (SRel.when (x35 = true) ((TF .f32).sv x0.2.2.2.1))), (sp (SRel.when (x35 = true) ((TP Y56).sv x1))), (sp (SRel.when (x35 = true) ((TP Y56).sv x1))), (sp (SRel.when (x35 = true) ((TP (TF .f32)).sv x1.2.2.2.1))), (sp (SRel.when (x35 = true) ((TF .f32).sv x1.2.2.2.1))), (sp (SRel.when (x35 = true) (TB.sv x45))), (sp (TB.sv x46)), (sp (TB.sv x46)), (sp (SRel.when (x46 = true) ((TP Y56).sv x0))), (sp (SRel.when (x46 = true) ((TP Y56).sv x0))), (sp (SRel.when (x46 = true) ((TP (TF .f32)).sv x0.2.2.2.2))), (sp (SRel.when (x46 = true) ((TF .f32).sv x0.2.2.2.2))), (sp (SRel.when (x46 = true) ((TP Y56).sv x1))), (sp (SRel.when (x46 = true) ((TP Y56).sv x1))), (sp (SRel.when (x46 = true) ((TP (TF .f32)).sv x1.2.2.2.2))), (sp (SRel.when (x46 = true) ((TF .f32).sv x1.2.2.2.2))), (sp (SRel.when (x46 = true) (TB.sv x56))), (sp (TB.sv x57)), (sp (TB.sv x57))] (by kernel_rfl) (AOK.cons (fun ρ a w hs hz hΓ hp => gp (d_move (hΓ 0 rfl))) (AOK.cons (fun ρ a w hs hz hΓ hp => gp (d_nilCheckP (hp 0 _ rfl rfl).1)) (AOK.cons (fun ρ a w hs hz hΓ hp => gp (d_fieldP fa65_0 (hp 1 _ rfl rfl).1 (At.fst (At.refl _ _)))) (AOK.cons (fun ρ a w hs hz hΓ hp => gp (d_load y63 hs.le (hp 2 _ rfl rfl).1)) (AOK.cons (fun ρ a w hs hz hΓ hp => gp (d_move (hΓ 1 rfl))) (AOK.cons (fun ρ a w hs hz hΓ hp => gp (d_nilCheckP (hp 4 _ rfl rfl).1)) (AOK.cons (fun ρ a w hs hz hΓ hp => gp (d_fieldP fa65_0 (hp 5 _ rfl rfl).1 (At.fst (At.refl _ _)))) (AOK.cons (fun ρ a w hs hz hΓ hp => gp (d_load y63 hs.le (hp 6 _ rfl rfl).1)) (AOK.cons (fun ρ a w hs hz hΓ hp => gp (d_call fn149 hs.le mapA2 (c149 w _ _ hs.le e3 ((hp 3 _ rfl rfl).1) ((hp 7 _ rfl rfl).1)))) (AOK.cons (fun ρ a w hs hz hΓ hp => gp (d_move (hp 8 _ rfl rfl).1)) (AOK.cons (fun ρ a w hs hz hΓ hp => gg (g := 9) (d := 14) hz rfl (hp 9 _ rfl rfl).1 rfl (fun hc => d_move (hΓ 0 rfl))) (AOK.cons (fun ρ a w hs hz hΓ hp => gg (g := 9) (d := 14) hz rfl (hp 9 _ rfl rfl).1 rfl (fun hc => d_nilCheckP ((hp 10 _ rfl rfl).1 hc))) (AOK.cons (fun ρ a w hs hz hΓ hp => gg (g := 9) (d := 14) hz rfl (hp 9 _ rfl rfl).1 rfl (fun hc => d_fieldP fa65_1 ((hp 11 _ rfl rfl).1 hc) (At.fst (At.snd (At.refl _ _))))) (AOK.cons (fun ρ a w hs hz hΓ hp => gg (g := 9) (d := 14) hz rfl (hp 9 _ rfl rfl).1 rfl (fun hc => d_load y63 hs.le ((hp 12 _ rfl rfl).1 hc))) (AOK.cons (fun ρ a w hs hz hΓ hp => gg (g := 9) (d := 14) hz rfl (hp 9 _ rfl rfl).1 rfl (fun hc => d_move (hΓ 1 rfl))) (AOK.cons (fun ρ a w hs hz hΓ hp => gg (g := 9) (d := 14) hz rfl (hp 9 _ rfl rfl).1 rfl (fun hc => d_nilCheckP ((hp 14 _ rfl rfl).1 hc))) (AOK.cons (fun ρ a w hs hz hΓ hp => gg (g := 9) (d := 14) hz rfl (hp 9 _ rfl rfl).1 rfl (fun hc => d_fieldP fa65_1 ((hp 15 _ rfl rfl).1 hc) (At.fst (At.snd (At.refl _ _))))) (AOK.cons (fun ρ a w hs hz hΓ hp => gg (g := 9) (d := 14) hz rfl (hp 9 _ rfl rfl).1 rfl (fun hc => d_load y63 hs.le ((hp 16 _ rfl rfl).1 hc))) (AOK.cons (fun ρ a w hs hz hΓ hp => gg (g := 9) (d := 14) hz rfl (hp 9 _ rfl rfl).1 rfl (fun hc => d_call fn149 hs.le mapA2 (c149 w _ _ hs.le (e6 hc).1 ((hp 13 _ rfl rfl).1 hc) ((hp 17 _ rfl rfl).1 hc)))) (AOK.cons (fun ρ a w hs hz hΓ hp => gp (d_pick (hp 9 _ rfl rfl).1 (fun hc => (pE ((e6 hc).2) ((hp 18 _ rfl rfl).1 hc))) (fun hc => pC (e7 hc)))) (AOK.cons (fun ρ a w hs hz hΓ hp => gp (d_move (hp 19 _ rfl rfl).1)) (AOK.cons (fun ρ a w hs hz hΓ hp => gg (g := 20) (d := 25) hz rfl (hp 20 _ rfl rfl).1 rfl (fun hc => d_move (hΓ 0 rfl))) (AOK.cons (fun ρ a w hs hz hΓ hp => gg (g := 20) (d := 25) hz rfl (hp 20 _ rfl rfl).1 rfl (fun hc => d_nilCheckP ((hp 21 _ rfl rfl).1 hc))) (AOK.cons (fun ρ a w hs hz hΓ hp => gg (g := 20) (d := 25) hz rfl (hp 20 _ rfl rfl).1 rfl (fun hc => d_fieldP fa65_2 ((hp 22 _ rfl rfl).1 hc) (At.fst (At.snd (At.snd (At.refl _ _)))))) (AOK.cons (fun ρ a w hs hz hΓ hp => gg (g := 20) (d := 25) hz rfl (hp 20 _ rfl rfl).1 rfl (fun hc => d_load y63 hs.le ((hp 23 _ rfl rfl).1 hc))) (AOK.cons (fun ρ a w hs hz hΓ hp => gg (g := 20) (d := 25) hz rfl (hp 20 _ rfl rfl).1 rfl (fun hc => d_move (hΓ 1 rfl))) (AOK.cons (fun ρ a w hs hz hΓ hp => gg (g := 20) (d := 25) hz rfl (hp 20 _ rfl rfl).1 rfl (fun hc => d_nilCheckP ((hp 25 _ rfl rfl).1 hc))) (AOK.cons (fun ρ a w hs hz hΓ hp => gg (g := 20) (d := 25) hz rfl (hp 20 _ rfl rfl).1 rfl (fun hc => d_fieldP fa65_2 ((hp 26 _ rfl rfl).1 hc) (At.fst (At.snd (At.snd (At.refl _ _)))))) (AOK.cons (fun ρ a w hs hz hΓ hp => gg (g := 20) (d := 25) hz rfl (hp 20 _ rfl rfl).1 rfl (fun hc => d_load y63 hs.le ((hp 27 _ rfl rfl).1 hc))) (AOK.cons (fun ρ a w hs hz hΓ hp => gg (g := 20) (d := 25) hz rfl (hp 20 _ rfl rfl).1 rfl (fun hc => d_call fn149 hs.le mapA2 (c149 w _ _ hs.le (e10 hc).1 ((hp 24 _ rfl rfl).1 hc) ((hp 28 _ rfl rfl).1 hc)))) (AOK.cons (fun ρ a w hs hz hΓ hp => gp (d_pick (hp 20 _ rfl rfl).1 (fun hc => (pE ((e10 hc).2) ((hp 29 _ rfl rfl).1 hc))) (fun hc => pC (e11 hc)))) (AOK.cons (fun ρ a w hs hz hΓ hp => gp (d_move (hp 30 _ rfl rfl).1)) (AOK.cons (fun ρ a w hs hz hΓ hp => gg (g := 31) (d := 36) hz rfl (hp 31 _ rfl rfl).1 rfl (fun hc => d_move (hΓ 0 rfl))) (AOK.cons (fun ρ a w hs hz hΓ hp => gg (g := 31) (d := 36) hz rfl (hp 31 _ rfl rfl).1 rfl (fun hc => d_nilCheckP ((hp 32 _ rfl rfl).1 hc))) (AOK.cons (fun ρ a w hs hz hΓ hp => gg (g := 31) (d := 36) hz rfl (hp 31 _ rfl rfl).1 rfl (fun hc => d_fieldP fa65_3 ((hp 33 _ rfl rfl).1 hc) (At.fst (At.snd (At.snd (At.snd (At.refl _ _))))))) (AOK.cons (fun ρ a w hs hz hΓ hp => gg (g := 31) (d := 36) hz rfl (hp 31 _ rfl rfl).1 rfl (fun hc => d_load y54 hs.le ((hp 34 _ rfl rfl).1 hc))) (AOK.cons (fun ρ a w hs hz hΓ hp => gg (g := 31) (d := 36) hz rfl (hp 31 _ rfl rfl).1 rfl (fun hc => d_move (hΓ 1 rfl))) (AOK.cons (fun ρ a w hs hz hΓ hp => gg (g := 31) (d := 36) hz rfl (hp 31 _ rfl rfl).1 rfl (fun hc => d_nilCheckP ((hp 36 _ rfl rfl).1 hc))) (AOK.cons (fun ρ a w hs hz hΓ hp => gg (g := 31) (d := 36) hz rfl (hp 31 _ rfl rfl).1 rfl (fun hc => d_fieldP fa65_3 ((hp 37 _ rfl rfl).1 hc) (At.fst (At.snd (At.snd (At.snd (At.refl _ _))))))) (AOK.cons (fun ρ a w hs hz hΓ hp => gg (g := 31) (d := 36) hz rfl (hp 31 _ rfl rfl).1 rfl (fun hc => d_load y54 hs.le ((hp 38 _ rfl rfl).1 hc))) (AOK.cons (fun ρ a w hs hz hΓ hp => gg (g := 31) (d := 36) hz rfl (hp 31 _ rfl rfl).1 rfl (fun hc => d_call fn150 hs.le mapA2 (c150 w _ _ hs.le (e14 hc).1 ((hp 35 _ rfl rfl).1 hc) ((hp 39 _ rfl rfl).1 hc)))) (AOK.cons (fun ρ a w hs hz hΓ hp => gp (d_pick (hp 31 _ rfl rfl).1 (fun hc => (pE ((e14 hc).2) ((hp 40 _ rfl rfl).1 hc))) (fun hc => pC (e15 hc)))) (AOK.cons (fun ρ a w hs hz hΓ hp => gp (d_move (hp 41 _ rfl rfl).1)) (AOK.cons (fun ρ a w hs hz hΓ hp => gg (g := 42) (d := 47) hz rfl (hp 42 _ rfl rfl).1 rfl (fun hc => d_move (hΓ 0 rfl))) (AOK.cons (fun ρ a w hs hz hΓ hp => gg (g := 42) (d := 47) hz rfl (hp 42 _ rfl rfl).1 rfl (fun hc => d_nilCheckP ((hp 43 _ rfl rfl).1 hc))) (AOK.cons (fun ρ a w hs hz hΓ hp => gg (g := 42) (d := 47) hz rfl (hp 42 _ rfl rfl).1 rfl (fun hc => d_fieldP fa65_4 ((hp 44 _ rfl rfl).1 hc) (At.snd (At.snd (At.snd (At.snd (At.refl _ _))))))) (AOK.cons (fun ρ a w hs hz hΓ hp => gg (g := 42) (d := 47) hz rfl (hp 42 _ rfl rfl).1 rfl (fun hc => d_load y54 hs.le ((hp 45 _ rfl rfl).1 hc))) (AOK.cons (fun ρ a w hs hz hΓ hp => gg (g := 42) (d := 47) hz rfl (hp 42 _ rfl rfl).1 rfl (fun hc => d_move (hΓ 1 rfl))) (AOK.cons (fun ρ a w hs hz hΓ hp => gg (g := 42) (d := 47) hz rfl (hp 42 _ rfl rfl).1 rfl (fun hc => d_nilCheckP ((hp 47 _ rfl rfl).1 hc))) (AOK.cons (fun ρ a w hs hz hΓ hp => gg (g := 42) (d := 47) hz rfl (hp 42 _ rfl rfl).1 rfl (fun hc => d_fieldP fa65_4 ((hp 48 _ rfl rfl).1 hc) (At.snd (At.snd (At.snd (At.snd (At.refl _ _))))))) (AOK.cons (fun ρ a w hs hz hΓ hp => gg (g := 42) (d := 47) hz rfl (hp 42 _ rfl rfl).1 rfl (fun hc => d_load y54 hs.le ((hp 49 _ rfl rfl).1 hc))) (AOK.cons (fun ρ a w hs hz hΓ hp => gg (g := 42) (d := 47) hz rfl (hp 42 _ rfl rfl).1 rfl (fun hc => d_call fn150 hs.le mapA2 (c150 w _ _ hs.le (e18 hc).1 ((hp 46 _ rfl rfl).1 hc) ((hp 50 _ rfl rfl).1 hc)))) (AOK.cons (fun ρ a w hs hz hΓ hp => gp (d_pick (hp 42 _ rfl rfl).1 (fun hc => (pE ((e18 hc).2) ((hp 51 _ rfl rfl).1 hc))) (fun hc => pC (e19 hc)))) (AOK.cons (fun ρ a w hs hz hΓ hp => gp (d_assign (hp 52 _ rfl rfl).1)) AOK.nil rfl) rfl) rfl) rfl) rfl) rfl) rfl) rfl) rfl) rfl) rfl) rfl) rfl) rfl) rfl) rfl) rfl) rfl) rfl) rfl) rfl) rfl) rfl) rfl) rfl) rfl) rfl) rfl) rfl) rfl) rfl) rfl) rfl) rfl) rfl) rfl) rfl) rfl) rfl) rfl) rfl) rfl) rfl) rfl) rfl) rfl) rfl) rfl) rfl) rfl) rfl) rfl) rfl) rfl) (fun vs2 => ?_)
  refine T.nil ?_
  refine T.norm ?_
  refine T.ret ?_
  obtain rfl := Option.some.inj hF
  refine T.fin0 fun ρ a w st => ?_
  exact ⟨_, results_one rfl rfl, (st.env 4)⟩

theorem c151 (w : World) (v0 v1 : Value) {σ : Heap} (hσ : σ.le (snap w)) {x0 : (List Nat)} {x1 : (List Nat)} {r : Bool} (hF : spec_SamePoint x0 x1 = some r) (h0 : Y55.val σ v0 x0) (h1 : Y55.val σ v1 x1) :
    Calls Try.prog 151 #[v0, v1] w (Ret [] w σ (TB.sv r) []) := by
  unfold spec_SamePoint at hF
  refine start (args := [v0, v1]) Try.func151 rfl 8 rfl [] [(0, (Y55.sv x0)), (1, (Y55.sv x1))] [] (sat_start _ hσ) rfl (args1 rfl h0 (args1 rfl h1 (args0))) ?_
  refine T.seq ?_
  refine T.region mix 3 [2, 3, 4] [0, 0, 0] [(sp ((TP Y55).sv x0)), (sp ((TP Y55).sv x1)), (sp (TB.sv false))] (by kernel_rfl) (AOK.cons (fun ρ a w hs hz hΓ hp => gp (d_box hs.le (hΓ 0 rfl))) (AOK.cons (fun ρ a w hs hz hΓ hp => gp (d_box hs.le (hΓ 1 rfl))) (AOK.cons (fun ρ a w hs hz hΓ hp => gp (d_assign (vB _))) AOK.nil rfl) rfl) rfl) (fun vs1 => ?_)
  refine T.nil ?_
  refine T.norm ?_
  refine T.seq ?_
  obtain ⟨x7, e3, hF⟩ := bindS hF
  refine T.region mix 4 [5, 6, 7, 4] [0, 0, 3, 7] [(sp (Y55.sv x0)), (sp (Y55.sv x1)), (sp (TB.sv x7)), (sp (TB.sv x7))] (by kernel_rfl) (AOK.cons (fun ρ a w hs hz hΓ hp => gp (d_load y63 hs.le (hΓ 2 rfl))) (AOK.cons (fun ρ a w hs hz hΓ hp => gp (d_load y63 hs.le (hΓ 3 rfl))) (AOK.cons (fun ρ a w hs hz hΓ hp => gp (d_call fn149 hs.le mapA2 (c149 w _ _ hs.le e3 ((hp 0 _ rfl rfl).1) ((hp 1 _ rfl rfl).1)))) (AOK.cons (fun ρ a w hs hz hΓ hp => gp (d_assign (hp 2 _ rfl rfl).1)) AOK.nil rfl) rfl) rfl) rfl) (fun vs2 => ?_)
  refine T.nil ?_
  refine T.norm ?_
  refine T.ret ?_
  obtain rfl := Option.some.inj hF
  refine T.fin0 fun ρ a w st => ?_
  exact ⟨_, results_one rfl rfl, (st.env 4)⟩

theorem c125 (w : World) (v0 v1 : Value) {σ : Heap} (hσ : σ.le (snap w)) {x0 : ((List (List Nat)) × (List (List Int)))} {x1 : ((List (List Nat)) × (List (List Int)))} {r : Bool} (hF : spec_l03Same x0 x1 = some r) (h0 : (TP Y157).val σ v0 x0) (h1 : (TP Y157).val σ v1 x1) :
    Calls Try.prog 125 #[v0, v1] w (Ret [] w σ (TB.sv r) []) := by
  unfold spec_l03Same at hF
  refine start (args := [v0, v1]) Try.func125 rfl 116 rfl [] [(0, ((TP Y157).sv x0)), (1, ((TP Y157).sv x1))] [] (sat_start _ hσ) rfl (args1 rfl h0 (args1 rfl h1 (args0))) ?_
  refine T.seq ?_
  refine T.region mix 1 [4] [0] [(sp (TB.sv false))] (by kernel_rfl) (AOK.cons (fun ρ a w hs hz hΓ hp => gp (d_assign (vB _))) AOK.nil rfl) (fun vs1 => ?_)
  refine T.nil ?_
  refine T.norm ?_
  refine T.seq ?_
  refine T.seq ?_
  refine T.region mix 24 [8, 9, 10, 11, 12, 13, 14, 15, 16, 17, 18, 19, 20, 21, 22, 23, 24, 25, 26, 27, 28, 29, 30, 31] [0, 1, 3, 7, 15, 0, 32, 96, 224, 480, 1023, 2047, 4095, 8191, 16383, 32767, 65535, 4095, 135167, 397311, 921599, 1970175, 4194303, 8388607] [(sp ((TP Y157).sv x0)), (sp ((TP Y157).sv x0)), (sp ((TP Y156).sv x0.1)), (sp (Y156.sv x0.1)), (sp ((TI .i64).sv (x0.1.length : Int))), (sp ((TP Y157).sv x1)), (sp ((TP Y157).sv x1)), (sp ((TP Y156).sv x1.1)), (sp (Y156.sv x1.1)), (sp ((TI .i64).sv (x1.1.length : Int))), (sp (TB.sv (decide ((x0.1.length : Int) ≠ (x1.1.length : Int))))), (sp (TB.sv (decide ((x0.1.length : Int) ≠ (x1.1.length : Int))))), (sp (SRel.when ((decide ((x0.1.length : Int) ≠ (x1.1.length : Int))) = false) ((TP Y157).sv x0))), (sp (SRel.when ((decide ((x0.1.length : Int) ≠ (x1.1.length : Int))) = false) ((TP Y157).sv x0))), (sp (SRel.when ((decide ((x0.1.length : Int) ≠ (x1.1.length : Int))) = false) ((TP Y125).sv x0.2))), (sp (SRel.when ((decide ((x0.1.length : Int) ≠ (x1.1.length : Int))) = false) (Y125.sv x0.2))), (sp (SRel.when ((decide ((x0.1.length : Int) ≠ (x1.1.length : Int))) = false) ((TI .i64).sv (x0.2.length : Int)))), (sp (SRel.when ((decide ((x0.1.length : Int) ≠ (x1.1.length : Int))) = false) ((TP Y157).sv x1))), (sp (SRel.when ((decide ((x0.1.length : Int) ≠ (x1.1.length : Int))) = false) ((TP Y157).sv x1))), (sp (SRel.when ((decide ((x0.1.length : Int) ≠ (x1.1.length : Int))) = false) ((TP Y125).sv x1.2))), (sp (SRel.when ((decide ((x0.1.length : Int) ≠ (x1.1.length : Int))) = false) (Y125.sv x1.2))), (sp (SRel.when ((decide ((x0.1.length : Int) ≠ (x1.1.length : Int))) = false) ((TI .i64).sv (x1.2.length : Int)))), (sp (SRel.when ((decide ((x0.1.length : Int) ≠ (x1.1.length : Int))) = false) (TB.sv (decide ((x0.2.length : Int) ≠ (x1.2.length : Int)))))), (sp (TB.sv ((decide ((x0.1.length : Int) ≠ (x1.1.length : Int))) || (decide ((x0.2.length : Int) ≠ (x1.2.length : Int))))))] (by kernel_rfl) (AOK.cons (fun ρ a w hs hz hΓ hp => gp (d_move (hΓ 0 rfl))) (AOK.cons (fun ρ a w hs hz hΓ hp => gp (d_nilCheckP (hp 0 _ rfl rfl).1)) (AOK.cons (fun ρ a w hs hz hΓ hp => gp (d_fieldP fa127_0 (hp 1 _ rfl rfl).1 (At.fst (At.refl _ _)))) (AOK.cons (fun ρ a w hs hz hΓ hp => gp (d_load y124 hs.le (hp 2 _ rfl rfl).1)) (AOK.cons (fun ρ a w hs hz hΓ hp => gp (d_lenR u124 (hp 3 _ rfl rfl).1)) (AOK.cons (fun ρ a w hs hz hΓ hp => gp (d_move (hΓ 1 rfl))) (AOK.cons (fun ρ a w hs hz hΓ hp => gp (d_nilCheckP (hp 5 _ rfl rfl).1)) (AOK.cons (fun ρ a w hs hz hΓ hp => gp (d_fieldP fa127_0 (hp 6 _ rfl rfl).1 (At.fst (At.refl _ _)))) (AOK.cons (fun ρ a w hs hz hΓ hp => gp (d_load y124 hs.le (hp 7 _ rfl rfl).1)) (AOK.cons (fun ρ a w hs hz hΓ hp => gp (d_lenR u124 (hp 8 _ rfl rfl).1)) (AOK.cons (fun ρ a w hs hz hΓ hp => gp (d_neq (hp 4 _ rfl rfl).1 (hp 9 _ rfl rfl).1)) (AOK.cons (fun ρ a w hs hz hΓ hp => gp (d_move (hp 10 _ rfl rfl).1)) (AOK.cons (fun ρ a w hs hz hΓ hp => gg (g := 11) (d := 19) hz rfl (hp 11 _ rfl rfl).1 rfl (fun hc => d_move (hΓ 0 rfl))) (AOK.cons (fun ρ a w hs hz hΓ hp => gg (g := 11) (d := 19) hz rfl (hp 11 _ rfl rfl).1 rfl (fun hc => d_nilCheckP ((hp 12 _ rfl rfl).1 hc))) (AOK.cons (fun ρ a w hs hz hΓ hp => gg (g := 11) (d := 19) hz rfl (hp 11 _ rfl rfl).1 rfl (fun hc => d_fieldP fa127_1 ((hp 13 _ rfl rfl).1 hc) (At.snd (At.refl _ _)))) (AOK.cons (fun ρ a w hs hz hΓ hp => gg (g := 11) (d := 19) hz rfl (hp 11 _ rfl rfl).1 rfl (fun hc => d_load y125 hs.le ((hp 14 _ rfl rfl).1 hc))) (AOK.cons (fun ρ a w hs hz hΓ hp => gg (g := 11) (d := 19) hz rfl (hp 11 _ rfl rfl).1 rfl (fun hc => d_lenR u125 ((hp 15 _ rfl rfl).1 hc))) (AOK.cons (fun ρ a w hs hz hΓ hp => gg (g := 11) (d := 19) hz rfl (hp 11 _ rfl rfl).1 rfl (fun hc => d_move (hΓ 1 rfl))) (AOK.cons (fun ρ a w hs hz hΓ hp => gg (g := 11) (d := 19) hz rfl (hp 11 _ rfl rfl).1 rfl (fun hc => d_nilCheckP ((hp 17 _ rfl rfl).1 hc))) (AOK.cons (fun ρ a w hs hz hΓ hp => gg (g := 11) (d := 19) hz rfl (hp 11 _ rfl rfl).1 rfl (fun hc => d_fieldP fa127_1 ((hp 18 _ rfl rfl).1 hc) (At.snd (At.refl _ _)))) (AOK.cons (fun ρ a w hs hz hΓ hp => gg (g := 11) (d := 19) hz rfl (hp 11 _ rfl rfl).1 rfl (fun hc => d_load y125 hs.le ((hp 19 _ rfl rfl).1 hc))) (AOK.cons (fun ρ a w hs hz hΓ hp => gg (g := 11) (d := 19) hz rfl (hp 11 _ rfl rfl).1 rfl (fun hc => d_lenR u125 ((hp 20 _ rfl rfl).1 hc))) (AOK.cons (fun ρ a w hs hz hΓ hp => gg (g := 11) (d := 19) hz rfl (hp 11 _ rfl rfl).1 rfl (fun hc => d_neq ((hp 16 _ rfl rfl).1 hc) ((hp 21 _ rfl rfl).1 hc))) (AOK.cons (fun ρ a w hs hz hΓ hp => gp (d_pick (hp 11 _ rfl rfl).1 (fun hc => pON hc) (fun hc => pO hc ((hp 22 _ rfl rfl).1 hc)))) AOK.nil rfl) rfl) rfl) rfl) rfl) rfl) rfl) rfl) rfl) rfl) rfl) rfl) rfl) rfl) rfl) rfl) rfl) rfl) rfl) rfl) rfl) rfl) rfl) rfl) (fun vs2 => ?_)
  refine T.nil ?_
  refine T.norm ?_
  refine T.cond (b := ((decide ((x0.1.length : Int) ≠ (x1.1.length : Int))) || (decide ((x0.2.length : Int) ≠ (x1.2.length : Int))))) (fun _ _ h => h) (fun hc => ?_) (fun hc => ?_)
  · replace hF := iteT hF hc
    refine T.seq ?_
    refine T.region mix 1 [4] [0] [(sp (TB.sv false))] (by kernel_rfl) (AOK.cons (fun ρ a w hs hz hΓ hp => gp (d_assign (vB _))) AOK.nil rfl) (fun vs3 => ?_)
    refine T.nil ?_
    refine T.norm ?_
    refine T.ret ?_
    obtain rfl := Option.some.inj hF
    refine T.fin0 fun ρ a w st => ?_
    exact ⟨_, results_one rfl rfl, (st.env 4)⟩
  · replace hF := iteF hF hc
    refine T.skip ?_
    refine T.norm ?_
    refine T.seq ?_
    refine T.seq ?_
    refine T.region mix 1 [5] [0] [(sp ((TI .i64).sv 0))] (by kernel_rfl) (AOK.cons (fun ρ a w hs hz hΓ hp => gp (d_assign (vI rfl))) AOK.nil rfl) (fun vs4 => ?_)
    refine T.nil ?_
    refine T.norm ?_
    obtain ⟨yl5, e6, hF⟩ := bindS hF
    refine T.joinD (ι := Int × (Unit)) (fun p => yl5 = .inl p.1) (Γ' := fun p => E [(0, ((TP Y157).sv x0)), (1, ((TP Y157).sv x1))]) (H' := fun p => HL []) (fun p hy => ?_) (fun hk => ?_)
    · obtain ⟨o5, _⟩ := p
      cases hy
      refine T.norm ?_
      refine T.seq ?_
      refine T.seq ?_
      refine T.region mix 1 [6] [0] [(sp ((TI .i64).sv 0))] (by kernel_rfl) (AOK.cons (fun ρ a w hs hz hΓ hp => gp (d_assign (vI rfl))) AOK.nil rfl) (fun vs7 => ?_)
      refine T.nil ?_
      refine T.norm ?_
      obtain ⟨yl8, e9, hF⟩ := bindS hF
      refine T.joinD (ι := Int × (Unit)) (fun p => yl8 = .inl p.1) (Γ' := fun p => E []) (H' := fun p => HL []) (fun p hy => ?_) (fun hk => ?_)
      · obtain ⟨o6, _⟩ := p
        cases hy
        refine T.norm ?_
        refine T.seq ?_
        refine T.region mix 1 [4] [0] [(sp (TB.sv true))] (by kernel_rfl) (AOK.cons (fun ρ a w hs hz hΓ hp => gp (d_assign (vB _))) AOK.nil rfl) (fun vs10 => ?_)
        refine T.nil ?_
        refine T.norm ?_
        refine T.ret ?_
        obtain rfl := Option.some.inj hF
        refine T.fin0 fun ρ a w st => ?_
        exact ⟨_, results_one rfl rfl, (st.env 4)⟩
      · skip
        refine T.block ?_
        refine T.loop (f := spec_l03Same_l2 x0 x1) (σ := Int) (Z := Unit) (fun s z => E [(0, ((TP Y157).sv x0)), (1, ((TP Y157).sv x1)), (6, ((TI .i64).sv s))]) (fun s z => HL []) e9 () (fun φ h => T.toh h ⟨fun _ _ h => h, fun _ _ h => h, fun _ _ h => h, trivial⟩ trivial) (fun k s z uu8 hu8 hn8 => ?_)
        obtain ⟨s6, rfl⟩ : ∃ q, q = s := ⟨_, rfl⟩
        dsimp only [spec_l03Same_l2] at hu8
        refine T.seq ?_
        refine T.seq ?_
        refine T.region mix 7 [57, 58, 59, 60, 61, 62, 63] [0, 0, 2, 6, 14, 30, 63] [(sp ((TI .i64).sv s6)), (sp ((TP Y157).sv x0)), (sp ((TP Y157).sv x0)), (sp ((TP Y125).sv x0.2)), (sp (Y125.sv x0.2)), (sp ((TI .i64).sv (x0.2.length : Int))), (sp (TB.sv (decide (s6 < (x0.2.length : Int)))))] (by kernel_rfl) (AOK.cons (fun ρ a w hs hz hΓ hp => gp (d_move (hΓ 6 rfl))) (AOK.cons (fun ρ a w hs hz hΓ hp => gp (d_move (hΓ 0 rfl))) (AOK.cons (fun ρ a w hs hz hΓ hp => gp (d_nilCheckP (hp 1 _ rfl rfl).1)) (AOK.cons (fun ρ a w hs hz hΓ hp => gp (d_fieldP fa127_1 (hp 2 _ rfl rfl).1 (At.snd (At.refl _ _)))) (AOK.cons (fun ρ a w hs hz hΓ hp => gp (d_load y125 hs.le (hp 3 _ rfl rfl).1)) (AOK.cons (fun ρ a w hs hz hΓ hp => gp (d_lenR u125 (hp 4 _ rfl rfl).1)) (AOK.cons (fun ρ a w hs hz hΓ hp => gp (d_lss (hp 0 _ rfl rfl).1 (hp 5 _ rfl rfl).1)) AOK.nil rfl) rfl) rfl) rfl) rfl) rfl) rfl) (fun vs11 => ?_)
        refine T.nil ?_
        refine T.norm ?_
        refine T.cond (b := (decide (s6 < (x0.2.length : Int)))) (fun _ _ h => h) (fun hc => ?_) (fun hc => ?_)
        · replace hu8 := iteT hu8 hc
          refine T.skip ?_
          refine T.norm ?_
          refine T.seq ?_
          refine T.block ?_
          refine T.seq ?_
          refine T.seq ?_
          obtain ⟨x71, e13, hu8⟩ := bindS hu8
          obtain ⟨x79, e14, hu8⟩ := bindS hu8
          refine T.region mix 17 [66, 67, 68, 69, 70, 71, 72, 73, 74, 75, 76, 77, 78, 79, 80, 81, 82] [0, 1, 3, 7, 0, 31, 63, 127, 0, 256, 768, 1792, 0, 7936, 16128, 32512, 65535] [(sp ((TP Y157).sv x0)), (sp ((TP Y157).sv x0)), (sp ((TP Y125).sv x0.2)), (sp (Y125.sv x0.2)), (sp ((TI .i64).sv s6)), (sp ((TP Y169).sv x71)), (sp (Y169.sv x71)), (sp ((TI .i64).sv (x71.length : Int))), (sp ((TP Y157).sv x1)), (sp ((TP Y157).sv x1)), (sp ((TP Y125).sv x1.2)), (sp (Y125.sv x1.2)), (sp ((TI .i64).sv s6)), (sp ((TP Y169).sv x79)), (sp (Y169.sv x79)), (sp ((TI .i64).sv (x79.length : Int))), (sp (TB.sv (decide ((x71.length : Int) ≠ (x79.length : Int)))))] (by kernel_rfl) (AOK.cons (fun ρ a w hs hz hΓ hp => gp (d_move (hΓ 0 rfl))) (AOK.cons (fun ρ a w hs hz hΓ hp => gp (d_nilCheckP (hp 0 _ rfl rfl).1)) (AOK.cons (fun ρ a w hs hz hΓ hp => gp (d_fieldP fa127_1 (hp 1 _ rfl rfl).1 (At.snd (At.refl _ _)))) (AOK.cons (fun ρ a w hs hz hΓ hp => gp (d_load y125 hs.le (hp 2 _ rfl rfl).1)) (AOK.cons (fun ρ a w hs hz hΓ hp => gp (d_move (hΓ 6 rfl))) (AOK.cons (fun ρ a w hs hz hΓ hp => gp (d_idxR u125 y169 (hp 3 _ rfl rfl).1 (hp 4 _ rfl rfl).1 e13)) (AOK.cons (fun ρ a w hs hz hΓ hp => gp (d_load y169 hs.le (hp 5 _ rfl rfl).1)) (AOK.cons (fun ρ a w hs hz hΓ hp => gp (d_lenR u169 (hp 6 _ rfl rfl).1)) (AOK.cons (fun ρ a w hs hz hΓ hp => gp (d_move (hΓ 1 rfl))) (AOK.cons (fun ρ a w hs hz hΓ hp => gp (d_nilCheckP (hp 8 _ rfl rfl).1)) (AOK.cons (fun ρ a w hs hz hΓ hp => gp (d_fieldP fa127_1 (hp 9 _ rfl rfl).1 (At.snd (At.refl _ _)))) (AOK.cons (fun ρ a w hs hz hΓ hp => gp (d_load y125 hs.le (hp 10 _ rfl rfl).1)) (AOK.cons (fun ρ a w hs hz hΓ hp => gp (d_move (hΓ 6 rfl))) (AOK.cons (fun ρ a w hs hz hΓ hp => gp (d_idxR u125 y169 (hp 11 _ rfl rfl).1 (hp 12 _ rfl rfl).1 e14)) (AOK.cons (fun ρ a w hs hz hΓ hp => gp (d_load y169 hs.le (hp 13 _ rfl rfl).1)) (AOK.cons (fun ρ a w hs hz hΓ hp => gp (d_lenR u169 (hp 14 _ rfl rfl).1)) (AOK.cons (fun ρ a w hs hz hΓ hp => gp (d_neq (hp 7 _ rfl rfl).1 (hp 15 _ rfl rfl).1)) AOK.nil rfl) rfl) rfl) rfl) rfl) rfl) rfl) rfl) rfl) rfl) rfl) rfl) rfl) rfl) rfl) rfl) rfl) (fun vs12 => ?_)
          refine T.nil ?_
          refine T.norm ?_
          refine T.cond (b := (decide ((x71.length : Int) ≠ (x79.length : Int)))) (fun _ _ h => h) (fun hc => ?_) (fun hc => ?_)
          · replace hu8 := iteT hu8 hc
            refine T.seq ?_
            refine T.region mix 1 [4] [0] [(sp (TB.sv false))] (by kernel_rfl) (AOK.cons (fun ρ a w hs hz hΓ hp => gp (d_assign (vB _))) AOK.nil rfl) (fun vs15 => ?_)
            refine T.nil ?_
            refine T.norm ?_
            refine T.ret ?_
            obtain rfl := Option.some.inj hu8
            cases hn8
            obtain rfl := Option.some.inj hF
            refine T.fin0 fun ρ a w st => ?_
            exact ⟨_, results_one rfl rfl, (st.env 4)⟩
          · replace hu8 := iteF hu8 hc
            refine T.skip ?_
            refine T.norm ?_
            refine T.seq ?_
            refine T.region mix 1 [7] [0] [(sp ((TI .i64).sv 0))] (by kernel_rfl) (AOK.cons (fun ρ a w hs hz hΓ hp => gp (d_assign (vI rfl))) AOK.nil rfl) (fun vs16 => ?_)
            refine T.nil ?_
            refine T.norm ?_
            obtain ⟨yl17, e18, hu8⟩ := bindS hu8
            refine T.joinD (ι := Int × (Unit)) (fun p => yl17 = .inl p.1) (Γ' := fun p => E [(0, ((TP Y157).sv x0)), (1, ((TP Y157).sv x1)), (6, ((TI .i64).sv s6))]) (H' := fun p => HL []) (fun p hy => ?_) (fun hk => ?_)
            · obtain ⟨o7, _⟩ := p
              cases hy
              refine T.fallX ?_
              refine T.norm ?_
              refine T.region mix 3 [64, 65, 6] [0, 1, 3] [(sp ((TI .i64).sv s6)), (sp ((TI .i64).sv (IntKind.i64.wrap (s6 + 1)))), (sp ((TI .i64).sv (IntKind.i64.wrap (s6 + 1))))] (by kernel_rfl) (AOK.cons (fun ρ a w hs hz hΓ hp => gp (d_move (hΓ 6 rfl))) (AOK.cons (fun ρ a w hs hz hΓ hp => gp (d_add (hp 0 _ rfl rfl).1 (vI rfl))) (AOK.cons (fun ρ a w hs hz hΓ hp => gp (d_assign (hp 1 _ rfl rfl).1)) AOK.nil rfl) rfl) rfl) (fun vs19 => ?_)
              refine T.nil ?_
              obtain rfl := Option.some.inj hu8
              exact T.again hn8 () (fun φ h => T.toh h ⟨fun _ _ h => h, fun _ _ h => h, fun _ _ h => h, trivial⟩ trivial)
            · skip
              refine T.block ?_
              refine T.loop (f := spec_l03Same_l3 x0 x1 s6) (σ := Int) (Z := Unit) (fun s z => E [(0, ((TP Y157).sv x0)), (1, ((TP Y157).sv x1)), (6, ((TI .i64).sv s6)), (7, ((TI .i64).sv s))]) (fun s z => HL []) e18 () (fun φ h => T.toh h ⟨fun _ _ h => h, fun _ _ h => h, fun _ _ h => h, fun _ _ h => h, trivial⟩ trivial) (fun k s z uu17 hu17 hn17 => ?_)
              obtain ⟨s7, rfl⟩ : ∃ q, q = s := ⟨_, rfl⟩
              dsimp only [spec_l03Same_l3] at hu17
              refine T.seq ?_
              refine T.seq ?_
              obtain ⟨x89, e21, hu17⟩ := bindS hu17
              refine T.region mix 10 [83, 84, 85, 86, 87, 88, 89, 90, 91, 92] [0, 0, 2, 6, 14, 0, 62, 126, 254, 511] [(sp ((TI .i64).sv s7)), (sp ((TP Y157).sv x0)), (sp ((TP Y157).sv x0)), (sp ((TP Y125).sv x0.2)), (sp (Y125.sv x0.2)), (sp ((TI .i64).sv s6)), (sp ((TP Y169).sv x89)), (sp (Y169.sv x89)), (sp ((TI .i64).sv (x89.length : Int))), (sp (TB.sv (decide (s7 < (x89.length : Int)))))] (by kernel_rfl) (AOK.cons (fun ρ a w hs hz hΓ hp => gp (d_move (hΓ 7 rfl))) (AOK.cons (fun ρ a w hs hz hΓ hp => gp (d_move (hΓ 0 rfl))) (AOK.cons (fun ρ a w hs hz hΓ hp => gp (d_nilCheckP (hp 1 _ rfl rfl).1)) (AOK.cons (fun ρ a w hs hz hΓ hp => gp (d_fieldP fa127_1 (hp 2 _ rfl rfl).1 (At.snd (At.refl _ _)))) (AOK.cons (fun ρ a w hs hz hΓ hp => gp (d_load y125 hs.le (hp 3 _ rfl rfl).1)) (AOK.cons (fun ρ a w hs hz hΓ hp => gp (d_move (hΓ 6 rfl))) (AOK.cons (fun ρ a w hs hz hΓ hp => gp (d_idxR u125 y169 (hp 4 _ rfl rfl).1 (hp 5 _ rfl rfl).1 e21)) (AOK.cons (fun ρ a w hs hz hΓ hp => gp (d_load y169 hs.le (hp 6 _ rfl rfl).1)) (AOK.cons (fun ρ a w hs hz hΓ hp => gp (d_lenR u169 (hp 7 _ rfl rfl).1)) (AOK.cons (fun ρ a w hs hz hΓ hp => gp (d_lss (hp 0 _ rfl rfl).1 (hp 8 _ rfl rfl).1)) AOK.nil rfl) rfl) rfl) rfl) rfl) rfl) rfl) rfl) rfl) rfl) (fun vs20 => ?_)
              refine T.nil ?_
              refine T.norm ?_
              refine T.cond (b := (decide (s7 < (x89.length : Int)))) (fun _ _ h => h) (fun hc => ?_) (fun hc => ?_)
              · replace hu17 := iteT hu17 hc
                refine T.skip ?_
                refine T.norm ?_
                refine T.seq ?_
                refine T.block ?_
                refine T.seq ?_
                obtain ⟨x100, e23, hu17⟩ := bindS hu17
                obtain ⟨x103, e24, hu17⟩ := bindS hu17
                obtain ⟨x110, e25, hu17⟩ := bindS hu17
                obtain ⟨x113, e26, hu17⟩ := bindS hu17
                refine T.region mix 21 [95, 96, 97, 98, 99, 100, 101, 102, 103, 104, 105, 106, 107, 108, 109, 110, 111, 112, 113, 114, 115] [0, 1, 3, 7, 0, 31, 63, 0, 255, 511, 0, 1024, 3072, 7168, 0, 31744, 64512, 0, 261120, 523264, 1048575] [(sp ((TP Y157).sv x0)), (sp ((TP Y157).sv x0)), (sp ((TP Y125).sv x0.2)), (sp (Y125.sv x0.2)), (sp ((TI .i64).sv s6)), (sp ((TP Y169).sv x100)), (sp (Y169.sv x100)), (sp ((TI .i64).sv s7)), (sp ((TP (TI .i16)).sv x103)), (sp ((TI .i16).sv x103)), (sp ((TP Y157).sv x1)), (sp ((TP Y157).sv x1)), (sp ((TP Y125).sv x1.2)), (sp (Y125.sv x1.2)), (sp ((TI .i64).sv s6)), (sp ((TP Y169).sv x110)), (sp (Y169.sv x110)), (sp ((TI .i64).sv s7)), (sp ((TP (TI .i16)).sv x113)), (sp ((TI .i16).sv x113)), (sp (TB.sv (decide (x103 ≠ x113))))] (by kernel_rfl) (AOK.cons (fun ρ a w hs hz hΓ hp => gp (d_move (hΓ 0 rfl))) (AOK.cons (fun ρ a w hs hz hΓ hp => gp (d_nilCheckP (hp 0 _ rfl rfl).1)) (AOK.cons (fun ρ a w hs hz hΓ hp => gp (d_fieldP fa127_1 (hp 1 _ rfl rfl).1 (At.snd (At.refl _ _)))) (AOK.cons (fun ρ a w hs hz hΓ hp => gp (d_load y125 hs.le (hp 2 _ rfl rfl).1)) (AOK.cons (fun ρ a w hs hz hΓ hp => gp (d_move (hΓ 6 rfl))) (AOK.cons (fun ρ a w hs hz hΓ hp => gp (d_idxR u125 y169 (hp 3 _ rfl rfl).1 (hp 4 _ rfl rfl).1 e23)) (AOK.cons (fun ρ a w hs hz hΓ hp => gp (d_load y169 hs.le (hp 5 _ rfl rfl).1)) (AOK.cons (fun ρ a w hs hz hΓ hp => gp (d_move (hΓ 7 rfl))) (AOK.cons (fun ρ a w hs hz hΓ hp => gp (d_idxR u169 y23 (hp 6 _ rfl rfl).1 (hp 7 _ rfl rfl).1 e24)) (AOK.cons (fun ρ a w hs hz hΓ hp => gp (d_load y23 hs.le (hp 8 _ rfl rfl).1)) (AOK.cons (fun ρ a w hs hz hΓ hp => gp (d_move (hΓ 1 rfl))) (AOK.cons (fun ρ a w hs hz hΓ hp => gp (d_nilCheckP (hp 10 _ rfl rfl).1)) (AOK.cons (fun ρ a w hs hz hΓ hp => gp (d_fieldP fa127_1 (hp 11 _ rfl rfl).1 (At.snd (At.refl _ _)))) (AOK.cons (fun ρ a w hs hz hΓ hp => gp (d_load y125 hs.le (hp 12 _ rfl rfl).1)) (AOK.cons (fun ρ a w hs hz hΓ hp => gp (d_move (hΓ 6 rfl))) (AOK.cons (fun ρ a w hs hz hΓ hp => gp (d_idxR u125 y169 (hp 13 _ rfl rfl).1 (hp 14 _ rfl rfl).1 e25)) (AOK.cons (fun ρ a w hs hz hΓ hp => gp (d_load y169 hs.le (hp 15 _ rfl rfl).1)) (AOK.cons (fun ρ a w hs hz hΓ hp => gp (d_move (hΓ 7 rfl))) (AOK.cons (fun ρ a w hs hz hΓ hp => gp (d_idxR u169 y23 (hp 16 _ rfl rfl).1 (hp 17 _ rfl rfl).1 e26)) (AOK.cons (fun ρ a w hs hz hΓ hp => gp (d_load y23 hs.le (hp 18 _ rfl rfl).1)) (AOK.cons (fun ρ a w hs hz hΓ hp => gp (d_neq (hp 9 _ rfl rfl).1 (hp 19 _ rfl rfl).1)) AOK.nil rfl) rfl) rfl) rfl) rfl) rfl) rfl) rfl) rfl) rfl) rfl) rfl) rfl) rfl) rfl) rfl) rfl) rfl) rfl) rfl) rfl) (fun vs22 => ?_)
                refine T.nil ?_
                refine T.norm ?_
                refine T.cond (b := (decide (x103 ≠ x113))) (fun _ _ h => h) (fun hc => ?_) (fun hc => ?_)
                · replace hu17 := iteT hu17 hc
                  refine T.seq ?_
                  refine T.region mix 1 [4] [0] [(sp (TB.sv false))] (by kernel_rfl) (AOK.cons (fun ρ a w hs hz hΓ hp => gp (d_assign (vB _))) AOK.nil rfl) (fun vs27 => ?_)
                  refine T.nil ?_
                  refine T.norm ?_
                  refine T.ret ?_
                  obtain rfl := Option.some.inj hu17
                  cases hn17
                  obtain rfl := Option.some.inj hu8
                  cases hn8
                  obtain rfl := Option.some.inj hF
                  refine T.fin0 fun ρ a w st => ?_
                  exact ⟨_, results_one rfl rfl, (st.env 4)⟩
                · replace hu17 := iteF hu17 hc
                  refine T.skip ?_
                  refine T.fallX ?_
                  refine T.norm ?_
                  refine T.region mix 3 [93, 94, 7] [0, 1, 3] [(sp ((TI .i64).sv s7)), (sp ((TI .i64).sv (IntKind.i64.wrap (s7 + 1)))), (sp ((TI .i64).sv (IntKind.i64.wrap (s7 + 1))))] (by kernel_rfl) (AOK.cons (fun ρ a w hs hz hΓ hp => gp (d_move (hΓ 7 rfl))) (AOK.cons (fun ρ a w hs hz hΓ hp => gp (d_add (hp 0 _ rfl rfl).1 (vI rfl))) (AOK.cons (fun ρ a w hs hz hΓ hp => gp (d_assign (hp 1 _ rfl rfl).1)) AOK.nil rfl) rfl) rfl) (fun vs28 => ?_)
                  refine T.nil ?_
                  obtain rfl := Option.some.inj hu17
                  exact T.again hn17 () (fun φ h => T.toh h ⟨fun _ _ h => h, fun _ _ h => h, fun _ _ h => h, fun _ _ h => h, trivial⟩ trivial)
              · replace hu17 := iteF hu17 hc
                refine T.exit ?_
                obtain rfl := Option.some.inj hu17
                repeat (first | refine T.passX ?_ | refine T.inX (by decide) ?_)
                refine T.hereX ?_
                exact T.toh (hk (s7, ()) (Eq.symm hn17)) ⟨fun _ _ h => h, fun _ _ h => h, fun _ _ h => h, trivial⟩ trivial
        · replace hu8 := iteF hu8 hc
          refine T.exit ?_
          obtain rfl := Option.some.inj hu8
          repeat (first | refine T.passX ?_ | refine T.inX (by decide) ?_)
          refine T.hereX ?_
          exact T.toh (hk (s6, ()) (Eq.symm hn8)) trivial trivial
    · skip
      refine T.block ?_
      refine T.loop (f := spec_l03Same_l1 x0 x1) (σ := Int) (Z := Unit) (fun s z => E [(0, ((TP Y157).sv x0)), (1, ((TP Y157).sv x1)), (5, ((TI .i64).sv s))]) (fun s z => HL []) e6 () (fun φ h => T.toh h ⟨fun _ _ h => h, fun _ _ h => h, fun _ _ h => h, trivial⟩ trivial) (fun k s z uu5 hu5 hn5 => ?_)
      obtain ⟨s5, rfl⟩ : ∃ q, q = s := ⟨_, rfl⟩
      dsimp only [spec_l03Same_l1] at hu5
      refine T.seq ?_
      refine T.seq ?_
      refine T.region mix 7 [32, 33, 34, 35, 36, 37, 38] [0, 0, 2, 6, 14, 30, 63] [(sp ((TI .i64).sv s5)), (sp ((TP Y157).sv x0)), (sp ((TP Y157).sv x0)), (sp ((TP Y156).sv x0.1)), (sp (Y156.sv x0.1)), (sp ((TI .i64).sv (x0.1.length : Int))), (sp (TB.sv (decide (s5 < (x0.1.length : Int)))))] (by kernel_rfl) (AOK.cons (fun ρ a w hs hz hΓ hp => gp (d_move (hΓ 5 rfl))) (AOK.cons (fun ρ a w hs hz hΓ hp => gp (d_move (hΓ 0 rfl))) (AOK.cons (fun ρ a w hs hz hΓ hp => gp (d_nilCheckP (hp 1 _ rfl rfl).1)) (AOK.cons (fun ρ a w hs hz hΓ hp => gp (d_fieldP fa127_0 (hp 2 _ rfl rfl).1 (At.fst (At.refl _ _)))) (AOK.cons (fun ρ a w hs hz hΓ hp => gp (d_load y124 hs.le (hp 3 _ rfl rfl).1)) (AOK.cons (fun ρ a w hs hz hΓ hp => gp (d_lenR u124 (hp 4 _ rfl rfl).1)) (AOK.cons (fun ρ a w hs hz hΓ hp => gp (d_lss (hp 0 _ rfl rfl).1 (hp 5 _ rfl rfl).1)) AOK.nil rfl) rfl) rfl) rfl) rfl) rfl) rfl) (fun vs29 => ?_)
      refine T.nil ?_
      refine T.norm ?_
      refine T.cond (b := (decide (s5 < (x0.1.length : Int)))) (fun _ _ h => h) (fun hc => ?_) (fun hc => ?_)
      · replace hu5 := iteT hu5 hc
        refine T.skip ?_
        refine T.norm ?_
        refine T.seq ?_
        refine T.block ?_
        refine T.seq ?_
        obtain ⟨x46, e31, hu5⟩ := bindS hu5
        obtain ⟨x53, e32, hu5⟩ := bindS hu5
        obtain ⟨x55, e33, hu5⟩ := bindS hu5
        refine T.region mix 16 [41, 42, 43, 44, 45, 46, 47, 48, 49, 50, 51, 52, 53, 54, 55, 56] [0, 1, 3, 7, 0, 31, 63, 0, 128, 384, 896, 0, 3968, 8064, 16383, 32767] [(sp ((TP Y157).sv x0)), (sp ((TP Y157).sv x0)), (sp ((TP Y156).sv x0.1)), (sp (Y156.sv x0.1)), (sp ((TI .i64).sv s5)), (sp ((TP Y55).sv x46)), (sp (Y55.sv x46)), (sp ((TP Y157).sv x1)), (sp ((TP Y157).sv x1)), (sp ((TP Y156).sv x1.1)), (sp (Y156.sv x1.1)), (sp ((TI .i64).sv s5)), (sp ((TP Y55).sv x53)), (sp (Y55.sv x53)), (sp (TB.sv x55)), (sp (TB.sv (!x55)))] (by kernel_rfl) (AOK.cons (fun ρ a w hs hz hΓ hp => gp (d_move (hΓ 0 rfl))) (AOK.cons (fun ρ a w hs hz hΓ hp => gp (d_nilCheckP (hp 0 _ rfl rfl).1)) (AOK.cons (fun ρ a w hs hz hΓ hp => gp (d_fieldP fa127_0 (hp 1 _ rfl rfl).1 (At.fst (At.refl _ _)))) (AOK.cons (fun ρ a w hs hz hΓ hp => gp (d_load y124 hs.le (hp 2 _ rfl rfl).1)) (AOK.cons (fun ρ a w hs hz hΓ hp => gp (d_move (hΓ 5 rfl))) (AOK.cons (fun ρ a w hs hz hΓ hp => gp (d_idxR u124 y63 (hp 3 _ rfl rfl).1 (hp 4 _ rfl rfl).1 e31)) (AOK.cons (fun ρ a w hs hz hΓ hp => gp (d_load y63 hs.le (hp 5 _ rfl rfl).1)) (AOK.cons (fun ρ a w hs hz hΓ hp => gp (d_move (hΓ 1 rfl))) (AOK.cons (fun ρ a w hs hz hΓ hp => gp (d_nilCheckP (hp 7 _ rfl rfl).1)) (AOK.cons (fun ρ a w hs hz hΓ hp => gp (d_fieldP fa127_0 (hp 8 _ rfl rfl).1 (At.fst (At.refl _ _)))) (AOK.cons (fun ρ a w hs hz hΓ hp => gp (d_load y124 hs.le (hp 9 _ rfl rfl).1)) (AOK.cons (fun ρ a w hs hz hΓ hp => gp (d_move (hΓ 5 rfl))) (AOK.cons (fun ρ a w hs hz hΓ hp => gp (d_idxR u124 y63 (hp 10 _ rfl rfl).1 (hp 11 _ rfl rfl).1 e32)) (AOK.cons (fun ρ a w hs hz hΓ hp => gp (d_load y63 hs.le (hp 12 _ rfl rfl).1)) (AOK.cons (fun ρ a w hs hz hΓ hp => gp (d_call fn151 hs.le mapA2 (c151 w _ _ hs.le e33 ((hp 6 _ rfl rfl).1) ((hp 13 _ rfl rfl).1)))) (AOK.cons (fun ρ a w hs hz hΓ hp => gp (d_not (hp 14 _ rfl rfl).1)) AOK.nil rfl) rfl) rfl) rfl) rfl) rfl) rfl) rfl) rfl) rfl) rfl) rfl) rfl) rfl) rfl) rfl) (fun vs30 => ?_)
        refine T.nil ?_
        refine T.norm ?_
        refine T.cond (b := (!x55)) (fun _ _ h => h) (fun hc => ?_) (fun hc => ?_)
        · replace hu5 := iteT hu5 hc
          refine T.seq ?_
          refine T.region mix 1 [4] [0] [(sp (TB.sv false))] (by kernel_rfl) (AOK.cons (fun ρ a w hs hz hΓ hp => gp (d_assign (vB _))) AOK.nil rfl) (fun vs34 => ?_)
          refine T.nil ?_
          refine T.norm ?_
          refine T.ret ?_
          obtain rfl := Option.some.inj hu5
          cases hn5
          obtain rfl := Option.some.inj hF
          refine T.fin0 fun ρ a w st => ?_
          exact ⟨_, results_one rfl rfl, (st.env 4)⟩
        · replace hu5 := iteF hu5 hc
          refine T.skip ?_
          refine T.fallX ?_
          refine T.norm ?_
          refine T.region mix 3 [39, 40, 5] [0, 1, 3] [(sp ((TI .i64).sv s5)), (sp ((TI .i64).sv (IntKind.i64.wrap (s5 + 1)))), (sp ((TI .i64).sv (IntKind.i64.wrap (s5 + 1))))] (by kernel_rfl) (AOK.cons (fun ρ a w hs hz hΓ hp => gp (d_move (hΓ 5 rfl))) (AOK.cons (fun ρ a w hs hz hΓ hp => gp (d_add (hp 0 _ rfl rfl).1 (vI rfl))) (AOK.cons (fun ρ a w hs hz hΓ hp => gp (d_assign (hp 1 _ rfl rfl).1)) AOK.nil rfl) rfl) rfl) (fun vs35 => ?_)
          refine T.nil ?_
          obtain rfl := Option.some.inj hu5
          exact T.again hn5 () (fun φ h => T.toh h ⟨fun _ _ h => h, fun _ _ h => h, fun _ _ h => h, trivial⟩ trivial)
      · replace hu5 := iteF hu5 hc
        refine T.exit ?_
        obtain rfl := Option.some.inj hu5
        repeat (first | refine T.passX ?_ | refine T.inX (by decide) ?_)
        refine T.hereX ?_
        exact T.toh (hk (s5, ()) (Eq.symm hn5)) ⟨fun _ _ h => h, fun _ _ h => h, trivial⟩ trivial

theorem c76 (w : World) (v0 v1 : Value) {σ : Heap} (hσ : σ.le (snap w)) {x0 : (((List Nat) × (List Nat) × (List Nat) × Nat × Nat) × (List ((List (List Nat)) × (List (List Int)))))} {x1 : (((List Nat) × (List Nat) × (List Nat) × Nat × Nat) × (List ((List (List Nat)) × (List (List Int)))))} {r : Bool} (hF : spec_l07Same x0 x1 = some r) (h0 : (TP Y59).val σ v0 x0) (h1 : (TP Y59).val σ v1 x1) :
    Calls Try.prog 76 #[v0, v1] w (Ret [] w σ (TB.sv r) []) := by
  unfold spec_l07Same at hF
  refine start (args := [v0, v1]) Try.func76 rfl 50 rfl [] [(0, ((TP Y59).sv x0)), (1, ((TP Y59).sv x1))] [] (sat_start _ hσ) rfl (args1 rfl h0 (args1 rfl h1 (args0))) ?_
  refine T.seq ?_
  refine T.region mix 1 [4] [0] [(sp (TB.sv false))] (by kernel_rfl) (AOK.cons (fun ρ a w hs hz hΓ hp => gp (d_assign (vB _))) AOK.nil rfl) (fun vs1 => ?_)
  refine T.nil ?_
  refine T.norm ?_
  refine T.seq ?_
  refine T.seq ?_
  obtain ⟨x12, e3, hF⟩ := bindS hF
  refine T.region mix 21 [6, 7, 8, 9, 10, 11, 12, 13, 14, 15, 16, 17, 18, 19, 20, 21, 22, 23, 24, 25, 26] [0, 1, 3, 0, 8, 24, 63, 127, 255, 511, 1023, 2047, 4095, 8191, 511, 16895, 49663, 115199, 246271, 524287, 1048575] [(sp ((TP Y59).sv x0)), (sp ((TP Y59).sv x0)), (sp ((TP Y56).sv x0.1)), (sp ((TP Y59).sv x1)), (sp ((TP Y59).sv x1)), (sp ((TP Y56).sv x1.1)), (sp (TB.sv x12)), (sp (TB.sv (!x12))), (sp (TB.sv (!x12))), (sp (SRel.when ((!x12) = false) ((TP Y59).sv x0))), (sp (SRel.when ((!x12) = false) ((TP Y59).sv x0))), (sp (SRel.when ((!x12) = false) ((TP Y58).sv x0.2))), (sp (SRel.when ((!x12) = false) (Y58.sv x0.2))), (sp (SRel.when ((!x12) = false) ((TI .i64).sv (x0.2.length : Int)))), (sp (SRel.when ((!x12) = false) ((TP Y59).sv x1))), (sp (SRel.when ((!x12) = false) ((TP Y59).sv x1))), (sp (SRel.when ((!x12) = false) ((TP Y58).sv x1.2))), (sp (SRel.when ((!x12) = false) (Y58.sv x1.2))), (sp (SRel.when ((!x12) = false) ((TI .i64).sv (x1.2.length : Int)))), (sp (SRel.when ((!x12) = false) (TB.sv (decide ((x0.2.length : Int) ≠ (x1.2.length : Int)))))), (sp (TB.sv ((!x12) || (decide ((x0.2.length : Int) ≠ (x1.2.length : Int))))))] (by kernel_rfl) (AOK.cons (fun ρ a w hs hz hΓ hp => gp (d_move (hΓ 0 rfl))) (AOK.cons (fun ρ a w hs hz hΓ hp => gp (d_nilCheckP (hp 0 _ rfl rfl).1)) (AOK.cons (fun ρ a w hs hz hΓ hp => gp (d_fieldP fa68_0 (hp 1 _ rfl rfl).1 (At.fst (At.refl _ _)))) (AOK.cons (fun ρ a w hs hz hΓ hp => gp (d_move (hΓ 1 rfl))) (AOK.cons (fun ρ a w hs hz hΓ hp => gp (d_nilCheckP (hp 3 _ rfl rfl).1)) (AOK.cons (fun ρ a w hs hz hΓ hp => gp (d_fieldP fa68_0 (hp 4 _ rfl rfl).1 (At.fst (At.refl _ _)))) (AOK.cons (fun ρ a w hs hz hΓ hp => gp (d_call fn124 hs.le mapA2 (c124 w _ _ hs.le e3 ((hp 2 _ rfl rfl).1) ((hp 5 _ rfl rfl).1)))) (AOK.cons (fun ρ a w hs hz hΓ hp => gp (d_not (hp 6 _ rfl rfl).1)) (AOK.cons (fun ρ a w hs hz hΓ hp => gp (d_move (hp 7 _ rfl rfl).1)) (AOK.cons (fun ρ a w hs hz hΓ hp => gg (g := 8) (d := 14) hz rfl (hp 8 _ rfl rfl).1 rfl (fun hc => d_move (hΓ 0 rfl))) (AOK.cons (fun ρ a w hs hz hΓ hp => gg (g := 8) (d := 14) hz rfl (hp 8 _ rfl rfl).1 rfl (fun hc => d_nilCheckP ((hp 9 _ rfl rfl).1 hc))) (AOK.cons (fun ρ a w hs hz hΓ hp => gg (g := 8) (d := 14) hz rfl (hp 8 _ rfl rfl).1 rfl (fun hc => d_fieldP fa68_1 ((hp 10 _ rfl rfl).1 hc) (At.snd (At.refl _ _)))) (AOK.cons (fun ρ a w hs hz hΓ hp => gg (g := 8) (d := 14) hz rfl (hp 8 _ rfl rfl).1 rfl (fun hc => d_load y66 hs.le ((hp 11 _ rfl rfl).1 hc))) (AOK.cons (fun ρ a w hs hz hΓ hp => gg (g := 8) (d := 14) hz rfl (hp 8 _ rfl rfl).1 rfl (fun hc => d_lenR u66 ((hp 12 _ rfl rfl).1 hc))) (AOK.cons (fun ρ a w hs hz hΓ hp => gg (g := 8) (d := 14) hz rfl (hp 8 _ rfl rfl).1 rfl (fun hc => d_move (hΓ 1 rfl))) (AOK.cons (fun ρ a w hs hz hΓ hp => gg (g := 8) (d := 14) hz rfl (hp 8 _ rfl rfl).1 rfl (fun hc => d_nilCheckP ((hp 14 _ rfl rfl).1 hc))) (AOK.cons (fun ρ a w hs hz hΓ hp => gg (g := 8) (d := 14) hz rfl (hp 8 _ rfl rfl).1 rfl (fun hc => d_fieldP fa68_1 ((hp 15 _ rfl rfl).1 hc) (At.snd (At.refl _ _)))) (AOK.cons (fun ρ a w hs hz hΓ hp => gg (g := 8) (d := 14) hz rfl (hp 8 _ rfl rfl).1 rfl (fun hc => d_load y66 hs.le ((hp 16 _ rfl rfl).1 hc))) (AOK.cons (fun ρ a w hs hz hΓ hp => gg (g := 8) (d := 14) hz rfl (hp 8 _ rfl rfl).1 rfl (fun hc => d_lenR u66 ((hp 17 _ rfl rfl).1 hc))) (AOK.cons (fun ρ a w hs hz hΓ hp => gg (g := 8) (d := 14) hz rfl (hp 8 _ rfl rfl).1 rfl (fun hc => d_neq ((hp 13 _ rfl rfl).1 hc) ((hp 18 _ rfl rfl).1 hc))) (AOK.cons (fun ρ a w hs hz hΓ hp => gp (d_pick (hp 8 _ rfl rfl).1 (fun hc => pON hc) (fun hc => pO hc ((hp 19 _ rfl rfl).1 hc)))) AOK.nil rfl) rfl) rfl) rfl) rfl) rfl) rfl) rfl) rfl) rfl) rfl) rfl) rfl) rfl) rfl) rfl) rfl) rfl) rfl) rfl) rfl) (fun vs2 => ?_)
  refine T.nil ?_
  refine T.norm ?_
  refine T.cond (b := ((!x12) || (decide ((x0.2.length : Int) ≠ (x1.2.length : Int))))) (fun _ _ h => h) (fun hc => ?_) (fun hc => ?_)
  · replace hF := iteT hF hc
    refine T.seq ?_
    refine T.region mix 1 [4] [0] [(sp (TB.sv false))] (by kernel_rfl) (AOK.cons (fun ρ a w hs hz hΓ hp => gp (d_assign (vB _))) AOK.nil rfl) (fun vs4 => ?_)
    refine T.nil ?_
    refine T.norm ?_
    refine T.ret ?_
    obtain rfl := Option.some.inj hF
    refine T.fin0 fun ρ a w st => ?_
    exact ⟨_, results_one rfl rfl, (st.env 4)⟩
  · replace hF := iteF hF hc
    refine T.skip ?_
    refine T.norm ?_
    refine T.seq ?_
    refine T.seq ?_
    refine T.region mix 1 [5] [0] [(sp ((TI .i64).sv 0))] (by kernel_rfl) (AOK.cons (fun ρ a w hs hz hΓ hp => gp (d_assign (vI rfl))) AOK.nil rfl) (fun vs5 => ?_)
    refine T.nil ?_
    refine T.norm ?_
    obtain ⟨yl6, e7, hF⟩ := bindS hF
    refine T.joinD (ι := Int × (Unit)) (fun p => yl6 = .inl p.1) (Γ' := fun p => E []) (H' := fun p => HL []) (fun p hy => ?_) (fun hk => ?_)
    · obtain ⟨o5, _⟩ := p
      cases hy
      refine T.norm ?_
      refine T.seq ?_
      refine T.region mix 1 [4] [0] [(sp (TB.sv true))] (by kernel_rfl) (AOK.cons (fun ρ a w hs hz hΓ hp => gp (d_assign (vB _))) AOK.nil rfl) (fun vs8 => ?_)
      refine T.nil ?_
      refine T.norm ?_
      refine T.ret ?_
      obtain rfl := Option.some.inj hF
      refine T.fin0 fun ρ a w st => ?_
      exact ⟨_, results_one rfl rfl, (st.env 4)⟩
    · skip
      refine T.block ?_
      refine T.loop (f := spec_l07Same_l1 x0 x1) (σ := Int) (Z := Unit) (fun s z => E [(0, ((TP Y59).sv x0)), (1, ((TP Y59).sv x1)), (5, ((TI .i64).sv s))]) (fun s z => HL []) e7 () (fun φ h => T.toh h ⟨fun _ _ h => h, fun _ _ h => h, fun _ _ h => h, trivial⟩ trivial) (fun k s z uu6 hu6 hn6 => ?_)
      obtain ⟨s5, rfl⟩ : ∃ q, q = s := ⟨_, rfl⟩
      dsimp only [spec_l07Same_l1] at hu6
      refine T.seq ?_
      refine T.seq ?_
      refine T.region mix 7 [27, 28, 29, 30, 31, 32, 33] [0, 0, 2, 6, 14, 30, 63] [(sp ((TI .i64).sv s5)), (sp ((TP Y59).sv x0)), (sp ((TP Y59).sv x0)), (sp ((TP Y58).sv x0.2)), (sp (Y58.sv x0.2)), (sp ((TI .i64).sv (x0.2.length : Int))), (sp (TB.sv (decide (s5 < (x0.2.length : Int)))))] (by kernel_rfl) (AOK.cons (fun ρ a w hs hz hΓ hp => gp (d_move (hΓ 5 rfl))) (AOK.cons (fun ρ a w hs hz hΓ hp => gp (d_move (hΓ 0 rfl))) (AOK.cons (fun ρ a w hs hz hΓ hp => gp (d_nilCheckP (hp 1 _ rfl rfl).1)) (AOK.cons (fun ρ a w hs hz hΓ hp => gp (d_fieldP fa68_1 (hp 2 _ rfl rfl).1 (At.snd (At.refl _ _)))) (AOK.cons (fun ρ a w hs hz hΓ hp => gp (d_load y66 hs.le (hp 3 _ rfl rfl).1)) (AOK.cons (fun ρ a w hs hz hΓ hp => gp (d_lenR u66 (hp 4 _ rfl rfl).1)) (AOK.cons (fun ρ a w hs hz hΓ hp => gp (d_lss (hp 0 _ rfl rfl).1 (hp 5 _ rfl rfl).1)) AOK.nil rfl) rfl) rfl) rfl) rfl) rfl) rfl) (fun vs9 => ?_)
      refine T.nil ?_
      refine T.norm ?_
      refine T.cond (b := (decide (s5 < (x0.2.length : Int)))) (fun _ _ h => h) (fun hc => ?_) (fun hc => ?_)
      · replace hu6 := iteT hu6 hc
        refine T.skip ?_
        refine T.norm ?_
        refine T.seq ?_
        refine T.block ?_
        refine T.seq ?_
        obtain ⟨x41, e11, hu6⟩ := bindS hu6
        obtain ⟨x47, e12, hu6⟩ := bindS hu6
        obtain ⟨x48, e13, hu6⟩ := bindS hu6
        refine T.region mix 14 [36, 37, 38, 39, 40, 41, 42, 43, 44, 45, 46, 47, 48, 49] [0, 1, 3, 7, 0, 31, 0, 64, 192, 448, 0, 1984, 4095, 8191] [(sp ((TP Y59).sv x0)), (sp ((TP Y59).sv x0)), (sp ((TP Y58).sv x0.2)), (sp (Y58.sv x0.2)), (sp ((TI .i64).sv s5)), (sp ((TP Y157).sv x41)), (sp ((TP Y59).sv x1)), (sp ((TP Y59).sv x1)), (sp ((TP Y58).sv x1.2)), (sp (Y58.sv x1.2)), (sp ((TI .i64).sv s5)), (sp ((TP Y157).sv x47)), (sp (TB.sv x48)), (sp (TB.sv (!x48)))] (by kernel_rfl) (AOK.cons (fun ρ a w hs hz hΓ hp => gp (d_move (hΓ 0 rfl))) (AOK.cons (fun ρ a w hs hz hΓ hp => gp (d_nilCheckP (hp 0 _ rfl rfl).1)) (AOK.cons (fun ρ a w hs hz hΓ hp => gp (d_fieldP fa68_1 (hp 1 _ rfl rfl).1 (At.snd (At.refl _ _)))) (AOK.cons (fun ρ a w hs hz hΓ hp => gp (d_load y66 hs.le (hp 2 _ rfl rfl).1)) (AOK.cons (fun ρ a w hs hz hΓ hp => gp (d_move (hΓ 5 rfl))) (AOK.cons (fun ρ a w hs hz hΓ hp => gp (d_idxR u66 y127 (hp 3 _ rfl rfl).1 (hp 4 _ rfl rfl).1 e11)) (AOK.cons (fun ρ a w hs hz hΓ hp => gp (d_move (hΓ 1 rfl))) (AOK.cons (fun ρ a w hs hz hΓ hp => gp (d_nilCheckP (hp 6 _ rfl rfl).1)) (AOK.cons (fun ρ a w hs hz hΓ hp => gp (d_fieldP fa68_1 (hp 7 _ rfl rfl).1 (At.snd (At.refl _ _)))) (AOK.cons (fun ρ a w hs hz hΓ hp => gp (d_load y66 hs.le (hp 8 _ rfl rfl).1)) (AOK.cons (fun ρ a w hs hz hΓ hp => gp (d_move (hΓ 5 rfl))) (AOK.cons (fun ρ a w hs hz hΓ hp => gp (d_idxR u66 y127 (hp 9 _ rfl rfl).1 (hp 10 _ rfl rfl).1 e12)) (AOK.cons (fun ρ a w hs hz hΓ hp => gp (d_call fn125 hs.le mapA2 (c125 w _ _ hs.le e13 ((hp 5 _ rfl rfl).1) ((hp 11 _ rfl rfl).1)))) (AOK.cons (fun ρ a w hs hz hΓ hp => gp (d_not (hp 12 _ rfl rfl).1)) AOK.nil rfl) rfl) rfl) rfl) rfl) rfl) rfl) rfl) rfl) rfl) rfl) rfl) rfl) rfl) (fun vs10 => ?_)
        refine T.nil ?_
        refine T.norm ?_
        refine T.cond (b := (!x48)) (fun _ _ h => h) (fun hc => ?_) (fun hc => ?_)
        · replace hu6 := iteT hu6 hc
          refine T.seq ?_
          refine T.region mix 1 [4] [0] [(sp (TB.sv false))] (by kernel_rfl) (AOK.cons (fun ρ a w hs hz hΓ hp => gp (d_assign (vB _))) AOK.nil rfl) (fun vs14 => ?_)
          refine T.nil ?_
          refine T.norm ?_
          refine T.ret ?_
          obtain rfl := Option.some.inj hu6
          cases hn6
          obtain rfl := Option.some.inj hF
          refine T.fin0 fun ρ a w st => ?_
          exact ⟨_, results_one rfl rfl, (st.env 4)⟩
        · replace hu6 := iteF hu6 hc
          refine T.skip ?_
          refine T.fallX ?_
          refine T.norm ?_
          refine T.region mix 3 [34, 35, 5] [0, 1, 3] [(sp ((TI .i64).sv s5)), (sp ((TI .i64).sv (IntKind.i64.wrap (s5 + 1)))), (sp ((TI .i64).sv (IntKind.i64.wrap (s5 + 1))))] (by kernel_rfl) (AOK.cons (fun ρ a w hs hz hΓ hp => gp (d_move (hΓ 5 rfl))) (AOK.cons (fun ρ a w hs hz hΓ hp => gp (d_add (hp 0 _ rfl rfl).1 (vI rfl))) (AOK.cons (fun ρ a w hs hz hΓ hp => gp (d_assign (hp 1 _ rfl rfl).1)) AOK.nil rfl) rfl) rfl) (fun vs15 => ?_)
          refine T.nil ?_
          obtain rfl := Option.some.inj hu6
          exact T.again hn6 () (fun φ h => T.toh h ⟨fun _ _ h => h, fun _ _ h => h, fun _ _ h => h, trivial⟩ trivial)
      · replace hu6 := iteF hu6 hc
        refine T.exit ?_
        obtain rfl := Option.some.inj hu6
        repeat (first | refine T.passX ?_ | refine T.inX (by decide) ?_)
        refine T.hereX ?_
        exact T.toh (hk (s5, ()) (Eq.symm hn6)) trivial trivial

theorem c31 (w : World) (v0 v1 : Value) {σ : Heap} (hσ : σ.le (snap w)) {x0 : (((List Nat) × (List Nat) × (List Nat) × Nat × Nat) × (List ((List (List Nat)) × (List (List Int)))))} {x1 : (((List Nat) × (List Nat) × (List Nat) × Nat × Nat) × (List ((List (List Nat)) × (List (List Int)))))} {r : Bool} (hF : spec_SameScene x0 x1 = some r) (h0 : Y59.val σ v0 x0) (h1 : Y59.val σ v1 x1) :
    Calls Try.prog 31 #[v0, v1] w (Ret [] w σ (TB.sv r) []) := by
  unfold spec_SameScene at hF
  refine start (args := [v0, v1]) Try.func31 rfl 6 rfl [] [(0, (Y59.sv x0)), (1, (Y59.sv x1))] [] (sat_start _ hσ) rfl (args1 rfl h0 (args1 rfl h1 (args0))) ?_
  refine T.seq ?_
  refine T.region mix 3 [2, 3, 4] [0, 0, 0] [(sp ((TP Y59).sv x0)), (sp ((TP Y59).sv x1)), (sp (TB.sv false))] (by kernel_rfl) (AOK.cons (fun ρ a w hs hz hΓ hp => gp (d_box hs.le (hΓ 0 rfl))) (AOK.cons (fun ρ a w hs hz hΓ hp => gp (d_box hs.le (hΓ 1 rfl))) (AOK.cons (fun ρ a w hs hz hΓ hp => gp (d_assign (vB _))) AOK.nil rfl) rfl) rfl) (fun vs1 => ?_)
  refine T.nil ?_
  refine T.norm ?_
  refine T.seq ?_
  obtain ⟨x5, e3, hF⟩ := bindS hF
  refine T.region mix 2 [5, 4] [0, 1] [(sp (TB.sv x5)), (sp (TB.sv x5))] (by kernel_rfl) (AOK.cons (fun ρ a w hs hz hΓ hp => gp (d_call fn76 hs.le mapA2 (c76 w _ _ hs.le e3 (hΓ 2 rfl) (hΓ 3 rfl)))) (AOK.cons (fun ρ a w hs hz hΓ hp => gp (d_assign (hp 0 _ rfl rfl).1)) AOK.nil rfl) rfl) (fun vs2 => ?_)
  refine T.nil ?_
  refine T.norm ?_
  refine T.ret ?_
  obtain rfl := Option.some.inj hF
  refine T.fin0 fun ρ a w st => ?_
  exact ⟨_, results_one rfl rfl, (st.env 4)⟩

theorem c129 (w : World) (v0 v1 : Value) {σ : Heap} (hσ : σ.le (snap w)) {x0 : Nat} {x1 : Nat} {r : Bool} (hF : impl_SameNumber x0 x1 = some r) (h0 : (TF .f32).val σ v0 x0) (h1 : (TF .f32).val σ v1 x1) :
    Calls Try.prog 129 #[v0, v1] w (Ret [] w σ (TB.sv r) []) := by
  unfold impl_SameNumber at hF
  refine start (args := [v0, v1]) Try.func129 rfl 26 rfl [] [(0, ((TF .f32).sv x0)), (1, ((TF .f32).sv x1))] [] (sat_start _ hσ) rfl (args1 rfl h0 (args1 rfl h1 (args0))) ?_
  refine T.seq ?_
  refine T.region mix 1 [4] [0] [(sp (TB.sv false))] (by kernel_rfl) (AOK.cons (fun ρ a w hs hz hΓ hp => gp (d_assign (vB _))) AOK.nil rfl) (fun vs1 => ?_)
  refine T.nil ?_
  refine T.norm ?_
  refine T.seq ?_
  refine T.seq ?_
  refine T.region mix 8 [5, 6, 7, 8, 9, 10, 11, 12] [0, 0, 3, 7, 15, 15, 63, 127] [(sp ((TF .f32).sv x0)), (sp ((TF .f32).sv x0)), (sp (TB.sv (fneq .f32 x0 x0))), (sp (TB.sv (fneq .f32 x0 x0))), (sp (SRel.when ((fneq .f32 x0 x0) = false) ((TF .f32).sv x1))), (sp (SRel.when ((fneq .f32 x0 x0) = false) ((TF .f32).sv x1))), (sp (SRel.when ((fneq .f32 x0 x0) = false) (TB.sv (fneq .f32 x1 x1)))), (sp (TB.sv ((fneq .f32 x0 x0) || (fneq .f32 x1 x1))))] (by kernel_rfl) (AOK.cons (fun ρ a w hs hz hΓ hp => gp (d_move (hΓ 0 rfl))) (AOK.cons (fun ρ a w hs hz hΓ hp => gp (d_move (hΓ 0 rfl))) (AOK.cons (fun ρ a w hs hz hΓ hp => gp (d_fneq (hp 0 _ rfl rfl).1 (hp 1 _ rfl rfl).1)) (AOK.cons (fun ρ a w hs hz hΓ hp => gp (d_move (hp 2 _ rfl rfl).1)) (AOK.cons (fun ρ a w hs hz hΓ hp => gg (g := 3) (d := 8) hz rfl (hp 3 _ rfl rfl).1 rfl (fun hc => d_move (hΓ 1 rfl))) (AOK.cons (fun ρ a w hs hz hΓ hp => gg (g := 3) (d := 8) hz rfl (hp 3 _ rfl rfl).1 rfl (fun hc => d_move (hΓ 1 rfl))) (AOK.cons (fun ρ a w hs hz hΓ hp => gg (g := 3) (d := 8) hz rfl (hp 3 _ rfl rfl).1 rfl (fun hc => d_fneq ((hp 4 _ rfl rfl).1 hc) ((hp 5 _ rfl rfl).1 hc))) (AOK.cons (fun ρ a w hs hz hΓ hp => gp (d_pick (hp 3 _ rfl rfl).1 (fun hc => pON hc) (fun hc => pO hc ((hp 6 _ rfl rfl).1 hc)))) AOK.nil rfl) rfl) rfl) rfl) rfl) rfl) rfl) rfl) (fun vs2 => ?_)
  refine T.nil ?_
  refine T.norm ?_
  refine T.cond (b := ((fneq .f32 x0 x0) || (fneq .f32 x1 x1))) (fun _ _ h => h) (fun hc => ?_) (fun hc => ?_)
  · replace hF := iteT hF hc
    refine T.seq ?_
    refine T.region mix 9 [13, 14, 15, 16, 17, 18, 19, 20, 4] [0, 0, 3, 7, 15, 15, 63, 127, 255] [(sp ((TF .f32).sv x0)), (sp ((TF .f32).sv x0)), (sp (TB.sv (fneq .f32 x0 x0))), (sp (TB.sv (fneq .f32 x0 x0))), (sp (SRel.when ((fneq .f32 x0 x0) = true) ((TF .f32).sv x1))), (sp (SRel.when ((fneq .f32 x0 x0) = true) ((TF .f32).sv x1))), (sp (SRel.when ((fneq .f32 x0 x0) = true) (TB.sv (fneq .f32 x1 x1)))), (sp (TB.sv ((fneq .f32 x0 x0) && (fneq .f32 x1 x1)))), (sp (TB.sv ((fneq .f32 x0 x0) && (fneq .f32 x1 x1))))] (by kernel_rfl) (AOK.cons (fun ρ a w hs hz hΓ hp => gp (d_move (hΓ 0 rfl))) (AOK.cons (fun ρ a w hs hz hΓ hp => gp (d_move (hΓ 0 rfl))) (AOK.cons (fun ρ a w hs hz hΓ hp => gp (d_fneq (hp 0 _ rfl rfl).1 (hp 1 _ rfl rfl).1)) (AOK.cons (fun ρ a w hs hz hΓ hp => gp (d_move (hp 2 _ rfl rfl).1)) (AOK.cons (fun ρ a w hs hz hΓ hp => gg (g := 3) (d := 16) hz rfl (hp 3 _ rfl rfl).1 rfl (fun hc => d_move (hΓ 1 rfl))) (AOK.cons (fun ρ a w hs hz hΓ hp => gg (g := 3) (d := 16) hz rfl (hp 3 _ rfl rfl).1 rfl (fun hc => d_move (hΓ 1 rfl))) (AOK.cons (fun ρ a w hs hz hΓ hp => gg (g := 3) (d := 16) hz rfl (hp 3 _ rfl rfl).1 rfl (fun hc => d_fneq ((hp 4 _ rfl rfl).1 hc) ((hp 5 _ rfl rfl).1 hc))) (AOK.cons (fun ρ a w hs hz hΓ hp => gp (d_pick (hp 3 _ rfl rfl).1 (fun hc => pA hc ((hp 6 _ rfl rfl).1 hc)) (fun hc => pAN hc))) (AOK.cons (fun ρ a w hs hz hΓ hp => gp (d_assign (hp 7 _ rfl rfl).1)) AOK.nil rfl) rfl) rfl) rfl) rfl) rfl) rfl) rfl) rfl) (fun vs3 => ?_)
    refine T.nil ?_
    refine T.norm ?_
    refine T.ret ?_
    obtain rfl := Option.some.inj hF
    refine T.fin0 fun ρ a w st => ?_
    exact ⟨_, results_one rfl rfl, (st.env 4)⟩
  · replace hF := iteF hF hc
    refine T.skip ?_
    refine T.norm ?_
    refine T.seq ?_
    obtain ⟨_u22, e5, hF⟩ := bindS hF
    obtain ⟨_u24, e6, hF⟩ := bindS hF
    refine T.region mix 6 [21, 22, 23, 24, 25, 4] [0, 1, 0, 7, 15, 31] [(sp ((TF .f32).sv x0)), (sp ((TI .u32).sv (x0 : Int))), (sp ((TF .f32).sv x1)), (sp ((TI .u32).sv (x1 : Int))), (sp (TB.sv (decide ((x0 : Int) = (x1 : Int))))), (sp (TB.sv (decide ((x0 : Int) = (x1 : Int)))))] (by kernel_rfl) (AOK.cons (fun ρ a w hs hz hΓ hp => gp (d_move (hΓ 0 rfl))) (AOK.cons (fun ρ a w hs hz hΓ hp => gp (d_bits32 ex154 (hp 0 _ rfl rfl).1 (need_get e5))) (AOK.cons (fun ρ a w hs hz hΓ hp => gp (d_move (hΓ 1 rfl))) (AOK.cons (fun ρ a w hs hz hΓ hp => gp (d_bits32 ex154 (hp 2 _ rfl rfl).1 (need_get e6))) (AOK.cons (fun ρ a w hs hz hΓ hp => gp (d_eql (hp 1 _ rfl rfl).1 (hp 3 _ rfl rfl).1)) (AOK.cons (fun ρ a w hs hz hΓ hp => gp (d_assign (hp 4 _ rfl rfl).1)) AOK.nil rfl) rfl) rfl) rfl) rfl) rfl) (fun vs4 => ?_)
    refine T.nil ?_
    refine T.norm ?_
    refine T.ret ?_
    obtain rfl := Option.some.inj hF
    refine T.fin0 fun ρ a w st => ?_
    exact ⟨_, results_one rfl rfl, (st.env 4)⟩

theorem c128 (w : World) (v0 v1 : Value) {σ : Heap} (hσ : σ.le (snap w)) {x0 : (List Nat)} {x1 : (List Nat)} {r : Bool} (hF : impl_SamePoint x0 x1 = some r) (h0 : Y55.val σ v0 x0) (h1 : Y55.val σ v1 x1) :
    Calls Try.prog 128 #[v0, v1] w (Ret [] w σ (TB.sv r) []) := by
  unfold impl_SamePoint at hF
  refine start (args := [v0, v1]) Try.func128 rfl 24 rfl [] [(0, (Y55.sv x0)), (1, (Y55.sv x1))] [] (sat_start _ hσ) rfl (args1 rfl h0 (args1 rfl h1 (args0))) ?_
  refine T.seq ?_
  refine T.region mix 3 [2, 3, 4] [0, 0, 0] [(sp ((TP Y55).sv x0)), (sp ((TP Y55).sv x1)), (sp (TB.sv false))] (by kernel_rfl) (AOK.cons (fun ρ a w hs hz hΓ hp => gp (d_box hs.le (hΓ 0 rfl))) (AOK.cons (fun ρ a w hs hz hΓ hp => gp (d_box hs.le (hΓ 1 rfl))) (AOK.cons (fun ρ a w hs hz hΓ hp => gp (d_assign (vB _))) AOK.nil rfl) rfl) rfl) (fun vs1 => ?_)
  refine T.nil ?_
  refine T.norm ?_
  refine T.seq ?_
  obtain ⟨x9, e3, hF⟩ := bindS hF
  obtain ⟨x16, e5, hF⟩ := bindS hF
  obtain ⟨x15, e6⟩ : ∃ (x15 : Bool), x9 = true → impl_SameNumber (nth x0 1) (nth x1 1) = some x15 ∧ x15 = x16 := by
    by_cases hb : x9 = true
    · replace e5 := iteT e5 hb
      obtain ⟨x15, e4, e5⟩ := bindS e5
      exact ⟨x15, fun _ => ⟨e4, Option.some.inj e5⟩⟩
    · exact ⟨default, fun h => absurd h hb⟩
  have e7 : x9 = false → false = x16 := fun h => Option.some.inj (iteF e5 h)
  obtain ⟨x23, e9, hF⟩ := bindS hF
  obtain ⟨x22, e10⟩ : ∃ (x22 : Bool), x16 = true → impl_SameNumber (nth x0 2) (nth x1 2) = some x22 ∧ x22 = x23 := by
    by_cases hb : x16 = true
    · replace e9 := iteT e9 hb
      obtain ⟨x22, e8, e9⟩ := bindS e9
      exact ⟨x22, fun _ => ⟨e8, Option.some.inj e9⟩⟩
    · exact ⟨default, fun h => absurd h hb⟩
  have e11 : x16 = false → false = x23 := fun h => Option.some.inj (iteF e9 h)
  refine T.region mix 20 [5, 6, 7, 8, 9, 10, 11, 12, 13, 14, 15, 16, 17, 18, 19, 20, 21, 22, 23, 4] [0, 1, 0, 4, 15, 31, 63, 127, 63, 319, 1023, 2047, 4095, 8191, 16383, 8191, 40959, 131071, 262143, 524287] [(sp ((TP (TF .f32)).sv (nth x0 0))), (sp ((TF .f32).sv (nth x0 0))), (sp ((TP (TF .f32)).sv (nth x1 0))), (sp ((TF .f32).sv (nth x1 0))), (sp (TB.sv x9)), (sp (TB.sv x9)), (sp (SRel.when (x9 = true) ((TP (TF .f32)).sv (nth x0 1)))), (sp (SRel.when (x9 = true) ((TF .f32).sv (nth x0 1)))), (sp (SRel.when (x9 = true) ((TP (TF .f32)).sv (nth x1 1)))), (sp (SRel.when (x9 = true) ((TF .f32).sv (nth x1 1)))), (sp (SRel.when (x9 = true) (TB.sv x15))), (sp (TB.sv x16)), (sp (TB.sv x16)), (sp (SRel.when (x16 = true) ((TP (TF .f32)).sv (nth x0 2)))), (sp (SRel.when (x16 = true) ((TF .f32).sv (nth x0 2)))), (sp (SRel.when (x16 = true) ((TP (TF .f32)).sv (nth x1 2)))), (sp (SRel.when (x16 = true) ((TF .f32).sv (nth x1 2)))), (sp (SRel.when (x16 = true) (TB.sv x22))), (sp (TB.sv x23)), (sp (TB.sv x23))] (by kernel_rfl) (AOK.cons (fun ρ a w hs hz hΓ hp => gp (d_idxPc .i64 0 u63 y54 (hΓ 2 rfl) rfl)) (AOK.cons (fun ρ a w hs hz hΓ hp => gp (d_load y54 hs.le (hp 0 _ rfl rfl).1)) (AOK.cons (fun ρ a w hs hz hΓ hp => gp (d_idxPc .i64 0 u63 y54 (hΓ 3 rfl) rfl)) (AOK.cons (fun ρ a w hs hz hΓ hp => gp (d_load y54 hs.le (hp 2 _ rfl rfl).1)) (AOK.cons (fun ρ a w hs hz hΓ hp => gp (d_call fn129 hs.le mapA2 (c129 w _ _ hs.le e3 ((hp 1 _ rfl rfl).1) ((hp 3 _ rfl rfl).1)))) (AOK.cons (fun ρ a w hs hz hΓ hp => gp (d_move (hp 4 _ rfl rfl).1)) (AOK.cons (fun ρ a w hs hz hΓ hp => gg (g := 5) (d := 10) hz rfl (hp 5 _ rfl rfl).1 rfl (fun hc => d_idxPc .i64 1 u63 y54 (hΓ 2 rfl) rfl)) (AOK.cons (fun ρ a w hs hz hΓ hp => gg (g := 5) (d := 10) hz rfl (hp 5 _ rfl rfl).1 rfl (fun hc => d_load y54 hs.le ((hp 6 _ rfl rfl).1 hc))) (AOK.cons (fun ρ a w hs hz hΓ hp => gg (g := 5) (d := 10) hz rfl (hp 5 _ rfl rfl).1 rfl (fun hc => d_idxPc .i64 1 u63 y54 (hΓ 3 rfl) rfl)) (AOK.cons (fun ρ a w hs hz hΓ hp => gg (g := 5) (d := 10) hz rfl (hp 5 _ rfl rfl).1 rfl (fun hc => d_load y54 hs.le ((hp 8 _ rfl rfl).1 hc))) (AOK.cons (fun ρ a w hs hz hΓ hp => gg (g := 5) (d := 10) hz rfl (hp 5 _ rfl rfl).1 rfl (fun hc => d_call fn129 hs.le mapA2 (c129 w _ _ hs.le (e6 hc).1 ((hp 7 _ rfl rfl).1 hc) ((hp 9 _ rfl rfl).1 hc)))) (AOK.cons (fun ρ a w hs hz hΓ hp => gp (d_pick (hp 5 _ rfl rfl).1 (fun hc => (pE ((e6 hc).2) ((hp 10 _ rfl rfl).1 hc))) (fun hc => pC (e7 hc)))) (AOK.cons (fun ρ a w hs hz hΓ hp => gp (d_move (hp 11 _ rfl rfl).1)) (AOK.cons (fun ρ a w hs hz hΓ hp => gg (g := 12) (d := 17) hz rfl (hp 12 _ rfl rfl).1 rfl (fun hc => d_idxPc .i64 2 u63 y54 (hΓ 2 rfl) rfl)) (AOK.cons (fun ρ a w hs hz hΓ hp => gg (g := 12) (d := 17) hz rfl (hp 12 _ rfl rfl).1 rfl (fun hc => d_load y54 hs.le ((hp 13 _ rfl rfl).1 hc))) (AOK.cons (fun ρ a w hs hz hΓ hp => gg (g := 12) (d := 17) hz rfl (hp 12 _ rfl rfl).1 rfl (fun hc => d_idxPc .i64 2 u63 y54 (hΓ 3 rfl) rfl)) (AOK.cons (fun ρ a w hs hz hΓ hp => gg (g := 12) (d := 17) hz rfl (hp 12 _ rfl rfl).1 rfl (fun hc => d_load y54 hs.le ((hp 15 _ rfl rfl).1 hc))) (AOK.cons (fun ρ a w hs hz hΓ hp => gg (g := 12) (d := 17) hz rfl (hp 12 _ rfl rfl).1 rfl (fun hc => d_call fn129 hs.le mapA2 (c129 w _ _ hs.le (e10 hc).1 ((hp 14 _ rfl rfl).1 hc) ((hp 16 _ rfl rfl).1 hc)))) (AOK.cons (fun ρ a w hs hz hΓ hp => gp (d_pick (hp 12 _ rfl rfl).1 (fun hc => (pE ((e10 hc).2) ((hp 17 _ rfl rfl).1 hc))) (fun hc => pC (e11 hc)))) (AOK.cons (fun ρ a w hs hz hΓ hp => gp (d_assign (hp 18 _ rfl rfl).1)) AOK.nil rfl) rfl) rfl) rfl) rfl) rfl) rfl) rfl) rfl) rfl) rfl) rfl) rfl) rfl) rfl) rfl) rfl) rfl) rfl) rfl) (fun vs2 => ?_)
  refine T.nil ?_
  refine T.norm ?_
  refine T.ret ?_
  obtain rfl := Option.some.inj hF
  refine T.fin0 fun ρ a w st => ?_
  exact ⟨_, results_one rfl rfl, (st.env 4)⟩

theorem c79 (w : World) (v0 v1 : Value) {σ : Heap} (hσ : σ.le (snap w)) {x0 : ((List Nat) × (List Nat) × (List Nat) × Nat × Nat)} {x1 : ((List Nat) × (List Nat) × (List Nat) × Nat × Nat)} {r : Bool} (hF : impl_SameCamera x0 x1 = some r) (h0 : Y56.val σ v0 x0) (h1 : Y56.val σ v1 x1) :
    Calls Try.prog 79 #[v0, v1] w (Ret [] w σ (TB.sv r) []) := by
  unfold impl_SameCamera at hF
  refine start (args := [v0, v1]) Try.func79 rfl 38 rfl [] [(0, (Y56.sv x0)), (1, (Y56.sv x1))] [] (sat_start _ hσ) rfl (args1 rfl h0 (args1 rfl h1 (args0))) ?_
  refine T.seq ?_
  refine T.region mix 3 [2, 3, 4] [0, 0, 0] [(sp ((TP Y56).sv x0)), (sp ((TP Y56).sv x1)), (sp (TB.sv false))] (by kernel_rfl) (AOK.cons (fun ρ a w hs hz hΓ hp => gp (d_box hs.le (hΓ 0 rfl))) (AOK.cons (fun ρ a w hs hz hΓ hp => gp (d_box hs.le (hΓ 1 rfl))) (AOK.cons (fun ρ a w hs hz hΓ hp => gp (d_assign (vB _))) AOK.nil rfl) rfl) rfl) (fun vs1 => ?_)
  refine T.nil ?_
  refine T.norm ?_
  refine T.seq ?_
  obtain ⟨x9, e3, hF⟩ := bindS hF
  obtain ⟨x16, e5, hF⟩ := bindS hF
  obtain ⟨x15, e6⟩ : ∃ (x15 : Bool), x9 = true → impl_SamePoint x0.2.1 x1.2.1 = some x15 ∧ x15 = x16 := by
    by_cases hb : x9 = true
    · replace e5 := iteT e5 hb
      obtain ⟨x15, e4, e5⟩ := bindS e5
      exact ⟨x15, fun _ => ⟨e4, Option.some.inj e5⟩⟩
    · exact ⟨default, fun h => absurd h hb⟩
  have e7 : x9 = false → false = x16 := fun h => Option.some.inj (iteF e5 h)
  obtain ⟨x23, e9, hF⟩ := bindS hF
  obtain ⟨x22, e10⟩ : ∃ (x22 : Bool), x16 = true → impl_SamePoint x0.2.2.1 x1.2.2.1 = some x22 ∧ x22 = x23 := by
    by_cases hb : x16 = true
    · replace e9 := iteT e9 hb
      obtain ⟨x22, e8, e9⟩ := bindS e9
      exact ⟨x22, fun _ => ⟨e8, Option.some.inj e9⟩⟩
    · exact ⟨default, fun h => absurd h hb⟩
  have e11 : x16 = false → false = x23 := fun h => Option.some.inj (iteF e9 h)
  obtain ⟨x30, e13, hF⟩ := bindS hF
  obtain ⟨x29, e14⟩ : ∃ (x29 : Bool), x23 = true → impl_SameNumber x0.2.2.2.1 x1.2.2.2.1 = some x29 ∧ x29 = x30 := by
    by_cases hb : x23 = true
    · replace e13 := iteT e13 hb
      obtain ⟨x29, e12, e13⟩ := bindS e13
      exact ⟨x29, fun _ => ⟨e12, Option.some.inj e13⟩⟩
    · exact ⟨default, fun h => absurd h hb⟩
  have e15 : x23 = false → false = x30 := fun h => Option.some.inj (iteF e13 h)
  obtain ⟨x37, e17, hF⟩ := bindS hF
  obtain ⟨x36, e18⟩ : ∃ (x36 : Bool), x30 = true → impl_SameNumber x0.2.2.2.2 x1.2.2.2.2 = some x36 ∧ x36 = x37 := by
    by_cases hb : x30 = true
    · replace e17 := iteT e17 hb
      obtain ⟨x36, e16, e17⟩ := bindS e17
      exact ⟨x36, fun _ => ⟨e16, Option.some.inj e17⟩⟩
    · exact ⟨default, fun h => absurd h hb⟩
  have e19 : x30 = false → false = x37 := fun h => Option.some.inj (iteF e17 h)
  refine T.region mix 34 [5, 6, 7, 8, 9, 10, 11, 12, 13, 14, 15, 16, 17, 18, 19, 20, 21, 22, 23, 24, 25, 26, 27, 28, 29, 30, 31, 32, 33, 34, 35, 36, 37, 4] [0, 1, 0, 4, 15, 31, 63, 127, 63, 319, 1023, 2047, 4095, 8191, 16383, 8191, 40959, 131071, 262143, 524287, 1048575, 2097151, 1048575, 5242879, 16777215, 33554431, 67108863, 134217727, 268435455, 134217727, 671088639, 2147483647, 4294967295, 8589934591] [(sp ((TP Y55).sv x0.1)), (sp (Y55.sv x0.1)), (sp ((TP Y55).sv x1.1)), (sp (Y55.sv x1.1)), (sp (TB.sv x9)), (sp (TB.sv x9)), (sp (SRel.when (x9 = true) ((TP Y55).sv x0.2.1))), (sp (SRel.when (x9 = true) (Y55.sv x0.2.1))), (sp (SRel.when (x9 = true) ((TP Y55).sv x1.2.1))), (sp (SRel.when (x9 = true) (Y55.sv x1.2.1))), (sp (SRel.when (x9 = true) (TB.sv x15))), (sp (TB.sv x16)), (sp (TB.sv x16)), (sp (SRel.when (x16 = true) ((TP Y55).sv x0.2.2.1))), (sp (SRel.when (x16 = true) (Y55.sv x0.2.2.1))), (sp (SRel.when (x16 = true) ((TP Y55).sv x1.2.2.1))), (sp (SRel.when (x16 = true) (Y55.sv x1.2.2.1))), (sp (SRel.when (x16 = true) (TB.sv x22))), (sp (TB.sv x23)), (sp (TB.sv x23)), (sp (SRel.when (x23 = true) ((TP (TF .f32)).sv x0.2.2.2.1))), (sp (SRel.when (x23 = true) ((TF .f32).sv x0.2.2.2.1))), (sp (SRel.when (x23 = true) ((TP (TF .f32)).sv x1.2.2.2.1))), (sp (SRel.when (x23 = true) ((TF .f32).sv x1.2.2.2.1))), (sp (SRel.when (x23 = true) (TB.sv x29))), (sp (TB.sv x30)), (sp (TB.sv x30)), (sp (SRel.when (x30 = true) ((TP (TF .f32)).sv x0.2.2.2.2))), (sp (SRel.when (x30 = true) ((TF .f32).sv x0.2.2.2.2))), (sp (SRel.when (x30 = true) ((TP (TF .f32)).sv x1.2.2.2.2))), (sp (SRel.when (x30 = true) ((TF .f32).sv x1.2.2.2.2))), (sp (SRel.when (x30 = true) (TB.sv x36))), (sp (TB.sv x37)), (sp (TB.sv x37))] (by kernel_rfl) (AOK.cons (fun ρ a w hs hz hΓ hp => gp (d_fieldP fa65_0 (hΓ 2 rfl) (At.fst (At.refl _ _)))) (AOK.cons (fun ρ a w hs hz hΓ hp => gp (d_load y63 hs.le (hp 0 _ rfl rfl).1)) (AOK.cons (fun ρ a w hs hz hΓ hp => gp (d_fieldP fa65_0 (hΓ 3 rfl) (At.fst (At.refl _ _)))) (AOK.cons (fun ρ a w hs hz hΓ hp => gp (d_load y63 hs.le (hp 2 _ rfl rfl).1)) (AOK.cons (fun ρ a w hs hz hΓ hp => gp (d_call fn128 hs.le mapA2 (c128 w _ _ hs.le e3 ((hp 1 _ rfl rfl).1) ((hp 3 _ rfl rfl).1)))) (AOK.cons (fun ρ a w hs hz hΓ hp => gp (d_move (hp 4 _ rfl rfl).1)) (AOK.cons (fun ρ a w hs hz hΓ hp => gg (g := 5) (d := 10) hz rfl (hp 5 _ rfl rfl).1 rfl (fun hc => d_fieldP fa65_1 (hΓ 2 rfl) (At.fst (At.snd (At.refl _ _))))) (AOK.cons (fun ρ a w hs hz hΓ hp => gg (g := 5) (d := 10) hz rfl (hp 5 _ rfl rfl).1 rfl (fun hc => d_load y63 hs.le ((hp 6 _ rfl rfl).1 hc))) (AOK.cons (fun ρ a w hs hz hΓ hp => gg (g := 5) (d := 10) hz rfl (hp 5 _ rfl rfl).1 rfl (fun hc => d_fieldP fa65_1 (hΓ 3 rfl) (At.fst (At.snd (At.refl _ _))))) (AOK.cons (fun ρ a w hs hz hΓ hp => gg (g := 5) (d := 10) hz rfl (hp 5 _ rfl rfl).1 rfl (fun hc => d_load y63 hs.le ((hp 8 _ rfl rfl).1 hc))) (AOK.cons (fun ρ a w hs hz hΓ hp => gg (g := 5) (d := 10) hz rfl (hp 5 _ rfl rfl).1 rfl (fun hc => d_call fn128 hs.le mapA2 (c128 w _ _ hs.le (e6 hc).1 ((hp 7 _ rfl rfl).1 hc) ((hp 9 _ rfl rfl).1 hc)))) (AOK.cons (fun ρ a w hs hz hΓ hp => gp (d_pick (hp 5 _ rfl rfl).1 (fun hc => (pE ((e6 hc).2) ((hp 10 _ rfl rfl).1 hc))) (fun hc => pC (e7 hc)))) (AOK.cons (fun ρ a w hs hz hΓ hp => gp (d_move (hp 11 _ rfl rfl).1)) (AOK.cons (fun ρ a w hs hz hΓ hp => gg (g := 12) (d := 17) hz rfl (hp 12 _ rfl rfl).1 rfl (fun hc => d_fieldP fa65_2 (hΓ 2 rfl) (At.fst (At.snd (At.snd (At.refl _ _)))))) (AOK.cons (fun ρ a w hs hz hΓ hp => gg (g := 12) (d := 17) hz rfl (hp 12 _ rfl rfl).1 rfl (fun hc => d_load y63 hs.le ((hp 13 _ rfl rfl).1 hc))) (AOK.cons (fun ρ a w hs hz hΓ hp => gg (g := 12) (d := 17) hz rfl (hp 12 _ rfl rfl).1 rfl (fun hc => d_fieldP fa65_2 (hΓ 3 rfl) (At.fst (At.snd (At.snd (At.refl _ _)))))) (AOK.cons (fun ρ a w hs hz hΓ hp => gg (g := 12) (d := 17) hz rfl (hp 12 _ rfl rfl).1 rfl (fun hc => d_load y63 hs.le ((hp 15 _ rfl rfl).1 hc))) (AOK.cons (fun ρ a w hs hz hΓ hp => gg (g := 12) (d := 17) hz rfl (hp 12 _ rfl rfl).1 rfl (fun hc => d_call fn128 hs.le mapA2 (c128 w _ _ hs.le (e10 hc).1 ((hp 14 _ rfl rfl).1 hc) ((hp 16 _ rfl rfl).1 hc)))) (AOK.cons (fun ρ a w hs hz hΓ hp => gp (d_pick (hp 12 _ rfl rfl).1 (fun hc => (pE ((e10 hc).2) ((hp 17 _ rfl rfl).1 hc))) (fun hc => pC (e11 hc)))) (AOK.cons (fun ρ a w hs hz hΓ hp => gp (d_move (hp 18 _ rfl rfl).1)) (AOK.cons (fun ρ a w hs hz hΓ hp => gg (g := 19) (d := 24) hz rfl (hp 19 _ rfl rfl).1 rfl (fun hc => d_fieldP fa65_3 (hΓ 2 rfl) (At.fst (At.snd (At.snd (At.snd (At.refl _ _))))))) (AOK.cons (fun ρ a w hs hz hΓ hp => gg (g := 19) (d := 24) hz rfl (hp 19 _ rfl rfl).1 rfl (fun hc => d_load y54 hs.le ((hp 20 _ rfl rfl).1 hc))) (AOK.cons (fun ρ a w hs hz hΓ hp => gg (g := 19) (d := 24) hz rfl (hp 19 _ rfl rfl).1 rfl (fun hc => d_fieldP fa65_3 (hΓ 3 rfl) (At.fst (At.snd (At.snd (At.snd (At.refl _ _))))))) (AOK.cons (fun ρ a w hs hz hΓ hp => gg (g := 19) (d := 24) hz rfl (hp 19 _ rfl rfl).1 rfl (fun hc => d_load y54 hs.le ((hp 22 _ rfl rfl).1 hc))) (AOK.cons (fun ρ a w hs hz hΓ hp => gg (g := 19) (d := 24) hz rfl (hp 19 _ rfl rfl).1 rfl (fun hc => d_call fn129 hs.le mapA2 (c129 w _ _ hs.le (e14 hc).1 ((hp 21 _ rfl rfl).1 hc) ((hp 23 _ rfl rfl).1 hc)))) (AOK.cons (fun ρ a w hs hz hΓ hp => gp (d_pick (hp 19 _ rfl rfl).1 (fun hc => (pE ((e14 hc).2) ((hp 24 _ rfl rfl).1 hc))) (fun hc => pC (e15 hc)))) (AOK.cons (fun ρ a w hs hz hΓ hp => gp (d_move (hp 25 _ rfl rfl).1)) (AOK.cons (fun ρ a w hs hz hΓ hp => gg (g := 26) (d := 31) hz rfl (hp 26 _ rfl rfl).1 rfl (fun hc => d_fieldP fa65_4 (hΓ 2 rfl) (At.snd (At.snd (At.snd (At.snd (At.refl _ _))))))) (AOK.cons (fun ρ a w hs hz hΓ hp => gg (g := 26) (d := 31) hz rfl (hp 26 _ rfl rfl).1 rfl (fun hc => d_load y54 hs.le ((hp 27 _ rfl rfl).1 hc))) (AOK.cons (fun ρ a w hs hz hΓ hp => gg (g := 26) (d := 31) hz rfl (hp 26 _ rfl rfl).1 rfl (fun hc => d_fieldP fa65_4 (hΓ 3 rfl) (At.snd (At.snd (At.snd (At.snd (At.refl _ _))))))) (AOK.cons (fun ρ a w hs hz hΓ hp => gg (g := 26) (d := 31) hz rfl (hp 26 _ rfl rfl).1 rfl (fun hc => d_load y54 hs.le ((hp 29 _ rfl rfl).1 hc))) (AOK.cons (fun ρ a w hs hz hΓ hp => gg (g := 26) (d := 31) hz rfl (hp 26 _ rfl rfl).1 rfl (fun hc => d_call fn129 hs.le mapA2 (c129 w _ _ hs.le (e18 hc).1 ((hp 28 _ rfl rfl).1 hc) ((hp 30 _ rfl rfl).1 hc)))) (AOK.cons (fun ρ a w hs hz hΓ hp => gp (d_pick (hp 26 _ rfl rfl).1 (fun hc => (pE ((e18 hc).2) ((hp 31 _ rfl rfl).1 hc))) (fun hc => pC (e19 hc)))) (AOK.cons (fun ρ a w hs hz hΓ hp => gp (d_assign (hp 32 _ rfl rfl).1)) AOK.nil rfl) rfl) rfl) rfl) rfl) rfl) rfl) rfl) rfl) rfl) rfl) rfl) rfl) rfl) rfl) rfl) rfl) rfl) rfl) rfl) rfl) rfl) rfl) rfl) rfl) rfl) rfl) rfl) rfl) rfl) rfl) rfl) rfl) rfl) (fun vs2 => ?_)
  refine T.nil ?_
  refine T.norm ?_
  refine T.ret ?_
  obtain rfl := Option.some.inj hF
  refine T.fin0 fun ρ a w st => ?_
  exact ⟨_, results_one rfl rfl, (st.env 4)⟩

theorem c80 (w : World) (v0 v1 v2 : Value) {σ : Heap} (hσ : σ.le (snap w)) {x0 : (List ((List (List Nat)) × (List (List Int))))} {x1 : (List ((List (List Nat)) × (List (List Int))))} {x2 : (((List (List Nat)) × (List (List Int))) → ((List (List Nat)) × (List (List Int))) → Option Bool)} {r : Bool} (hF : slices_EqualFunc_Solid_Solid_Solid_Solid x0 x1 x2 = some r) (h0 : Y58.val σ v0 x0) (h1 : Y58.val σ v1 x1) (h2 : (fn2 Try.prog Y157 Y157 TB x2).p σ v2) :
    Calls Try.prog 80 #[v0, v1, v2] w (Ret [] w σ (TB.sv r) []) := by
  unfold slices_EqualFunc_Solid_Solid_Solid_Solid at hF
  refine start (args := [v0, v1, v2]) Try.func80 rfl 32 rfl [] [(0, (Y58.sv x0)), (1, (Y58.sv x1)), (2, (fn2 Try.prog Y157 Y157 TB x2))] [] (sat_start _ hσ) rfl (args1 rfl h0 (args1 rfl h1 (args1 rfl h2 (args0)))) ?_
  refine T.seq ?_
  refine T.region mix 1 [6] [0] [(sp (TB.sv false))] (by kernel_rfl) (AOK.cons (fun ρ a w hs hz hΓ hp => gp (d_assign (vB _))) AOK.nil rfl) (fun vs1 => ?_)
  refine T.nil ?_
  refine T.norm ?_
  refine T.seq ?_
  refine T.seq ?_
  refine T.region mix 5 [10, 11, 12, 13, 14] [0, 1, 0, 4, 15] [(sp (Y58.sv x0)), (sp ((TI .i64).sv (x0.length : Int))), (sp (Y58.sv x1)), (sp ((TI .i64).sv (x1.length : Int))), (sp (TB.sv (decide ((x0.length : Int) ≠ (x1.length : Int)))))] (by kernel_rfl) (AOK.cons (fun ρ a w hs hz hΓ hp => gp (d_move (hΓ 0 rfl))) (AOK.cons (fun ρ a w hs hz hΓ hp => gp (d_lenR u66 (hp 0 _ rfl rfl).1)) (AOK.cons (fun ρ a w hs hz hΓ hp => gp (d_move (hΓ 1 rfl))) (AOK.cons (fun ρ a w hs hz hΓ hp => gp (d_lenR u66 (hp 2 _ rfl rfl).1)) (AOK.cons (fun ρ a w hs hz hΓ hp => gp (d_neq (hp 1 _ rfl rfl).1 (hp 3 _ rfl rfl).1)) AOK.nil rfl) rfl) rfl) rfl) rfl) (fun vs2 => ?_)
  refine T.nil ?_
  refine T.norm ?_
  refine T.cond (b := (decide ((x0.length : Int) ≠ (x1.length : Int)))) (fun _ _ h => h) (fun hc => ?_) (fun hc => ?_)
  · replace hF := iteT hF hc
    refine T.seq ?_
    refine T.region mix 1 [6] [0] [(sp (TB.sv false))] (by kernel_rfl) (AOK.cons (fun ρ a w hs hz hΓ hp => gp (d_assign (vB _))) AOK.nil rfl) (fun vs3 => ?_)
    refine T.nil ?_
    refine T.norm ?_
    refine T.ret ?_
    obtain rfl := Option.some.inj hF
    refine T.fin0 fun ρ a w st => ?_
    exact ⟨_, results_one rfl rfl, (st.env 6)⟩
  · replace hF := iteF hF hc
    refine T.skip ?_
    refine T.norm ?_
    refine T.seq ?_
    refine T.seq ?_
    refine T.region mix 3 [15, 16, 17] [0, 1, 0] [(sp (Y58.sv x0)), (sp ((TI .i64).sv (x0.length : Int))), (sp ((TI .i64).sv 0))] (by kernel_rfl) (AOK.cons (fun ρ a w hs hz hΓ hp => gp (d_move (hΓ 0 rfl))) (AOK.cons (fun ρ a w hs hz hΓ hp => gp (d_lenR u66 (hp 0 _ rfl rfl).1)) (AOK.cons (fun ρ a w hs hz hΓ hp => gp (d_move (vI rfl))) AOK.nil rfl) rfl) rfl) (fun vs4 => ?_)
    refine T.nil ?_
    refine T.norm ?_
    obtain ⟨yl5, e6, hF⟩ := bindS hF
    refine T.joinD (ι := Int × (Unit)) (fun p => yl5 = .inl p.1) (Γ' := fun p => E []) (H' := fun p => HL []) (fun p hy => ?_) (fun hk => ?_)
    · obtain ⟨o17, _⟩ := p
      cases hy
      refine T.norm ?_
      refine T.seq ?_
      refine T.region mix 1 [6] [0] [(sp (TB.sv true))] (by kernel_rfl) (AOK.cons (fun ρ a w hs hz hΓ hp => gp (d_assign (vB _))) AOK.nil rfl) (fun vs7 => ?_)
      refine T.nil ?_
      refine T.norm ?_
      refine T.ret ?_
      obtain rfl := Option.some.inj hF
      refine T.fin0 fun ρ a w st => ?_
      exact ⟨_, results_one rfl rfl, (st.env 6)⟩
    · skip
      refine T.block ?_
      refine T.loop (f := slices_EqualFunc_Solid_Solid_Solid_Solid_l1 x0 x1 x2) (σ := Int) (Z := Unit) (fun s z => E [(1, (Y58.sv x1)), (2, (fn2 Try.prog Y157 Y157 TB x2)), (15, (Y58.sv x0)), (16, ((TI .i64).sv (x0.length : Int))), (17, ((TI .i64).sv s))]) (fun s z => HL []) e6 () (fun φ h => T.toh h ⟨fun _ _ h => h, fun _ _ h => h, fun _ _ h => h, fun _ _ h => h, fun _ _ h => h, trivial⟩ trivial) (fun k s z uu5 hu5 hn5 => ?_)
      obtain ⟨s17, rfl⟩ : ∃ q, q = s := ⟨_, rfl⟩
      dsimp only [slices_EqualFunc_Solid_Solid_Solid_Solid_l1] at hu5
      refine T.seq ?_
      refine T.region mix 1 [18] [0] [(sp (TB.sv (decide (s17 < (x0.length : Int)))))] (by kernel_rfl) (AOK.cons (fun ρ a w hs hz hΓ hp => gp (d_lss (hΓ 17 rfl) (hΓ 16 rfl))) AOK.nil rfl) (fun vs8 => ?_)
      refine T.nil ?_
      refine T.norm ?_
      refine T.seq ?_
      refine T.cond (b := (decide (s17 < (x0.length : Int)))) (fun _ _ h => h) (fun hc => ?_) (fun hc => ?_)
      · replace hu5 := iteT hu5 hc
        refine T.skip ?_
        refine T.norm ?_
        refine T.seq ?_
        refine T.block ?_
        refine T.seq ?_
        obtain ⟨x20, e10, hu5⟩ := bindS hu5
        refine T.region mix 5 [19, 20, 21, 8, 7] [0, 0, 2, 0, 15, 31] [(sp ((TI .i64).sv s17)), (sp ((TP Y157).sv x20)), (sp (Y157.sv x20)), (sO SRel.any [(1, (boxR 127 Y157 ([], [])))]), (sp ((TI .i64).sv s17))] (by kernel_rfl) (AOK.cons (fun ρ a w hs hz hΓ hp => gp (d_move (hΓ 17 rfl))) (AOK.cons (fun ρ a w hs hz hΓ hp => gp (d_idxR u66 y127 (hΓ 15 rfl) (hΓ 17 rfl) e10)) (AOK.cons (fun ρ a w hs hz hΓ hp => gp (d_load y127 hs.le (hp 1 _ rfl rfl).1)) (AOK.cons (fun ρ a w hs hz hΓ hp => g_alloc hs.le z127 zc127) (AOK.cons (fun ρ a w hs hz hΓ hp => gp (d_assign (hp 0 _ rfl rfl).1)) AOK.nil rfl) rfl) rfl) rfl) rfl) (fun vs9 => ?_)
        refine T.store 1 y127 rfl (fun ρ a w st => ⟨.inl ⟨(st.env 8).1, rfl⟩, (st.env 21)⟩) (At.refl Y157 ([], [])) ?_
        refine T.nil ?_
        refine T.norm ?_
        refine T.seq ?_
        obtain ⟨x24, e12, hu5⟩ := bindS hu5
        refine T.region mix 5 [22, 23, 24, 25, 9] [0, 0, 3, 7, 0, 31] [(sp (Y58.sv x1)), (sp ((TI .i64).sv s17)), (sp ((TP Y157).sv x24)), (sp (Y157.sv x24)), (sO SRel.any [(2, (boxR 127 Y157 ([], [])))])] (by kernel_rfl) (AOK.cons (fun ρ a w hs hz hΓ hp => gp (d_move (hΓ 1 rfl))) (AOK.cons (fun ρ a w hs hz hΓ hp => gp (d_move (hΓ 7 rfl))) (AOK.cons (fun ρ a w hs hz hΓ hp => gp (d_idxR u66 y127 (hp 0 _ rfl rfl).1 (hp 1 _ rfl rfl).1 e12)) (AOK.cons (fun ρ a w hs hz hΓ hp => gp (d_load y127 hs.le (hp 2 _ rfl rfl).1)) (AOK.cons (fun ρ a w hs hz hΓ hp => g_alloc hs.le z127 zc127) AOK.nil rfl) rfl) rfl) rfl) rfl) (fun vs11 => ?_)
        refine T.store 2 y127 rfl (fun ρ a w st => ⟨.inl ⟨(st.env 9).1, rfl⟩, (st.env 25)⟩) (At.refl Y157 ([], [])) ?_
        refine T.nil ?_
        refine T.norm ?_
        refine T.seq ?_
        obtain ⟨x29, e14, hu5⟩ := bindS hu5
        refine T.region mix 5 [26, 27, 28, 29, 30] [0, 0, 0, 7, 15] [(sp (fn2 Try.prog Y157 Y157 TB x2)), (sp (Y157.sv x20)), (sp (Y157.sv x24)), (sp (TB.sv x29)), (sp (TB.sv (!x29)))] (by kernel_rfl) (AOK.cons (fun ρ a w hs hz hΓ hp => gp (d_move (hΓ 2 rfl))) (AOK.cons (fun ρ a w hs hz hΓ hp => gp (d_loadO y127 hs 1 rfl (.inl ⟨(hΓ 8 rfl).1, rfl⟩) (At.refl Y157 x20))) (AOK.cons (fun ρ a w hs hz hΓ hp => gp (d_loadO y127 hs 2 rfl (.inl ⟨(hΓ 9 rfl).1, rfl⟩) (At.refl Y157 x24))) (AOK.cons (fun ρ a w hs hz hΓ hp => gp (d_callV2 hs.le flat_TB ((hp 0 _ rfl rfl).1) ((hp 1 _ rfl rfl).1) ((hp 2 _ rfl rfl).1) e14)) (AOK.cons (fun ρ a w hs hz hΓ hp => gp (d_not (hp 3 _ rfl rfl).1)) AOK.nil rfl) rfl) rfl) rfl) rfl) (fun vs13 => ?_)
        refine T.nil ?_
        refine T.norm ?_
        refine T.cond (b := (!x29)) (fun _ _ h => h) (fun hc => ?_) (fun hc => ?_)
        · replace hu5 := iteT hu5 hc
          refine T.seq ?_
          refine T.region mix 1 [6] [0] [(sp (TB.sv false))] (by kernel_rfl) (AOK.cons (fun ρ a w hs hz hΓ hp => gp (d_assign (vB _))) AOK.nil rfl) (fun vs15 => ?_)
          refine T.nil ?_
          refine T.norm ?_
          refine T.ret ?_
          obtain rfl := Option.some.inj hu5
          cases hn5
          obtain rfl := Option.some.inj hF
          refine T.fin0 fun ρ a w st => ?_
          exact ⟨_, results_one rfl rfl, (st.env 6)⟩
        · replace hu5 := iteF hu5 hc
          refine T.skip ?_
          refine T.fallX ?_
          refine T.norm ?_
          refine T.region mix 2 [31, 17] [0, 1] [(sp ((TI .i64).sv (IntKind.i64.wrap (s17 + 1)))), (sp ((TI .i64).sv (IntKind.i64.wrap (s17 + 1))))] (by kernel_rfl) (AOK.cons (fun ρ a w hs hz hΓ hp => gp (d_add (hΓ 17 rfl) (vI rfl))) (AOK.cons (fun ρ a w hs hz hΓ hp => gp (d_move (hp 0 _ rfl rfl).1)) AOK.nil rfl) rfl) (fun vs16 => ?_)
          refine T.nil ?_
          obtain rfl := Option.some.inj hu5
          exact T.again hn5 () (fun φ h => T.toh h ⟨fun _ _ h => h, fun _ _ h => h, fun _ _ h => h, fun _ _ h => h, fun _ _ h => h, trivial⟩ trivial)
      · replace hu5 := iteF hu5 hc
        refine T.exit ?_
        obtain rfl := Option.some.inj hu5
        repeat (first | refine T.passX ?_ | refine T.inX (by decide) ?_)
        refine T.hereX ?_
        exact T.toh (hk (s17, ()) (Eq.symm hn5)) trivial trivial

theorem c130 (w : World) (v0 v1 v2 : Value) {σ : Heap} (hσ : σ.le (snap w)) {x0 : (List (List Nat))} {x1 : (List (List Nat))} {x2 : ((List Nat) → (List Nat) → Option Bool)} {r : Bool} (hF : slices_EqualFunc_Point_Point_Point_Point x0 x1 x2 = some r) (h0 : Y156.val σ v0 x0) (h1 : Y156.val σ v1 x1) (h2 : (fn2 Try.prog Y55 Y55 TB x2).p σ v2) :
    Calls Try.prog 130 #[v0, v1, v2] w (Ret [] w σ (TB.sv r) []) := by
  unfold slices_EqualFunc_Point_Point_Point_Point at hF
  refine start (args := [v0, v1, v2]) Try.func130 rfl 32 rfl [] [(0, (Y156.sv x0)), (1, (Y156.sv x1)), (2, (fn2 Try.prog Y55 Y55 TB x2))] [] (sat_start _ hσ) rfl (args1 rfl h0 (args1 rfl h1 (args1 rfl h2 (args0)))) ?_
  refine T.seq ?_
  refine T.region mix 1 [6] [0] [(sp (TB.sv false))] (by kernel_rfl) (AOK.cons (fun ρ a w hs hz hΓ hp => gp (d_assign (vB _))) AOK.nil rfl) (fun vs1 => ?_)
  refine T.nil ?_
  refine T.norm ?_
  refine T.seq ?_
  refine T.seq ?_
  refine T.region mix 5 [10, 11, 12, 13, 14] [0, 1, 0, 4, 15] [(sp (Y156.sv x0)), (sp ((TI .i64).sv (x0.length : Int))), (sp (Y156.sv x1)), (sp ((TI .i64).sv (x1.length : Int))), (sp (TB.sv (decide ((x0.length : Int) ≠ (x1.length : Int)))))] (by kernel_rfl) (AOK.cons (fun ρ a w hs hz hΓ hp => gp (d_move (hΓ 0 rfl))) (AOK.cons (fun ρ a w hs hz hΓ hp => gp (d_lenR u124 (hp 0 _ rfl rfl).1)) (AOK.cons (fun ρ a w hs hz hΓ hp => gp (d_move (hΓ 1 rfl))) (AOK.cons (fun ρ a w hs hz hΓ hp => gp (d_lenR u124 (hp 2 _ rfl rfl).1)) (AOK.cons (fun ρ a w hs hz hΓ hp => gp (d_neq (hp 1 _ rfl rfl).1 (hp 3 _ rfl rfl).1)) AOK.nil rfl) rfl) rfl) rfl) rfl) (fun vs2 => ?_)
  refine T.nil ?_
  refine T.norm ?_
  refine T.cond (b := (decide ((x0.length : Int) ≠ (x1.length : Int)))) (fun _ _ h => h) (fun hc => ?_) (fun hc => ?_)
  · replace hF := iteT hF hc
    refine T.seq ?_
    refine T.region mix 1 [6] [0] [(sp (TB.sv false))] (by kernel_rfl) (AOK.cons (fun ρ a w hs hz hΓ hp => gp (d_assign (vB _))) AOK.nil rfl) (fun vs3 => ?_)
    refine T.nil ?_
    refine T.norm ?_
    refine T.ret ?_
    obtain rfl := Option.some.inj hF
    refine T.fin0 fun ρ a w st => ?_
    exact ⟨_, results_one rfl rfl, (st.env 6)⟩
  · replace hF := iteF hF hc
    refine T.skip ?_
    refine T.norm ?_
    refine T.seq ?_
    refine T.seq ?_
    refine T.region mix 3 [15, 16, 17] [0, 1, 0] [(sp (Y156.sv x0)), (sp ((TI .i64).sv (x0.length : Int))), (sp ((TI .i64).sv 0))] (by kernel_rfl) (AOK.cons (fun ρ a w hs hz hΓ hp => gp (d_move (hΓ 0 rfl))) (AOK.cons (fun ρ a w hs hz hΓ hp => gp (d_lenR u124 (hp 0 _ rfl rfl).1)) (AOK.cons (fun ρ a w hs hz hΓ hp => gp (d_move (vI rfl))) AOK.nil rfl) rfl) rfl) (fun vs4 => ?_)
    refine T.nil ?_
    refine T.norm ?_
    obtain ⟨yl5, e6, hF⟩ := bindS hF
    refine T.joinD (ι := Int × (Unit)) (fun p => yl5 = .inl p.1) (Γ' := fun p => E []) (H' := fun p => HL []) (fun p hy => ?_) (fun hk => ?_)
    · obtain ⟨o17, _⟩ := p
      cases hy
      refine T.norm ?_
      refine T.seq ?_
      refine T.region mix 1 [6] [0] [(sp (TB.sv true))] (by kernel_rfl) (AOK.cons (fun ρ a w hs hz hΓ hp => gp (d_assign (vB _))) AOK.nil rfl) (fun vs7 => ?_)
      refine T.nil ?_
      refine T.norm ?_
      refine T.ret ?_
      obtain rfl := Option.some.inj hF
      refine T.fin0 fun ρ a w st => ?_
      exact ⟨_, results_one rfl rfl, (st.env 6)⟩
    · skip
      refine T.block ?_
      refine T.loop (f := slices_EqualFunc_Point_Point_Point_Point_l1 x0 x1 x2) (σ := Int) (Z := Unit) (fun s z => E [(1, (Y156.sv x1)), (2, (fn2 Try.prog Y55 Y55 TB x2)), (15, (Y156.sv x0)), (16, ((TI .i64).sv (x0.length : Int))), (17, ((TI .i64).sv s))]) (fun s z => HL []) e6 () (fun φ h => T.toh h ⟨fun _ _ h => h, fun _ _ h => h, fun _ _ h => h, fun _ _ h => h, fun _ _ h => h, trivial⟩ trivial) (fun k s z uu5 hu5 hn5 => ?_)
      obtain ⟨s17, rfl⟩ : ∃ q, q = s := ⟨_, rfl⟩
      dsimp only [slices_EqualFunc_Point_Point_Point_Point_l1] at hu5
      refine T.seq ?_
      refine T.region mix 1 [18] [0] [(sp (TB.sv (decide (s17 < (x0.length : Int)))))] (by kernel_rfl) (AOK.cons (fun ρ a w hs hz hΓ hp => gp (d_lss (hΓ 17 rfl) (hΓ 16 rfl))) AOK.nil rfl) (fun vs8 => ?_)
      refine T.nil ?_
      refine T.norm ?_
      refine T.seq ?_
      refine T.cond (b := (decide (s17 < (x0.length : Int)))) (fun _ _ h => h) (fun hc => ?_) (fun hc => ?_)
      · replace hu5 := iteT hu5 hc
        refine T.skip ?_
        refine T.norm ?_
        refine T.seq ?_
        refine T.block ?_
        refine T.seq ?_
        obtain ⟨x20, e10, hu5⟩ := bindS hu5
        refine T.region mix 5 [19, 20, 21, 8, 7] [0, 0, 2, 0, 15, 31] [(sp ((TI .i64).sv s17)), (sp ((TP Y55).sv x20)), (sp (Y55.sv x20)), (sO SRel.any [(1, (boxR 63 Y55 (List.replicate 3 0)))]), (sp ((TI .i64).sv s17))] (by kernel_rfl) (AOK.cons (fun ρ a w hs hz hΓ hp => gp (d_move (hΓ 17 rfl))) (AOK.cons (fun ρ a w hs hz hΓ hp => gp (d_idxR u124 y63 (hΓ 15 rfl) (hΓ 17 rfl) e10)) (AOK.cons (fun ρ a w hs hz hΓ hp => gp (d_load y63 hs.le (hp 1 _ rfl rfl).1)) (AOK.cons (fun ρ a w hs hz hΓ hp => g_alloc hs.le z63 zc63) (AOK.cons (fun ρ a w hs hz hΓ hp => gp (d_assign (hp 0 _ rfl rfl).1)) AOK.nil rfl) rfl) rfl) rfl) rfl) (fun vs9 => ?_)
        refine T.store 1 y63 rfl (fun ρ a w st => ⟨.inl ⟨(st.env 8).1, rfl⟩, (st.env 21)⟩) (At.refl Y55 (List.replicate 3 0)) ?_
        refine T.nil ?_
        refine T.norm ?_
        refine T.seq ?_
        obtain ⟨x24, e12, hu5⟩ := bindS hu5
        refine T.region mix 5 [22, 23, 24, 25, 9] [0, 0, 3, 7, 0, 31] [(sp (Y156.sv x1)), (sp ((TI .i64).sv s17)), (sp ((TP Y55).sv x24)), (sp (Y55.sv x24)), (sO SRel.any [(2, (boxR 63 Y55 (List.replicate 3 0)))])] (by kernel_rfl) (AOK.cons (fun ρ a w hs hz hΓ hp => gp (d_move (hΓ 1 rfl))) (AOK.cons (fun ρ a w hs hz hΓ hp => gp (d_move (hΓ 7 rfl))) (AOK.cons (fun ρ a w hs hz hΓ hp => gp (d_idxR u124 y63 (hp 0 _ rfl rfl).1 (hp 1 _ rfl rfl).1 e12)) (AOK.cons (fun ρ a w hs hz hΓ hp => gp (d_load y63 hs.le (hp 2 _ rfl rfl).1)) (AOK.cons (fun ρ a w hs hz hΓ hp => g_alloc hs.le z63 zc63) AOK.nil rfl) rfl) rfl) rfl) rfl) (fun vs11 => ?_)
        refine T.store 2 y63 rfl (fun ρ a w st => ⟨.inl ⟨(st.env 9).1, rfl⟩, (st.env 25)⟩) (At.refl Y55 (List.replicate 3 0)) ?_
        refine T.nil ?_
        refine T.norm ?_
        refine T.seq ?_
        obtain ⟨x29, e14, hu5⟩ := bindS hu5
        refine T.region mix 5 [26, 27, 28, 29, 30] [0, 0, 0, 7, 15] [(sp (fn2 Try.prog Y55 Y55 TB x2)), (sp (Y55.sv x20)), (sp (Y55.sv x24)), (sp (TB.sv x29)), (sp (TB.sv (!x29)))] (by kernel_rfl) (AOK.cons (fun ρ a w hs hz hΓ hp => gp (d_move (hΓ 2 rfl))) (AOK.cons (fun ρ a w hs hz hΓ hp => gp (d_loadO y63 hs 1 rfl (.inl ⟨(hΓ 8 rfl).1, rfl⟩) (At.refl Y55 x20))) (AOK.cons (fun ρ a w hs hz hΓ hp => gp (d_loadO y63 hs 2 rfl (.inl ⟨(hΓ 9 rfl).1, rfl⟩) (At.refl Y55 x24))) (AOK.cons (fun ρ a w hs hz hΓ hp => gp (d_callV2 hs.le flat_TB ((hp 0 _ rfl rfl).1) ((hp 1 _ rfl rfl).1) ((hp 2 _ rfl rfl).1) e14)) (AOK.cons (fun ρ a w hs hz hΓ hp => gp (d_not (hp 3 _ rfl rfl).1)) AOK.nil rfl) rfl) rfl) rfl) rfl) (fun vs13 => ?_)
        refine T.nil ?_
        refine T.norm ?_
        refine T.cond (b := (!x29)) (fun _ _ h => h) (fun hc => ?_) (fun hc => ?_)
        · replace hu5 := iteT hu5 hc
          refine T.seq ?_
          refine T.region mix 1 [6] [0] [(sp (TB.sv false))] (by kernel_rfl) (AOK.cons (fun ρ a w hs hz hΓ hp => gp (d_assign (vB _))) AOK.nil rfl) (fun vs15 => ?_)
          refine T.nil ?_
          refine T.norm ?_
          refine T.ret ?_
          obtain rfl := Option.some.inj hu5
          cases hn5
          obtain rfl := Option.some.inj hF
          refine T.fin0 fun ρ a w st => ?_
          exact ⟨_, results_one rfl rfl, (st.env 6)⟩
        · replace hu5 := iteF hu5 hc
          refine T.skip ?_
          refine T.fallX ?_
          refine T.norm ?_
          refine T.region mix 2 [31, 17] [0, 1] [(sp ((TI .i64).sv (IntKind.i64.wrap (s17 + 1)))), (sp ((TI .i64).sv (IntKind.i64.wrap (s17 + 1))))] (by kernel_rfl) (AOK.cons (fun ρ a w hs hz hΓ hp => gp (d_add (hΓ 17 rfl) (vI rfl))) (AOK.cons (fun ρ a w hs hz hΓ hp => gp (d_move (hp 0 _ rfl rfl).1)) AOK.nil rfl) rfl) (fun vs16 => ?_)
          refine T.nil ?_
          obtain rfl := Option.some.inj hu5
          exact T.again hn5 () (fun φ h => T.toh h ⟨fun _ _ h => h, fun _ _ h => h, fun _ _ h => h, fun _ _ h => h, fun _ _ h => h, trivial⟩ trivial)
      · replace hu5 := iteF hu5 hc
        refine T.exit ?_
        obtain rfl := Option.some.inj hu5
        repeat (first | refine T.passX ?_ | refine T.inX (by decide) ?_)
        refine T.hereX ?_
        exact T.toh (hk (s17, ()) (Eq.symm hn5)) trivial trivial

theorem c131 (w : World) (v0 v1 v2 : Value) {σ : Heap} (hσ : σ.le (snap w)) {x0 : (List (List Int))} {x1 : (List (List Int))} {x2 : ((List Int) → (List Int) → Option Bool)} {r : Bool} (hF : slices_EqualFunc_int16_int16_int16_int16 x0 x1 x2 = some r) (h0 : Y125.val σ v0 x0) (h1 : Y125.val σ v1 x1) (h2 : (fn2 Try.prog Y169 Y169 TB x2).p σ v2) :
    Calls Try.prog 131 #[v0, v1, v2] w (Ret [] w σ (TB.sv r) []) := by
  unfold slices_EqualFunc_int16_int16_int16_int16 at hF
  refine start (args := [v0, v1, v2]) Try.func131 rfl 32 rfl [] [(0, (Y125.sv x0)), (1, (Y125.sv x1)), (2, (fn2 Try.prog Y169 Y169 TB x2))] [] (sat_start _ hσ) rfl (args1 rfl h0 (args1 rfl h1 (args1 rfl h2 (args0)))) ?_
  refine T.seq ?_
  refine T.region mix 1 [6] [0] [(sp (TB.sv false))] (by kernel_rfl) (AOK.cons (fun ρ a w hs hz hΓ hp => gp (d_assign (vB _))) AOK.nil rfl) (fun vs1 => ?_)
  refine T.nil ?_
  refine T.norm ?_
  refine T.seq ?_
  refine T.seq ?_
  refine T.region mix 5 [10, 11, 12, 13, 14] [0, 1, 0, 4, 15] [(sp (Y125.sv x0)), (sp ((TI .i64).sv (x0.length : Int))), (sp (Y125.sv x1)), (sp ((TI .i64).sv (x1.length : Int))), (sp (TB.sv (decide ((x0.length : Int) ≠ (x1.length : Int)))))] (by kernel_rfl) (AOK.cons (fun ρ a w hs hz hΓ hp => gp (d_move (hΓ 0 rfl))) (AOK.cons (fun ρ a w hs hz hΓ hp => gp (d_lenR u125 (hp 0 _ rfl rfl).1)) (AOK.cons (fun ρ a w hs hz hΓ hp => gp (d_move (hΓ 1 rfl))) (AOK.cons (fun ρ a w hs hz hΓ hp => gp (d_lenR u125 (hp 2 _ rfl rfl).1)) (AOK.cons (fun ρ a w hs hz hΓ hp => gp (d_neq (hp 1 _ rfl rfl).1 (hp 3 _ rfl rfl).1)) AOK.nil rfl) rfl) rfl) rfl) rfl) (fun vs2 => ?_)
  refine T.nil ?_
  refine T.norm ?_
  refine T.cond (b := (decide ((x0.length : Int) ≠ (x1.length : Int)))) (fun _ _ h => h) (fun hc => ?_) (fun hc => ?_)
  · replace hF := iteT hF hc
    refine T.seq ?_
    refine T.region mix 1 [6] [0] [(sp (TB.sv false))] (by kernel_rfl) (AOK.cons (fun ρ a w hs hz hΓ hp => gp (d_assign (vB _))) AOK.nil rfl) (fun vs3 => ?_)
    refine T.nil ?_
    refine T.norm ?_
    refine T.ret ?_
    obtain rfl := Option.some.inj hF
    refine T.fin0 fun ρ a w st => ?_
    exact ⟨_, results_one rfl rfl, (st.env 6)⟩
  · replace hF := iteF hF hc
    refine T.skip ?_
    refine T.norm ?_
    refine T.seq ?_
    refine T.seq ?_
    refine T.region mix 3 [15, 16, 17] [0, 1, 0] [(sp (Y125.sv x0)), (sp ((TI .i64).sv (x0.length : Int))), (sp ((TI .i64).sv 0))] (by kernel_rfl) (AOK.cons (fun ρ a w hs hz hΓ hp => gp (d_move (hΓ 0 rfl))) (AOK.cons (fun ρ a w hs hz hΓ hp => gp (d_lenR u125 (hp 0 _ rfl rfl).1)) (AOK.cons (fun ρ a w hs hz hΓ hp => gp (d_move (vI rfl))) AOK.nil rfl) rfl) rfl) (fun vs4 => ?_)
    refine T.nil ?_
    refine T.norm ?_
    obtain ⟨yl5, e6, hF⟩ := bindS hF
    refine T.joinD (ι := Int × (Unit)) (fun p => yl5 = .inl p.1) (Γ' := fun p => E []) (H' := fun p => HL []) (fun p hy => ?_) (fun hk => ?_)
    · obtain ⟨o17, _⟩ := p
      cases hy
      refine T.norm ?_
      refine T.seq ?_
      refine T.region mix 1 [6] [0] [(sp (TB.sv true))] (by kernel_rfl) (AOK.cons (fun ρ a w hs hz hΓ hp => gp (d_assign (vB _))) AOK.nil rfl) (fun vs7 => ?_)
      refine T.nil ?_
      refine T.norm ?_
      refine T.ret ?_
      obtain rfl := Option.some.inj hF
      refine T.fin0 fun ρ a w st => ?_
      exact ⟨_, results_one rfl rfl, (st.env 6)⟩
    · skip
      refine T.block ?_
      refine T.loop (f := slices_EqualFunc_int16_int16_int16_int16_l1 x0 x1 x2) (σ := Int) (Z := Unit) (fun s z => E [(1, (Y125.sv x1)), (2, (fn2 Try.prog Y169 Y169 TB x2)), (15, (Y125.sv x0)), (16, ((TI .i64).sv (x0.length : Int))), (17, ((TI .i64).sv s))]) (fun s z => HL []) e6 () (fun φ h => T.toh h ⟨fun _ _ h => h, fun _ _ h => h, fun _ _ h => h, fun _ _ h => h, fun _ _ h => h, trivial⟩ trivial) (fun k s z uu5 hu5 hn5 => ?_)
      obtain ⟨s17, rfl⟩ : ∃ q, q = s := ⟨_, rfl⟩
      dsimp only [slices_EqualFunc_int16_int16_int16_int16_l1] at hu5
      refine T.seq ?_
      refine T.region mix 1 [18] [0] [(sp (TB.sv (decide (s17 < (x0.length : Int)))))] (by kernel_rfl) (AOK.cons (fun ρ a w hs hz hΓ hp => gp (d_lss (hΓ 17 rfl) (hΓ 16 rfl))) AOK.nil rfl) (fun vs8 => ?_)
      refine T.nil ?_
      refine T.norm ?_
      refine T.seq ?_
      refine T.cond (b := (decide (s17 < (x0.length : Int)))) (fun _ _ h => h) (fun hc => ?_) (fun hc => ?_)
      · replace hu5 := iteT hu5 hc
        refine T.skip ?_
        refine T.norm ?_
        refine T.seq ?_
        refine T.block ?_
        refine T.seq ?_
        obtain ⟨x20, e10, hu5⟩ := bindS hu5
        refine T.region mix 5 [19, 20, 21, 7, 8] [0, 0, 2, 7, 15] [(sp ((TI .i64).sv s17)), (sp ((TP Y169).sv x20)), (sp (Y169.sv x20)), (sp ((TI .i64).sv s17)), (sp (Y169.sv x20))] (by kernel_rfl) (AOK.cons (fun ρ a w hs hz hΓ hp => gp (d_move (hΓ 17 rfl))) (AOK.cons (fun ρ a w hs hz hΓ hp => gp (d_idxR u125 y169 (hΓ 15 rfl) (hΓ 17 rfl) e10)) (AOK.cons (fun ρ a w hs hz hΓ hp => gp (d_load y169 hs.le (hp 1 _ rfl rfl).1)) (AOK.cons (fun ρ a w hs hz hΓ hp => gp (d_assign (hp 0 _ rfl rfl).1)) (AOK.cons (fun ρ a w hs hz hΓ hp => gp (d_assign (hp 2 _ rfl rfl).1)) AOK.nil rfl) rfl) rfl) rfl) rfl) (fun vs9 => ?_)
        refine T.nil ?_
        refine T.norm ?_
        refine T.seq ?_
        obtain ⟨x24, e12, hu5⟩ := bindS hu5
        refine T.region mix 5 [22, 23, 24, 25, 9] [0, 0, 3, 7, 15] [(sp (Y125.sv x1)), (sp ((TI .i64).sv s17)), (sp ((TP Y169).sv x24)), (sp (Y169.sv x24)), (sp (Y169.sv x24))] (by kernel_rfl) (AOK.cons (fun ρ a w hs hz hΓ hp => gp (d_move (hΓ 1 rfl))) (AOK.cons (fun ρ a w hs hz hΓ hp => gp (d_move (hΓ 7 rfl))) (AOK.cons (fun ρ a w hs hz hΓ hp => gp (d_idxR u125 y169 (hp 0 _ rfl rfl).1 (hp 1 _ rfl rfl).1 e12)) (AOK.cons (fun ρ a w hs hz hΓ hp => gp (d_load y169 hs.le (hp 2 _ rfl rfl).1)) (AOK.cons (fun ρ a w hs hz hΓ hp => gp (d_assign (hp 3 _ rfl rfl).1)) AOK.nil rfl) rfl) rfl) rfl) rfl) (fun vs11 => ?_)
        refine T.nil ?_
        refine T.norm ?_
        refine T.seq ?_
        obtain ⟨x29, e14, hu5⟩ := bindS hu5
        refine T.region mix 5 [26, 27, 28, 29, 30] [0, 0, 0, 7, 15] [(sp (fn2 Try.prog Y169 Y169 TB x2)), (sp (Y169.sv x20)), (sp (Y169.sv x24)), (sp (TB.sv x29)), (sp (TB.sv (!x29)))] (by kernel_rfl) (AOK.cons (fun ρ a w hs hz hΓ hp => gp (d_move (hΓ 2 rfl))) (AOK.cons (fun ρ a w hs hz hΓ hp => gp (d_move (hΓ 8 rfl))) (AOK.cons (fun ρ a w hs hz hΓ hp => gp (d_move (hΓ 9 rfl))) (AOK.cons (fun ρ a w hs hz hΓ hp => gp (d_callV2 hs.le flat_TB ((hp 0 _ rfl rfl).1) ((hp 1 _ rfl rfl).1) ((hp 2 _ rfl rfl).1) e14)) (AOK.cons (fun ρ a w hs hz hΓ hp => gp (d_not (hp 3 _ rfl rfl).1)) AOK.nil rfl) rfl) rfl) rfl) rfl) (fun vs13 => ?_)
        refine T.nil ?_
        refine T.norm ?_
        refine T.cond (b := (!x29)) (fun _ _ h => h) (fun hc => ?_) (fun hc => ?_)
        · replace hu5 := iteT hu5 hc
          refine T.seq ?_
          refine T.region mix 1 [6] [0] [(sp (TB.sv false))] (by kernel_rfl) (AOK.cons (fun ρ a w hs hz hΓ hp => gp (d_assign (vB _))) AOK.nil rfl) (fun vs15 => ?_)
          refine T.nil ?_
          refine T.norm ?_
          refine T.ret ?_
          obtain rfl := Option.some.inj hu5
          cases hn5
          obtain rfl := Option.some.inj hF
          refine T.fin0 fun ρ a w st => ?_
          exact ⟨_, results_one rfl rfl, (st.env 6)⟩
        · replace hu5 := iteF hu5 hc
          refine T.skip ?_
          refine T.fallX ?_
          refine T.norm ?_
          refine T.region mix 2 [31, 17] [0, 1] [(sp ((TI .i64).sv (IntKind.i64.wrap (s17 + 1)))), (sp ((TI .i64).sv (IntKind.i64.wrap (s17 + 1))))] (by kernel_rfl) (AOK.cons (fun ρ a w hs hz hΓ hp => gp (d_add (hΓ 17 rfl) (vI rfl))) (AOK.cons (fun ρ a w hs hz hΓ hp => gp (d_move (hp 0 _ rfl rfl).1)) AOK.nil rfl) rfl) (fun vs16 => ?_)
          refine T.nil ?_
          obtain rfl := Option.some.inj hu5
          exact T.again hn5 () (fun φ h => T.toh h ⟨fun _ _ h => h, fun _ _ h => h, fun _ _ h => h, fun _ _ h => h, fun _ _ h => h, trivial⟩ trivial)
      · replace hu5 := iteF hu5 hc
        refine T.exit ?_
        obtain rfl := Option.some.inj hu5
        repeat (first | refine T.passX ?_ | refine T.inX (by decide) ?_)
        refine T.hereX ?_
        exact T.toh (hk (s17, ()) (Eq.symm hn5)) trivial trivial

theorem c132 (w : World) (v0 v1 : Value) {σ : Heap} (hσ : σ.le (snap w)) {x0 : (List Int)} {x1 : (List Int)} {r : Bool} (hF : slices_Equal_int16_int16 x0 x1 = some r) (h0 : Y169.val σ v0 x0) (h1 : Y169.val σ v1 x1) :
    Calls Try.prog 132 #[v0, v1] w (Ret [] w σ (TB.sv r) []) := by
  unfold slices_Equal_int16_int16 at hF
  refine start (args := [v0, v1]) Try.func132 rfl 26 rfl [] [(0, (Y169.sv x0)), (1, (Y169.sv x1))] [] (sat_start _ hσ) rfl (args1 rfl h0 (args1 rfl h1 (args0))) ?_
  refine T.seq ?_
  refine T.region mix 1 [4] [0] [(sp (TB.sv false))] (by kernel_rfl) (AOK.cons (fun ρ a w hs hz hΓ hp => gp (d_assign (vB _))) AOK.nil rfl) (fun vs1 => ?_)
  refine T.nil ?_
  refine T.norm ?_
  refine T.seq ?_
  refine T.seq ?_
  refine T.region mix 5 [6, 7, 8, 9, 10] [0, 1, 0, 4, 15] [(sp (Y169.sv x0)), (sp ((TI .i64).sv (x0.length : Int))), (sp (Y169.sv x1)), (sp ((TI .i64).sv (x1.length : Int))), (sp (TB.sv (decide ((x0.length : Int) ≠ (x1.length : Int)))))] (by kernel_rfl) (AOK.cons (fun ρ a w hs hz hΓ hp => gp (d_move (hΓ 0 rfl))) (AOK.cons (fun ρ a w hs hz hΓ hp => gp (d_lenR u169 (hp 0 _ rfl rfl).1)) (AOK.cons (fun ρ a w hs hz hΓ hp => gp (d_move (hΓ 1 rfl))) (AOK.cons (fun ρ a w hs hz hΓ hp => gp (d_lenR u169 (hp 2 _ rfl rfl).1)) (AOK.cons (fun ρ a w hs hz hΓ hp => gp (d_neq (hp 1 _ rfl rfl).1 (hp 3 _ rfl rfl).1)) AOK.nil rfl) rfl) rfl) rfl) rfl) (fun vs2 => ?_)
  refine T.nil ?_
  refine T.norm ?_
  refine T.cond (b := (decide ((x0.length : Int) ≠ (x1.length : Int)))) (fun _ _ h => h) (fun hc => ?_) (fun hc => ?_)
  · replace hF := iteT hF hc
    refine T.seq ?_
    refine T.region mix 1 [4] [0] [(sp (TB.sv false))] (by kernel_rfl) (AOK.cons (fun ρ a w hs hz hΓ hp => gp (d_assign (vB _))) AOK.nil rfl) (fun vs3 => ?_)
    refine T.nil ?_
    refine T.norm ?_
    refine T.ret ?_
    obtain rfl := Option.some.inj hF
    refine T.fin0 fun ρ a w st => ?_
    exact ⟨_, results_one rfl rfl, (st.env 4)⟩
  · replace hF := iteF hF hc
    refine T.skip ?_
    refine T.norm ?_
    refine T.seq ?_
    refine T.seq ?_
    refine T.region mix 3 [11, 12, 13] [0, 1, 0] [(sp (Y169.sv x0)), (sp ((TI .i64).sv (x0.length : Int))), (sp ((TI .i64).sv 0))] (by kernel_rfl) (AOK.cons (fun ρ a w hs hz hΓ hp => gp (d_move (hΓ 0 rfl))) (AOK.cons (fun ρ a w hs hz hΓ hp => gp (d_lenR u169 (hp 0 _ rfl rfl).1)) (AOK.cons (fun ρ a w hs hz hΓ hp => gp (d_move (vI rfl))) AOK.nil rfl) rfl) rfl) (fun vs4 => ?_)
    refine T.nil ?_
    refine T.norm ?_
    obtain ⟨yl5, e6, hF⟩ := bindS hF
    refine T.joinD (ι := Int × (Unit)) (fun p => yl5 = .inl p.1) (Γ' := fun p => E []) (H' := fun p => HL []) (fun p hy => ?_) (fun hk => ?_)
    · obtain ⟨o13, _⟩ := p
      cases hy
      refine T.norm ?_
      refine T.seq ?_
      refine T.region mix 1 [4] [0] [(sp (TB.sv true))] (by kernel_rfl) (AOK.cons (fun ρ a w hs hz hΓ hp => gp (d_assign (vB _))) AOK.nil rfl) (fun vs7 => ?_)
      refine T.nil ?_
      refine T.norm ?_
      refine T.ret ?_
      obtain rfl := Option.some.inj hF
      refine T.fin0 fun ρ a w st => ?_
      exact ⟨_, results_one rfl rfl, (st.env 4)⟩
    · skip
      refine T.block ?_
      refine T.loop (f := slices_Equal_int16_int16_l1 x0 x1) (σ := Int) (Z := Unit) (fun s z => E [(0, (Y169.sv x0)), (1, (Y169.sv x1)), (12, ((TI .i64).sv (x0.length : Int))), (13, ((TI .i64).sv s))]) (fun s z => HL []) e6 () (fun φ h => T.toh h ⟨fun _ _ h => h, fun _ _ h => h, fun _ _ h => h, fun _ _ h => h, trivial⟩ trivial) (fun k s z uu5 hu5 hn5 => ?_)
      obtain ⟨s13, rfl⟩ : ∃ q, q = s := ⟨_, rfl⟩
      dsimp only [slices_Equal_int16_int16_l1] at hu5
      refine T.seq ?_
      refine T.region mix 1 [14] [0] [(sp (TB.sv (decide (s13 < (x0.length : Int)))))] (by kernel_rfl) (AOK.cons (fun ρ a w hs hz hΓ hp => gp (d_lss (hΓ 13 rfl) (hΓ 12 rfl))) AOK.nil rfl) (fun vs8 => ?_)
      refine T.nil ?_
      refine T.norm ?_
      refine T.seq ?_
      refine T.cond (b := (decide (s13 < (x0.length : Int)))) (fun _ _ h => h) (fun hc => ?_) (fun hc => ?_)
      · replace hu5 := iteT hu5 hc
        refine T.skip ?_
        refine T.norm ?_
        refine T.seq ?_
        refine T.block ?_
        refine T.seq ?_
        refine T.region mix 2 [15, 5] [0, 1] [(sp ((TI .i64).sv s13)), (sp ((TI .i64).sv s13))] (by kernel_rfl) (AOK.cons (fun ρ a w hs hz hΓ hp => gp (d_move (hΓ 13 rfl))) (AOK.cons (fun ρ a w hs hz hΓ hp => gp (d_assign (hp 0 _ rfl rfl).1)) AOK.nil rfl) rfl) (fun vs9 => ?_)
        refine T.nil ?_
        refine T.norm ?_
        refine T.seq ?_
        obtain ⟨x18, e11, hu5⟩ := bindS hu5
        obtain ⟨x22, e12, hu5⟩ := bindS hu5
        refine T.region mix 9 [16, 17, 18, 19, 20, 21, 22, 23, 24] [0, 0, 3, 7, 0, 0, 48, 112, 255] [(sp (Y169.sv x0)), (sp ((TI .i64).sv s13)), (sp ((TP (TI .i16)).sv x18)), (sp ((TI .i16).sv x18)), (sp (Y169.sv x1)), (sp ((TI .i64).sv s13)), (sp ((TP (TI .i16)).sv x22)), (sp ((TI .i16).sv x22)), (sp (TB.sv (decide (x18 ≠ x22))))] (by kernel_rfl) (AOK.cons (fun ρ a w hs hz hΓ hp => gp (d_move (hΓ 0 rfl))) (AOK.cons (fun ρ a w hs hz hΓ hp => gp (d_move (hΓ 5 rfl))) (AOK.cons (fun ρ a w hs hz hΓ hp => gp (d_idxR u169 y23 (hp 0 _ rfl rfl).1 (hp 1 _ rfl rfl).1 e11)) (AOK.cons (fun ρ a w hs hz hΓ hp => gp (d_load y23 hs.le (hp 2 _ rfl rfl).1)) (AOK.cons (fun ρ a w hs hz hΓ hp => gp (d_move (hΓ 1 rfl))) (AOK.cons (fun ρ a w hs hz hΓ hp => gp (d_move (hΓ 5 rfl))) (AOK.cons (fun ρ a w hs hz hΓ hp => gp (d_idxR u169 y23 (hp 4 _ rfl rfl).1 (hp 5 _ rfl rfl).1 e12)) (AOK.cons (fun ρ a w hs hz hΓ hp => gp (d_load y23 hs.le (hp 6 _ rfl rfl).1)) (AOK.cons (fun ρ a w hs hz hΓ hp => gp (d_neq (hp 3 _ rfl rfl).1 (hp 7 _ rfl rfl).1)) AOK.nil rfl) rfl) rfl) rfl) rfl) rfl) rfl) rfl) rfl) (fun vs10 => ?_)
        refine T.nil ?_
        refine T.norm ?_
        refine T.cond (b := (decide (x18 ≠ x22))) (fun _ _ h => h) (fun hc => ?_) (fun hc => ?_)
        · replace hu5 := iteT hu5 hc
          refine T.seq ?_
          refine T.region mix 1 [4] [0] [(sp (TB.sv false))] (by kernel_rfl) (AOK.cons (fun ρ a w hs hz hΓ hp => gp (d_assign (vB _))) AOK.nil rfl) (fun vs13 => ?_)
          refine T.nil ?_
          refine T.norm ?_
          refine T.ret ?_
          obtain rfl := Option.some.inj hu5
          cases hn5
          obtain rfl := Option.some.inj hF
          refine T.fin0 fun ρ a w st => ?_
          exact ⟨_, results_one rfl rfl, (st.env 4)⟩
        · replace hu5 := iteF hu5 hc
          refine T.skip ?_
          refine T.fallX ?_
          refine T.norm ?_
          refine T.region mix 2 [25, 13] [0, 1] [(sp ((TI .i64).sv (IntKind.i64.wrap (s13 + 1)))), (sp ((TI .i64).sv (IntKind.i64.wrap (s13 + 1))))] (by kernel_rfl) (AOK.cons (fun ρ a w hs hz hΓ hp => gp (d_add (hΓ 13 rfl) (vI rfl))) (AOK.cons (fun ρ a w hs hz hΓ hp => gp (d_move (hp 0 _ rfl rfl).1)) AOK.nil rfl) rfl) (fun vs14 => ?_)
          refine T.nil ?_
          obtain rfl := Option.some.inj hu5
          exact T.again hn5 () (fun φ h => T.toh h ⟨fun _ _ h => h, fun _ _ h => h, fun _ _ h => h, fun _ _ h => h, trivial⟩ trivial)
      · replace hu5 := iteF hu5 hc
        refine T.exit ?_
        obtain rfl := Option.some.inj hu5
        repeat (first | refine T.passX ?_ | refine T.inX (by decide) ?_)
        refine T.hereX ?_
        exact T.toh (hk (s13, ()) (Eq.symm hn5)) trivial trivial

theorem c81 (w : World) (v0 v1 : Value) {σ : Heap} (hσ : σ.le (snap w)) {x0 : ((List (List Nat)) × (List (List Int)))} {x1 : ((List (List Nat)) × (List (List Int)))} {r : Bool} (hF : impl_SameSolid x0 x1 = some r) (h0 : Y157.val σ v0 x0) (h1 : Y157.val σ v1 x1) :
    Calls Try.prog 81 #[v0, v1] w (Ret [] w σ (TB.sv r) []) := by
  unfold impl_SameSolid at hF
  refine start (args := [v0, v1]) Try.func81 rfl 17 rfl [] [(0, (Y157.sv x0)), (1, (Y157.sv x1))] [] (sat_start _ hσ) rfl (args1 rfl h0 (args1 rfl h1 (args0))) ?_
  refine T.seq ?_
  refine T.region mix 3 [2, 3, 4] [0, 0, 0] [(sp ((TP Y157).sv x0)), (sp ((TP Y157).sv x1)), (sp (TB.sv false))] (by kernel_rfl) (AOK.cons (fun ρ a w hs hz hΓ hp => gp (d_box hs.le (hΓ 0 rfl))) (AOK.cons (fun ρ a w hs hz hΓ hp => gp (d_box hs.le (hΓ 1 rfl))) (AOK.cons (fun ρ a w hs hz hΓ hp => gp (d_assign (vB _))) AOK.nil rfl) rfl) rfl) (fun vs1 => ?_)
  refine T.nil ?_
  refine T.norm ?_
  refine T.seq ?_
  obtain ⟨x9, e3, hF⟩ := bindS hF
  obtain ⟨x16, e5, hF⟩ := bindS hF
  obtain ⟨x15, e6⟩ : ∃ (x15 : Bool), x9 = true → slices_EqualFunc_int16_int16_int16_int16 x0.2 x1.2 slices_Equal_int16_int16 = some x15 ∧ x15 = x16 := by
    by_cases hb : x9 = true
    · replace e5 := iteT e5 hb
      obtain ⟨x15, e4, e5⟩ := bindS e5
      exact ⟨x15, fun _ => ⟨e4, Option.some.inj e5⟩⟩
    · exact ⟨default, fun h => absurd h hb⟩
  have e7 : x9 = false → false = x16 := fun h => Option.some.inj (iteF e5 h)
  refine T.region mix 13 [5, 6, 7, 8, 9, 10, 11, 12, 13, 14, 15, 16, 4] [0, 1, 0, 4, 15, 31, 63, 127, 63, 319, 1023, 2047, 4095] [(sp ((TP Y156).sv x0.1)), (sp (Y156.sv x0.1)), (sp ((TP Y156).sv x1.1)), (sp (Y156.sv x1.1)), (sp (TB.sv x9)), (sp (TB.sv x9)), (sp (SRel.when (x9 = true) ((TP Y125).sv x0.2))), (sp (SRel.when (x9 = true) (Y125.sv x0.2))), (sp (SRel.when (x9 = true) ((TP Y125).sv x1.2))), (sp (SRel.when (x9 = true) (Y125.sv x1.2))), (sp (SRel.when (x9 = true) (TB.sv x15))), (sp (TB.sv x16)), (sp (TB.sv x16))] (by kernel_rfl) (AOK.cons (fun ρ a w hs hz hΓ hp => gp (d_fieldP fa127_0 (hΓ 2 rfl) (At.fst (At.refl _ _)))) (AOK.cons (fun ρ a w hs hz hΓ hp => gp (d_load y124 hs.le (hp 0 _ rfl rfl).1)) (AOK.cons (fun ρ a w hs hz hΓ hp => gp (d_fieldP fa127_0 (hΓ 3 rfl) (At.fst (At.refl _ _)))) (AOK.cons (fun ρ a w hs hz hΓ hp => gp (d_load y124 hs.le (hp 2 _ rfl rfl).1)) (AOK.cons (fun ρ a w hs hz hΓ hp => gp (d_call fn130 hs.le mapA3 (c130 w _ _ _ hs.le e3 ((hp 1 _ rfl rfl).1) ((hp 3 _ rfl rfl).1) (fv2 fn128 flat_TB (fun w σ u0 u1 x0 x1 y hσ h0 h1 hf => c128 w _ _  hσ hf h0 h1))))) (AOK.cons (fun ρ a w hs hz hΓ hp => gp (d_move (hp 4 _ rfl rfl).1)) (AOK.cons (fun ρ a w hs hz hΓ hp => gg (g := 5) (d := 10) hz rfl (hp 5 _ rfl rfl).1 rfl (fun hc => d_fieldP fa127_1 (hΓ 2 rfl) (At.snd (At.refl _ _)))) (AOK.cons (fun ρ a w hs hz hΓ hp => gg (g := 5) (d := 10) hz rfl (hp 5 _ rfl rfl).1 rfl (fun hc => d_load y125 hs.le ((hp 6 _ rfl rfl).1 hc))) (AOK.cons (fun ρ a w hs hz hΓ hp => gg (g := 5) (d := 10) hz rfl (hp 5 _ rfl rfl).1 rfl (fun hc => d_fieldP fa127_1 (hΓ 3 rfl) (At.snd (At.refl _ _)))) (AOK.cons (fun ρ a w hs hz hΓ hp => gg (g := 5) (d := 10) hz rfl (hp 5 _ rfl rfl).1 rfl (fun hc => d_load y125 hs.le ((hp 8 _ rfl rfl).1 hc))) (AOK.cons (fun ρ a w hs hz hΓ hp => gg (g := 5) (d := 10) hz rfl (hp 5 _ rfl rfl).1 rfl (fun hc => d_call fn131 hs.le mapA3 (c131 w _ _ _ hs.le (e6 hc).1 ((hp 7 _ rfl rfl).1 hc) ((hp 9 _ rfl rfl).1 hc) (fv2 fn132 flat_TB (fun w σ u0 u1 x0 x1 y hσ h0 h1 hf => c132 w _ _  hσ hf h0 h1))))) (AOK.cons (fun ρ a w hs hz hΓ hp => gp (d_pick (hp 5 _ rfl rfl).1 (fun hc => (pE ((e6 hc).2) ((hp 10 _ rfl rfl).1 hc))) (fun hc => pC (e7 hc)))) (AOK.cons (fun ρ a w hs hz hΓ hp => gp (d_assign (hp 11 _ rfl rfl).1)) AOK.nil rfl) rfl) rfl) rfl) rfl) rfl) rfl) rfl) rfl) rfl) rfl) rfl) rfl) (fun vs2 => ?_)
  refine T.nil ?_
  refine T.norm ?_
  refine T.ret ?_
  obtain rfl := Option.some.inj hF
  refine T.fin0 fun ρ a w st => ?_
  exact ⟨_, results_one rfl rfl, (st.env 4)⟩

theorem c33 (w : World) (v0 v1 : Value) {σ : Heap} (hσ : σ.le (snap w)) {x0 : (((List Nat) × (List Nat) × (List Nat) × Nat × Nat) × (List ((List (List Nat)) × (List (List Int)))))} {x1 : (((List Nat) × (List Nat) × (List Nat) × Nat × Nat) × (List ((List (List Nat)) × (List (List Int)))))} {r : Bool} (hF : impl_SameScene x0 x1 = some r) (h0 : Y59.val σ v0 x0) (h1 : Y59.val σ v1 x1) :
    Calls Try.prog 33 #[v0, v1] w (Ret [] w σ (TB.sv r) []) := by
  unfold impl_SameScene at hF
  refine start (args := [v0, v1]) Try.func33 rfl 17 rfl [] [(0, (Y59.sv x0)), (1, (Y59.sv x1))] [] (sat_start _ hσ) rfl (args1 rfl h0 (args1 rfl h1 (args0))) ?_
  refine T.seq ?_
  refine T.region mix 3 [2, 3, 4] [0, 0, 0] [(sp ((TP Y59).sv x0)), (sp ((TP Y59).sv x1)), (sp (TB.sv false))] (by kernel_rfl) (AOK.cons (fun ρ a w hs hz hΓ hp => gp (d_box hs.le (hΓ 0 rfl))) (AOK.cons (fun ρ a w hs hz hΓ hp => gp (d_box hs.le (hΓ 1 rfl))) (AOK.cons (fun ρ a w hs hz hΓ hp => gp (d_assign (vB _))) AOK.nil rfl) rfl) rfl) (fun vs1 => ?_)
  refine T.nil ?_
  refine T.norm ?_
  refine T.seq ?_
  obtain ⟨x9, e3, hF⟩ := bindS hF
  obtain ⟨x16, e5, hF⟩ := bindS hF
  obtain ⟨x15, e6⟩ : ∃ (x15 : Bool), x9 = true → slices_EqualFunc_Solid_Solid_Solid_Solid x0.2 x1.2 impl_SameSolid = some x15 ∧ x15 = x16 := by
    by_cases hb : x9 = true
    · replace e5 := iteT e5 hb
      obtain ⟨x15, e4, e5⟩ := bindS e5
      exact ⟨x15, fun _ => ⟨e4, Option.some.inj e5⟩⟩
    · exact ⟨default, fun h => absurd h hb⟩
  have e7 : x9 = false → false = x16 := fun h => Option.some.inj (iteF e5 h)
  refine T.region mix 13 [5, 6, 7, 8, 9, 10, 11, 12, 13, 14, 15, 16, 4] [0, 1, 0, 4, 15, 31, 63, 127, 63, 319, 1023, 2047, 4095] [(sp ((TP Y56).sv x0.1)), (sp (Y56.sv x0.1)), (sp ((TP Y56).sv x1.1)), (sp (Y56.sv x1.1)), (sp (TB.sv x9)), (sp (TB.sv x9)), (sp (SRel.when (x9 = true) ((TP Y58).sv x0.2))), (sp (SRel.when (x9 = true) (Y58.sv x0.2))), (sp (SRel.when (x9 = true) ((TP Y58).sv x1.2))), (sp (SRel.when (x9 = true) (Y58.sv x1.2))), (sp (SRel.when (x9 = true) (TB.sv x15))), (sp (TB.sv x16)), (sp (TB.sv x16))] (by kernel_rfl) (AOK.cons (fun ρ a w hs hz hΓ hp => gp (d_fieldP fa68_0 (hΓ 2 rfl) (At.fst (At.refl _ _)))) (AOK.cons (fun ρ a w hs hz hΓ hp => gp (d_load y65 hs.le (hp 0 _ rfl rfl).1)) (AOK.cons (fun ρ a w hs hz hΓ hp => gp (d_fieldP fa68_0 (hΓ 3 rfl) (At.fst (At.refl _ _)))) (AOK.cons (fun ρ a w hs hz hΓ hp => gp (d_load y65 hs.le (hp 2 _ rfl rfl).1)) (AOK.cons (fun ρ a w hs hz hΓ hp => gp (d_call fn79 hs.le mapA2 (c79 w _ _ hs.le e3 ((hp 1 _ rfl rfl).1) ((hp 3 _ rfl rfl).1)))) (AOK.cons (fun ρ a w hs hz hΓ hp => gp (d_move (hp 4 _ rfl rfl).1)) (AOK.cons (fun ρ a w hs hz hΓ hp => gg (g := 5) (d := 10) hz rfl (hp 5 _ rfl rfl).1 rfl (fun hc => d_fieldP fa68_1 (hΓ 2 rfl) (At.snd (At.refl _ _)))) (AOK.cons (fun ρ a w hs hz hΓ hp => gg (g := 5) (d := 10) hz rfl (hp 5 _ rfl rfl).1 rfl (fun hc => d_load y66 hs.le ((hp 6 _ rfl rfl).1 hc))) (AOK.cons (fun ρ a w hs hz hΓ hp => gg (g := 5) (d := 10) hz rfl (hp 5 _ rfl rfl).1 rfl (fun hc => d_fieldP fa68_1 (hΓ 3 rfl) (At.snd (At.refl _ _)))) (AOK.cons (fun ρ a w hs hz hΓ hp => gg (g := 5) (d := 10) hz rfl (hp 5 _ rfl rfl).1 rfl (fun hc => d_load y66 hs.le ((hp 8 _ rfl rfl).1 hc))) (AOK.cons (fun ρ a w hs hz hΓ hp => gg (g := 5) (d := 10) hz rfl (hp 5 _ rfl rfl).1 rfl (fun hc => d_call fn80 hs.le mapA3 (c80 w _ _ _ hs.le (e6 hc).1 ((hp 7 _ rfl rfl).1 hc) ((hp 9 _ rfl rfl).1 hc) (fv2 fn81 flat_TB (fun w σ u0 u1 x0 x1 y hσ h0 h1 hf => c81 w _ _  hσ hf h0 h1))))) (AOK.cons (fun ρ a w hs hz hΓ hp => gp (d_pick (hp 5 _ rfl rfl).1 (fun hc => (pE ((e6 hc).2) ((hp 10 _ rfl rfl).1 hc))) (fun hc => pC (e7 hc)))) (AOK.cons (fun ρ a w hs hz hΓ hp => gp (d_assign (hp 11 _ rfl rfl).1)) AOK.nil rfl) rfl) rfl) rfl) rfl) rfl) rfl) rfl) rfl) rfl) rfl) rfl) rfl) (fun vs2 => ?_)
  refine T.nil ?_
  refine T.norm ?_
  refine T.ret ?_
  obtain rfl := Option.some.inj hF
  refine T.fin0 fun ρ a w st => ?_
  exact ⟨_, results_one rfl rfl, (st.env 4)⟩

theorem c134 (w : World) (v0 v1 : Value) {σ : Heap} (hσ : σ.le (snap w)) {x0 : Nat} {x1 : Nat} {r : Bool} (hF : laws_sameFloat x0 x1 = some r) (h0 : (TF .f64).val σ v0 x0) (h1 : (TF .f64).val σ v1 x1) :
    Calls Try.prog 134 #[v0, v1] w (Ret [] w σ (TB.sv r) []) := by
  unfold laws_sameFloat at hF
  refine start (args := [v0, v1]) Try.func134 rfl 37 rfl [] [(0, ((TF .f64).sv x0)), (1, ((TF .f64).sv x1))] [] (sat_start _ hσ) rfl (args1 rfl h0 (args1 rfl h1 (args0))) ?_
  refine T.seq ?_
  refine T.region mix 1 [4] [0] [(sp (TB.sv false))] (by kernel_rfl) (AOK.cons (fun ρ a w hs hz hΓ hp => gp (d_assign (vB _))) AOK.nil rfl) (fun vs1 => ?_)
  refine T.nil ?_
  refine T.norm ?_
  refine T.seq ?_
  refine T.seq ?_
  refine T.region mix 8 [5, 6, 7, 8, 9, 10, 11, 12] [0, 0, 3, 7, 15, 15, 63, 127] [(sp ((TF .f64).sv x0)), (sp ((TF .f64).sv x0)), (sp (TB.sv (fneq .f64 x0 x0))), (sp (TB.sv (fneq .f64 x0 x0))), (sp (SRel.when ((fneq .f64 x0 x0) = false) ((TF .f64).sv x1))), (sp (SRel.when ((fneq .f64 x0 x0) = false) ((TF .f64).sv x1))), (sp (SRel.when ((fneq .f64 x0 x0) = false) (TB.sv (fneq .f64 x1 x1)))), (sp (TB.sv ((fneq .f64 x0 x0) || (fneq .f64 x1 x1))))] (by kernel_rfl) (AOK.cons (fun ρ a w hs hz hΓ hp => gp (d_move (hΓ 0 rfl))) (AOK.cons (fun ρ a w hs hz hΓ hp => gp (d_move (hΓ 0 rfl))) (AOK.cons (fun ρ a w hs hz hΓ hp => gp (d_fneq (hp 0 _ rfl rfl).1 (hp 1 _ rfl rfl).1)) (AOK.cons (fun ρ a w hs hz hΓ hp => gp (d_move (hp 2 _ rfl rfl).1)) (AOK.cons (fun ρ a w hs hz hΓ hp => gg (g := 3) (d := 8) hz rfl (hp 3 _ rfl rfl).1 rfl (fun hc => d_move (hΓ 1 rfl))) (AOK.cons (fun ρ a w hs hz hΓ hp => gg (g := 3) (d := 8) hz rfl (hp 3 _ rfl rfl).1 rfl (fun hc => d_move (hΓ 1 rfl))) (AOK.cons (fun ρ a w hs hz hΓ hp => gg (g := 3) (d := 8) hz rfl (hp 3 _ rfl rfl).1 rfl (fun hc => d_fneq ((hp 4 _ rfl rfl).1 hc) ((hp 5 _ rfl rfl).1 hc))) (AOK.cons (fun ρ a w hs hz hΓ hp => gp (d_pick (hp 3 _ rfl rfl).1 (fun hc => pON hc) (fun hc => pO hc ((hp 6 _ rfl rfl).1 hc)))) AOK.nil rfl) rfl) rfl) rfl) rfl) rfl) rfl) rfl) (fun vs2 => ?_)
  refine T.nil ?_
  refine T.norm ?_
  refine T.cond (b := ((fneq .f64 x0 x0) || (fneq .f64 x1 x1))) (fun _ _ h => h) (fun hc => ?_) (fun hc => ?_)
  · replace hF := iteT hF hc
    refine T.seq ?_
    refine T.region mix 9 [13, 14, 15, 16, 17, 18, 19, 20, 4] [0, 0, 3, 7, 15, 15, 63, 127, 255] [(sp ((TF .f64).sv x0)), (sp ((TF .f64).sv x0)), (sp (TB.sv (fneq .f64 x0 x0))), (sp (TB.sv (fneq .f64 x0 x0))), (sp (SRel.when ((fneq .f64 x0 x0) = true) ((TF .f64).sv x1))), (sp (SRel.when ((fneq .f64 x0 x0) = true) ((TF .f64).sv x1))), (sp (SRel.when ((fneq .f64 x0 x0) = true) (TB.sv (fneq .f64 x1 x1)))), (sp (TB.sv ((fneq .f64 x0 x0) && (fneq .f64 x1 x1)))), (sp (TB.sv ((fneq .f64 x0 x0) && (fneq .f64 x1 x1))))] (by kernel_rfl) (AOK.cons (fun ρ a w hs hz hΓ hp => gp (d_move (hΓ 0 rfl))) (AOK.cons (fun ρ a w hs hz hΓ hp => gp (d_move (hΓ 0 rfl))) (AOK.cons (fun ρ a w hs hz hΓ hp => gp (d_fneq (hp 0 _ rfl rfl).1 (hp 1 _ rfl rfl).1)) (AOK.cons (fun ρ a w hs hz hΓ hp => gp (d_move (hp 2 _ rfl rfl).1)) (AOK.cons (fun ρ a w hs hz hΓ hp => gg (g := 3) (d := 16) hz rfl (hp 3 _ rfl rfl).1 rfl (fun hc => d_move (hΓ 1 rfl))) (AOK.cons (fun ρ a w hs hz hΓ hp => gg (g := 3) (d := 16) hz rfl (hp 3 _ rfl rfl).1 rfl (fun hc => d_move (hΓ 1 rfl))) (AOK.cons (fun ρ a w hs hz hΓ hp => gg (g := 3) (d := 16) hz rfl (hp 3 _ rfl rfl).1 rfl (fun hc => d_fneq ((hp 4 _ rfl rfl).1 hc) ((hp 5 _ rfl rfl).1 hc))) (AOK.cons (fun ρ a w hs hz hΓ hp => gp (d_pick (hp 3 _ rfl rfl).1 (fun hc => pA hc ((hp 6 _ rfl rfl).1 hc)) (fun hc => pAN hc))) (AOK.cons (fun ρ a w hs hz hΓ hp => gp (d_assign (hp 7 _ rfl rfl).1)) AOK.nil rfl) rfl) rfl) rfl) rfl) rfl) rfl) rfl) rfl) (fun vs3 => ?_)
    refine T.nil ?_
    refine T.norm ?_
    refine T.ret ?_
    obtain rfl := Option.some.inj hF
    refine T.fin0 fun ρ a w st => ?_
    exact ⟨_, results_one rfl rfl, (st.env 4)⟩
  · replace hF := iteF hF hc
    refine T.skip ?_
    refine T.norm ?_
    refine T.seq ?_
    refine T.seq ?_
    refine T.region mix 6 [21, 22, 23, 24, 25, 26] [0, 1, 3, 7, 15, 31] [(sp ((TF .f64).sv x0)), (sp (TB.sv (feql .f64 x0 0))), (sp (TB.sv (feql .f64 x0 0))), (sp (SRel.when ((feql .f64 x0 0) = true) ((TF .f64).sv x1))), (sp (SRel.when ((feql .f64 x0 0) = true) (TB.sv (feql .f64 x1 0)))), (sp (TB.sv ((feql .f64 x0 0) && (feql .f64 x1 0))))] (by kernel_rfl) (AOK.cons (fun ρ a w hs hz hΓ hp => gp (d_move (hΓ 0 rfl))) (AOK.cons (fun ρ a w hs hz hΓ hp => gp (d_feql (hp 0 _ rfl rfl).1 (vF (by decide +kernel)))) (AOK.cons (fun ρ a w hs hz hΓ hp => gp (d_move (hp 1 _ rfl rfl).1)) (AOK.cons (fun ρ a w hs hz hΓ hp => gg (g := 2) (d := 23) hz rfl (hp 2 _ rfl rfl).1 rfl (fun hc => d_move (hΓ 1 rfl))) (AOK.cons (fun ρ a w hs hz hΓ hp => gg (g := 2) (d := 23) hz rfl (hp 2 _ rfl rfl).1 rfl (fun hc => d_feql ((hp 3 _ rfl rfl).1 hc) (vF (by decide +kernel)))) (AOK.cons (fun ρ a w hs hz hΓ hp => gp (d_pick (hp 2 _ rfl rfl).1 (fun hc => pA hc ((hp 4 _ rfl rfl).1 hc)) (fun hc => pAN hc))) AOK.nil rfl) rfl) rfl) rfl) rfl) rfl) (fun vs4 => ?_)
    refine T.nil ?_
    refine T.norm ?_
    refine T.cond (b := ((feql .f64 x0 0) && (feql .f64 x1 0))) (fun _ _ h => h) (fun hc => ?_) (fun hc => ?_)
    · replace hF := iteT hF hc
      refine T.seq ?_
      refine T.region mix 8 [27, 28, 29, 30, 31, 32, 33, 4] [0, 1, 3, 0, 8, 24, 63, 127] [(sp ((TF .f64).sv x0)), (sp ((TF .f64).sv (fdiv .f64 4607182418800017408 x0))), (sp (TB.sv (fgtr .f64 (fdiv .f64 4607182418800017408 x0) 0))), (sp ((TF .f64).sv x1)), (sp ((TF .f64).sv (fdiv .f64 4607182418800017408 x1))), (sp (TB.sv (fgtr .f64 (fdiv .f64 4607182418800017408 x1) 0))), (sp (TB.sv ((fgtr .f64 (fdiv .f64 4607182418800017408 x0) 0) == (fgtr .f64 (fdiv .f64 4607182418800017408 x1) 0)))), (sp (TB.sv ((fgtr .f64 (fdiv .f64 4607182418800017408 x0) 0) == (fgtr .f64 (fdiv .f64 4607182418800017408 x1) 0))))] (by kernel_rfl) (AOK.cons (fun ρ a w hs hz hΓ hp => gp (d_move (hΓ 0 rfl))) (AOK.cons (fun ρ a w hs hz hΓ hp => gp (d_fdiv (vF (by decide +kernel)) (hp 0 _ rfl rfl).1)) (AOK.cons (fun ρ a w hs hz hΓ hp => gp (d_fgtr (hp 1 _ rfl rfl).1 (vF (by decide +kernel)))) (AOK.cons (fun ρ a w hs hz hΓ hp => gp (d_move (hΓ 1 rfl))) (AOK.cons (fun ρ a w hs hz hΓ hp => gp (d_fdiv (vF (by decide +kernel)) (hp 3 _ rfl rfl).1)) (AOK.cons (fun ρ a w hs hz hΓ hp => gp (d_fgtr (hp 4 _ rfl rfl).1 (vF (by decide +kernel)))) (AOK.cons (fun ρ a w hs hz hΓ hp => gp (d_eqlB u4 (hp 2 _ rfl rfl).1 (hp 5 _ rfl rfl).1)) (AOK.cons (fun ρ a w hs hz hΓ hp => gp (d_assign (hp 6 _ rfl rfl).1)) AOK.nil rfl) rfl) rfl) rfl) rfl) rfl) rfl) rfl) (fun vs5 => ?_)
      refine T.nil ?_
      refine T.norm ?_
      refine T.ret ?_
      obtain rfl := Option.some.inj hF
      refine T.fin0 fun ρ a w st => ?_
      exact ⟨_, results_one rfl rfl, (st.env 4)⟩
    · replace hF := iteF hF hc
      refine T.skip ?_
      refine T.norm ?_
      refine T.seq ?_
      refine T.region mix 4 [34, 35, 36, 4] [0, 0, 3, 7] [(sp ((TF .f64).sv x0)), (sp ((TF .f64).sv x1)), (sp (TB.sv (feql .f64 x0 x1))), (sp (TB.sv (feql .f64 x0 x1)))] (by kernel_rfl) (AOK.cons (fun ρ a w hs hz hΓ hp => gp (d_move (hΓ 0 rfl))) (AOK.cons (fun ρ a w hs hz hΓ hp => gp (d_move (hΓ 1 rfl))) (AOK.cons (fun ρ a w hs hz hΓ hp => gp (d_feql (hp 0 _ rfl rfl).1 (hp 1 _ rfl rfl).1)) (AOK.cons (fun ρ a w hs hz hΓ hp => gp (d_assign (hp 2 _ rfl rfl).1)) AOK.nil rfl) rfl) rfl) rfl) (fun vs6 => ?_)
      refine T.nil ?_
      refine T.norm ?_
      refine T.ret ?_
      obtain rfl := Option.some.inj hF
      refine T.fin0 fun ρ a w st => ?_
      exact ⟨_, results_one rfl rfl, (st.env 4)⟩

theorem c133 (w : World) (v0 v1 : Value) {σ : Heap} (hσ : σ.le (snap w)) {x0 : (List Nat)} {x1 : (List Nat)} {r : Bool} (hF : laws_eqPoint x0 x1 = some r) (h0 : Y55.val σ v0 x0) (h1 : Y55.val σ v1 x1) :
    Calls Try.prog 133 #[v0, v1] w (Ret [] w σ (TB.sv r) []) := by
  unfold laws_eqPoint at hF
  refine start (args := [v0, v1]) Try.func133 rfl 20 rfl [] [(0, (Y55.sv x0)), (1, (Y55.sv x1))] [] (sat_start _ hσ) rfl (args1 rfl h0 (args1 rfl h1 (args0))) ?_
  refine T.seq ?_
  refine T.region mix 3 [2, 3, 4] [0, 0, 0] [(sp ((TP Y55).sv x0)), (sp ((TP Y55).sv x1)), (sp (TB.sv false))] (by kernel_rfl) (AOK.cons (fun ρ a w hs hz hΓ hp => gp (d_box hs.le (hΓ 0 rfl))) (AOK.cons (fun ρ a w hs hz hΓ hp => gp (d_box hs.le (hΓ 1 rfl))) (AOK.cons (fun ρ a w hs hz hΓ hp => gp (d_assign (vB _))) AOK.nil rfl) rfl) rfl) (fun vs1 => ?_)
  refine T.nil ?_
  refine T.norm ?_
  refine T.seq ?_
  refine T.seq ?_
  refine T.region mix 1 [5] [0] [(sp ((TI .i64).sv 0))] (by kernel_rfl) (AOK.cons (fun ρ a w hs hz hΓ hp => gp (d_assign (vI rfl))) AOK.nil rfl) (fun vs2 => ?_)
  refine T.nil ?_
  refine T.norm ?_
  obtain ⟨yl3, e4, hF⟩ := bindS hF
  refine T.joinD (ι := Int × (Unit)) (fun p => yl3 = .inl p.1) (Γ' := fun p => E []) (H' := fun p => HL []) (fun p hy => ?_) (fun hk => ?_)
  · obtain ⟨o5, _⟩ := p
    cases hy
    refine T.norm ?_
    refine T.seq ?_
    refine T.region mix 1 [4] [0] [(sp (TB.sv true))] (by kernel_rfl) (AOK.cons (fun ρ a w hs hz hΓ hp => gp (d_assign (vB _))) AOK.nil rfl) (fun vs5 => ?_)
    refine T.nil ?_
    refine T.norm ?_
    refine T.ret ?_
    obtain rfl := Option.some.inj hF
    refine T.fin0 fun ρ a w st => ?_
    exact ⟨_, results_one rfl rfl, (st.env 4)⟩
  · skip
    refine T.block ?_
    refine T.loop (f := laws_eqPoint_l1 x0 x1) (σ := Int) (Z := Unit) (fun s z => E [(2, ((TP Y55).sv x0)), (3, ((TP Y55).sv x1)), (5, ((TI .i64).sv s))]) (fun s z => HL []) e4 () (fun φ h => T.toh h ⟨fun _ _ h => h, fun _ _ h => h, fun _ _ h => h, trivial⟩ trivial) (fun k s z uu3 hu3 hn3 => ?_)
    obtain ⟨s5, rfl⟩ : ∃ q, q = s := ⟨_, rfl⟩
    dsimp only [laws_eqPoint_l1] at hu3
    refine T.seq ?_
    refine T.seq ?_
    refine T.region mix 2 [6, 7] [0, 1] [(sp ((TI .i64).sv s5)), (sp (TB.sv (decide (s5 < 3))))] (by kernel_rfl) (AOK.cons (fun ρ a w hs hz hΓ hp => gp (d_move (hΓ 5 rfl))) (AOK.cons (fun ρ a w hs hz hΓ hp => gp (d_lss (hp 0 _ rfl rfl).1 (vI rfl))) AOK.nil rfl) rfl) (fun vs6 => ?_)
    refine T.nil ?_
    refine T.norm ?_
    refine T.cond (b := (decide (s5 < 3))) (fun _ _ h => h) (fun hc => ?_) (fun hc => ?_)
    · replace hu3 := iteT hu3 hc
      refine T.skip ?_
      refine T.norm ?_
      refine T.seq ?_
      refine T.block ?_
      refine T.seq ?_
      obtain ⟨x11, e8, hu3⟩ := bindS hu3
      obtain ⟨x13, e9, hu3⟩ := bindS hu3
      obtain ⟨x15, e10, hu3⟩ := bindS hu3
      obtain ⟨x17, e11, hu3⟩ := bindS hu3
      obtain ⟨x18, e12, hu3⟩ := bindS hu3
      refine T.region mix 10 [10, 11, 12, 13, 14, 15, 16, 17, 18, 19] [0, 1, 3, 7, 0, 16, 48, 112, 255, 511] [(sp ((TI .i64).sv s5)), (sp ((TP (TF .f32)).sv x11)), (sp ((TF .f32).sv x11)), (sp ((TF .f64).sv x13)), (sp ((TI .i64).sv s5)), (sp ((TP (TF .f32)).sv x15)), (sp ((TF .f32).sv x15)), (sp ((TF .f64).sv x17)), (sp (TB.sv x18)), (sp (TB.sv (!x18)))] (by kernel_rfl) (AOK.cons (fun ρ a w hs hz hΓ hp => gp (d_move (hΓ 5 rfl))) (AOK.cons (fun ρ a w hs hz hΓ hp => gp (d_idxP u63 y54 (hΓ 2 rfl) (hp 0 _ rfl rfl).1 e8)) (AOK.cons (fun ρ a w hs hz hΓ hp => gp (d_load y54 hs.le (hp 1 _ rfl rfl).1)) (AOK.cons (fun ρ a w hs hz hΓ hp => gp (d_fconv u54 u172 rfl (hp 2 _ rfl rfl).1 e9)) (AOK.cons (fun ρ a w hs hz hΓ hp => gp (d_move (hΓ 5 rfl))) (AOK.cons (fun ρ a w hs hz hΓ hp => gp (d_idxP u63 y54 (hΓ 3 rfl) (hp 4 _ rfl rfl).1 e10)) (AOK.cons (fun ρ a w hs hz hΓ hp => gp (d_load y54 hs.le (hp 5 _ rfl rfl).1)) (AOK.cons (fun ρ a w hs hz hΓ hp => gp (d_fconv u54 u172 rfl (hp 6 _ rfl rfl).1 e11)) (AOK.cons (fun ρ a w hs hz hΓ hp => gp (d_call fn134 hs.le mapA2 (c134 w _ _ hs.le e12 ((hp 3 _ rfl rfl).1) ((hp 7 _ rfl rfl).1)))) (AOK.cons (fun ρ a w hs hz hΓ hp => gp (d_not (hp 8 _ rfl rfl).1)) AOK.nil rfl) rfl) rfl) rfl) rfl) rfl) rfl) rfl) rfl) rfl) (fun vs7 => ?_)
      refine T.nil ?_
      refine T.norm ?_
      refine T.cond (b := (!x18)) (fun _ _ h => h) (fun hc => ?_) (fun hc => ?_)
      · replace hu3 := iteT hu3 hc
        refine T.seq ?_
        refine T.region mix 1 [4] [0] [(sp (TB.sv false))] (by kernel_rfl) (AOK.cons (fun ρ a w hs hz hΓ hp => gp (d_assign (vB _))) AOK.nil rfl) (fun vs13 => ?_)
        refine T.nil ?_
        refine T.norm ?_
        refine T.ret ?_
        obtain rfl := Option.some.inj hu3
        cases hn3
        obtain rfl := Option.some.inj hF
        refine T.fin0 fun ρ a w st => ?_
        exact ⟨_, results_one rfl rfl, (st.env 4)⟩
      · replace hu3 := iteF hu3 hc
        refine T.skip ?_
        refine T.fallX ?_
        refine T.norm ?_
        refine T.region mix 3 [8, 9, 5] [0, 1, 3] [(sp ((TI .i64).sv s5)), (sp ((TI .i64).sv (IntKind.i64.wrap (s5 + 1)))), (sp ((TI .i64).sv (IntKind.i64.wrap (s5 + 1))))] (by kernel_rfl) (AOK.cons (fun ρ a w hs hz hΓ hp => gp (d_move (hΓ 5 rfl))) (AOK.cons (fun ρ a w hs hz hΓ hp => gp (d_add (hp 0 _ rfl rfl).1 (vI rfl))) (AOK.cons (fun ρ a w hs hz hΓ hp => gp (d_assign (hp 1 _ rfl rfl).1)) AOK.nil rfl) rfl) rfl) (fun vs14 => ?_)
        refine T.nil ?_
        obtain rfl := Option.some.inj hu3
        exact T.again hn3 () (fun φ h => T.toh h ⟨fun _ _ h => h, fun _ _ h => h, fun _ _ h => h, trivial⟩ trivial)
    · replace hu3 := iteF hu3 hc
      refine T.exit ?_
      obtain rfl := Option.some.inj hu3
      repeat (first | refine T.passX ?_ | refine T.inX (by decide) ?_)
      refine T.hereX ?_
      exact T.toh (hk (s5, ()) (Eq.symm hn3)) trivial trivial

theorem c82 (w : World) (v0 v1 : Value) {σ : Heap} (hσ : σ.le (snap w)) {x0 : ((List Nat) × (List Nat) × (List Nat) × Nat × Nat)} {x1 : ((List Nat) × (List Nat) × (List Nat) × Nat × Nat)} {r : Bool} (hF : laws_eqCamera x0 x1 = some r) (h0 : Y56.val σ v0 x0) (h1 : Y56.val σ v1 x1) :
    Calls Try.prog 82 #[v0, v1] w (Ret [] w σ (TB.sv r) []) := by
  unfold laws_eqCamera at hF
  refine start (args := [v0, v1]) Try.func82 rfl 39 rfl [] [(0, (Y56.sv x0)), (1, (Y56.sv x1))] [] (sat_start _ hσ) rfl (args1 rfl h0 (args1 rfl h1 (args0))) ?_
  refine T.seq ?_
  refine T.region mix 3 [2, 3, 4] [0, 0, 0] [(sp ((TP Y56).sv x0)), (sp ((TP Y56).sv x1)), (sp (TB.sv false))] (by kernel_rfl) (AOK.cons (fun ρ a w hs hz hΓ hp => gp (d_box hs.le (hΓ 0 rfl))) (AOK.cons (fun ρ a w hs hz hΓ hp => gp (d_box hs.le (hΓ 1 rfl))) (AOK.cons (fun ρ a w hs hz hΓ hp => gp (d_assign (vB _))) AOK.nil rfl) rfl) rfl) (fun vs1 => ?_)
  refine T.nil ?_
  refine T.norm ?_
  refine T.seq ?_
  refine T.seq ?_
  obtain ⟨x9, e3, hF⟩ := bindS hF
  refine T.region mix 6 [5, 6, 7, 8, 9, 10] [0, 1, 0, 4, 15, 31] [(sp ((TP Y55).sv x0.1)), (sp (Y55.sv x0.1)), (sp ((TP Y55).sv x1.1)), (sp (Y55.sv x1.1)), (sp (TB.sv x9)), (sp (TB.sv (!x9)))] (by kernel_rfl) (AOK.cons (fun ρ a w hs hz hΓ hp => gp (d_fieldP fa65_0 (hΓ 2 rfl) (At.fst (At.refl _ _)))) (AOK.cons (fun ρ a w hs hz hΓ hp => gp (d_load y63 hs.le (hp 0 _ rfl rfl).1)) (AOK.cons (fun ρ a w hs hz hΓ hp => gp (d_fieldP fa65_0 (hΓ 3 rfl) (At.fst (At.refl _ _)))) (AOK.cons (fun ρ a w hs hz hΓ hp => gp (d_load y63 hs.le (hp 2 _ rfl rfl).1)) (AOK.cons (fun ρ a w hs hz hΓ hp => gp (d_call fn133 hs.le mapA2 (c133 w _ _ hs.le e3 ((hp 1 _ rfl rfl).1) ((hp 3 _ rfl rfl).1)))) (AOK.cons (fun ρ a w hs hz hΓ hp => gp (d_not (hp 4 _ rfl rfl).1)) AOK.nil rfl) rfl) rfl) rfl) rfl) rfl) (fun vs2 => ?_)
  refine T.nil ?_
  refine T.norm ?_
  refine T.cond (b := (!x9)) (fun _ _ h => h) (fun hc => ?_) (fun hc => ?_)
  · replace hF := iteT hF hc
    refine T.seq ?_
    refine T.region mix 1 [4] [0] [(sp (TB.sv false))] (by kernel_rfl) (AOK.cons (fun ρ a w hs hz hΓ hp => gp (d_assign (vB _))) AOK.nil rfl) (fun vs4 => ?_)
    refine T.nil ?_
    refine T.norm ?_
    refine T.ret ?_
    obtain rfl := Option.some.inj hF
    refine T.fin0 fun ρ a w st => ?_
    exact ⟨_, results_one rfl rfl, (st.env 4)⟩
  · replace hF := iteF hF hc
    refine T.skip ?_
    refine T.norm ?_
    refine T.seq ?_
    refine T.seq ?_
    obtain ⟨x15, e6, hF⟩ := bindS hF
    refine T.region mix 6 [11, 12, 13, 14, 15, 16] [0, 1, 0, 4, 15, 31] [(sp ((TP Y55).sv x0.2.1)), (sp (Y55.sv x0.2.1)), (sp ((TP Y55).sv x1.2.1)), (sp (Y55.sv x1.2.1)), (sp (TB.sv x15)), (sp (TB.sv (!x15)))] (by kernel_rfl) (AOK.cons (fun ρ a w hs hz hΓ hp => gp (d_fieldP fa65_1 (hΓ 2 rfl) (At.fst (At.snd (At.refl _ _))))) (AOK.cons (fun ρ a w hs hz hΓ hp => gp (d_load y63 hs.le (hp 0 _ rfl rfl).1)) (AOK.cons (fun ρ a w hs hz hΓ hp => gp (d_fieldP fa65_1 (hΓ 3 rfl) (At.fst (At.snd (At.refl _ _))))) (AOK.cons (fun ρ a w hs hz hΓ hp => gp (d_load y63 hs.le (hp 2 _ rfl rfl).1)) (AOK.cons (fun ρ a w hs hz hΓ hp => gp (d_call fn133 hs.le mapA2 (c133 w _ _ hs.le e6 ((hp 1 _ rfl rfl).1) ((hp 3 _ rfl rfl).1)))) (AOK.cons (fun ρ a w hs hz hΓ hp => gp (d_not (hp 4 _ rfl rfl).1)) AOK.nil rfl) rfl) rfl) rfl) rfl) rfl) (fun vs5 => ?_)
    refine T.nil ?_
    refine T.norm ?_
    refine T.cond (b := (!x15)) (fun _ _ h => h) (fun hc => ?_) (fun hc => ?_)
    · replace hF := iteT hF hc
      refine T.seq ?_
      refine T.region mix 1 [4] [0] [(sp (TB.sv false))] (by kernel_rfl) (AOK.cons (fun ρ a w hs hz hΓ hp => gp (d_assign (vB _))) AOK.nil rfl) (fun vs7 => ?_)
      refine T.nil ?_
      refine T.norm ?_
      refine T.ret ?_
      obtain rfl := Option.some.inj hF
      refine T.fin0 fun ρ a w st => ?_
      exact ⟨_, results_one rfl rfl, (st.env 4)⟩
    · replace hF := iteF hF hc
      refine T.skip ?_
      refine T.norm ?_
      refine T.seq ?_
      refine T.seq ?_
      obtain ⟨x21, e9, hF⟩ := bindS hF
      refine T.region mix 6 [17, 18, 19, 20, 21, 22] [0, 1, 0, 4, 15, 31] [(sp ((TP Y55).sv x0.2.2.1)), (sp (Y55.sv x0.2.2.1)), (sp ((TP Y55).sv x1.2.2.1)), (sp (Y55.sv x1.2.2.1)), (sp (TB.sv x21)), (sp (TB.sv (!x21)))] (by kernel_rfl) (AOK.cons (fun ρ a w hs hz hΓ hp => gp (d_fieldP fa65_2 (hΓ 2 rfl) (At.fst (At.snd (At.snd (At.refl _ _)))))) (AOK.cons (fun ρ a w hs hz hΓ hp => gp (d_load y63 hs.le (hp 0 _ rfl rfl).1)) (AOK.cons (fun ρ a w hs hz hΓ hp => gp (d_fieldP fa65_2 (hΓ 3 rfl) (At.fst (At.snd (At.snd (At.refl _ _)))))) (AOK.cons (fun ρ a w hs hz hΓ hp => gp (d_load y63 hs.le (hp 2 _ rfl rfl).1)) (AOK.cons (fun ρ a w hs hz hΓ hp => gp (d_call fn133 hs.le mapA2 (c133 w _ _ hs.le e9 ((hp 1 _ rfl rfl).1) ((hp 3 _ rfl rfl).1)))) (AOK.cons (fun ρ a w hs hz hΓ hp => gp (d_not (hp 4 _ rfl rfl).1)) AOK.nil rfl) rfl) rfl) rfl) rfl) rfl) (fun vs8 => ?_)
      refine T.nil ?_
      refine T.norm ?_
      refine T.cond (b := (!x21)) (fun _ _ h => h) (fun hc => ?_) (fun hc => ?_)
      · replace hF := iteT hF hc
        refine T.seq ?_
        refine T.region mix 1 [4] [0] [(sp (TB.sv false))] (by kernel_rfl) (AOK.cons (fun ρ a w hs hz hΓ hp => gp (d_assign (vB _))) AOK.nil rfl) (fun vs10 => ?_)
        refine T.nil ?_
        refine T.norm ?_
        refine T.ret ?_
        obtain rfl := Option.some.inj hF
        refine T.fin0 fun ρ a w st => ?_
        exact ⟨_, results_one rfl rfl, (st.env 4)⟩
      · replace hF := iteF hF hc
        refine T.skip ?_
        refine T.norm ?_
        refine T.seq ?_
        refine T.seq ?_
        obtain ⟨x25, e12, hF⟩ := bindS hF
        obtain ⟨x28, e13, hF⟩ := bindS hF
        obtain ⟨x29, e14, hF⟩ := bindS hF
        refine T.region mix 8 [23, 24, 25, 26, 27, 28, 29, 30] [0, 1, 3, 0, 8, 24, 63, 127] [(sp ((TP (TF .f32)).sv x0.2.2.2.1)), (sp ((TF .f32).sv x0.2.2.2.1)), (sp ((TF .f64).sv x25)), (sp ((TP (TF .f32)).sv x1.2.2.2.1)), (sp ((TF .f32).sv x1.2.2.2.1)), (sp ((TF .f64).sv x28)), (sp (TB.sv x29)), (sp (TB.sv (!x29)))] (by kernel_rfl) (AOK.cons (fun ρ a w hs hz hΓ hp => gp (d_fieldP fa65_3 (hΓ 2 rfl) (At.fst (At.snd (At.snd (At.snd (At.refl _ _))))))) (AOK.cons (fun ρ a w hs hz hΓ hp => gp (d_load y54 hs.le (hp 0 _ rfl rfl).1)) (AOK.cons (fun ρ a w hs hz hΓ hp => gp (d_fconv u54 u172 rfl (hp 1 _ rfl rfl).1 e12)) (AOK.cons (fun ρ a w hs hz hΓ hp => gp (d_fieldP fa65_3 (hΓ 3 rfl) (At.fst (At.snd (At.snd (At.snd (At.refl _ _))))))) (AOK.cons (fun ρ a w hs hz hΓ hp => gp (d_load y54 hs.le (hp 3 _ rfl rfl).1)) (AOK.cons (fun ρ a w hs hz hΓ hp => gp (d_fconv u54 u172 rfl (hp 4 _ rfl rfl).1 e13)) (AOK.cons (fun ρ a w hs hz hΓ hp => gp (d_call fn134 hs.le mapA2 (c134 w _ _ hs.le e14 ((hp 2 _ rfl rfl).1) ((hp 5 _ rfl rfl).1)))) (AOK.cons (fun ρ a w hs hz hΓ hp => gp (d_not (hp 6 _ rfl rfl).1)) AOK.nil rfl) rfl) rfl) rfl) rfl) rfl) rfl) rfl) (fun vs11 => ?_)
        refine T.nil ?_
        refine T.norm ?_
        refine T.cond (b := (!x29)) (fun _ _ h => h) (fun hc => ?_) (fun hc => ?_)
        · replace hF := iteT hF hc
          refine T.seq ?_
          refine T.region mix 1 [4] [0] [(sp (TB.sv false))] (by kernel_rfl) (AOK.cons (fun ρ a w hs hz hΓ hp => gp (d_assign (vB _))) AOK.nil rfl) (fun vs15 => ?_)
          refine T.nil ?_
          refine T.norm ?_
          refine T.ret ?_
          obtain rfl := Option.some.inj hF
          refine T.fin0 fun ρ a w st => ?_
          exact ⟨_, results_one rfl rfl, (st.env 4)⟩
        · replace hF := iteF hF hc
          refine T.skip ?_
          refine T.norm ?_
          refine T.seq ?_
          refine T.seq ?_
          obtain ⟨x33, e17, hF⟩ := bindS hF
          obtain ⟨x36, e18, hF⟩ := bindS hF
          obtain ⟨x37, e19, hF⟩ := bindS hF
          refine T.region mix 8 [31, 32, 33, 34, 35, 36, 37, 38] [0, 1, 3, 0, 8, 24, 63, 127] [(sp ((TP (TF .f32)).sv x0.2.2.2.2)), (sp ((TF .f32).sv x0.2.2.2.2)), (sp ((TF .f64).sv x33)), (sp ((TP (TF .f32)).sv x1.2.2.2.2)), (sp ((TF .f32).sv x1.2.2.2.2)), (sp ((TF .f64).sv x36)), (sp (TB.sv x37)), (sp (TB.sv (!x37)))] (by kernel_rfl) (AOK.cons (fun ρ a w hs hz hΓ hp => gp (d_fieldP fa65_4 (hΓ 2 rfl) (At.snd (At.snd (At.snd (At.snd (At.refl _ _))))))) (AOK.cons (fun ρ a w hs hz hΓ hp => gp (d_load y54 hs.le (hp 0 _ rfl rfl).1)) (AOK.cons (fun ρ a w hs hz hΓ hp => gp (d_fconv u54 u172 rfl (hp 1 _ rfl rfl).1 e17)) (AOK.cons (fun ρ a w hs hz hΓ hp => gp (d_fieldP fa65_4 (hΓ 3 rfl) (At.snd (At.snd (At.snd (At.snd (At.refl _ _))))))) (AOK.cons (fun ρ a w hs hz hΓ hp => gp (d_load y54 hs.le (hp 3 _ rfl rfl).1)) (AOK.cons (fun ρ a w hs hz hΓ hp => gp (d_fconv u54 u172 rfl (hp 4 _ rfl rfl).1 e18)) (AOK.cons (fun ρ a w hs hz hΓ hp => gp (d_call fn134 hs.le mapA2 (c134 w _ _ hs.le e19 ((hp 2 _ rfl rfl).1) ((hp 5 _ rfl rfl).1)))) (AOK.cons (fun ρ a w hs hz hΓ hp => gp (d_not (hp 6 _ rfl rfl).1)) AOK.nil rfl) rfl) rfl) rfl) rfl) rfl) rfl) rfl) (fun vs16 => ?_)
          refine T.nil ?_
          refine T.norm ?_
          refine T.cond (b := (!x37)) (fun _ _ h => h) (fun hc => ?_) (fun hc => ?_)
          · replace hF := iteT hF hc
            refine T.seq ?_
            refine T.region mix 1 [4] [0] [(sp (TB.sv false))] (by kernel_rfl) (AOK.cons (fun ρ a w hs hz hΓ hp => gp (d_assign (vB _))) AOK.nil rfl) (fun vs20 => ?_)
            refine T.nil ?_
            refine T.norm ?_
            refine T.ret ?_
            obtain rfl := Option.some.inj hF
            refine T.fin0 fun ρ a w st => ?_
            exact ⟨_, results_one rfl rfl, (st.env 4)⟩
          · replace hF := iteF hF hc
            refine T.skip ?_
            refine T.norm ?_
            refine T.seq ?_
            refine T.region mix 1 [4] [0] [(sp (TB.sv true))] (by kernel_rfl) (AOK.cons (fun ρ a w hs hz hΓ hp => gp (d_assign (vB _))) AOK.nil rfl) (fun vs21 => ?_)
            refine T.nil ?_
            refine T.norm ?_
            refine T.ret ?_
            obtain rfl := Option.some.inj hF
            refine T.fin0 fun ρ a w st => ?_
            exact ⟨_, results_one rfl rfl, (st.env 4)⟩

theorem c155 (w : World) (v0 v1 : Value) {σ : Heap} (hσ : σ.le (snap w)) {x0 : (List (List Nat))} {x1 : (List (List Nat))} {r : Bool} (hF : laws_eqPointS x0 x1 = some r) (h0 : Y156.val σ v0 x0) (h1 : Y156.val σ v1 x1) :
    Calls Try.prog 155 #[v0, v1] w (Ret [] w σ (TB.sv r) []) := by
  unfold laws_eqPointS at hF
  refine start (args := [v0, v1]) Try.func155 rfl 27 rfl [] [(0, (Y156.sv x0)), (1, (Y156.sv x1))] [] (sat_start _ hσ) rfl (args1 rfl h0 (args1 rfl h1 (args0))) ?_
  refine T.seq ?_
  refine T.region mix 1 [4] [0] [(sp (TB.sv false))] (by kernel_rfl) (AOK.cons (fun ρ a w hs hz hΓ hp => gp (d_assign (vB _))) AOK.nil rfl) (fun vs1 => ?_)
  refine T.nil ?_
  refine T.norm ?_
  refine T.seq ?_
  refine T.seq ?_
  refine T.region mix 5 [6, 7, 8, 9, 10] [0, 1, 0, 4, 15] [(sp (Y156.sv x0)), (sp ((TI .i64).sv (x0.length : Int))), (sp (Y156.sv x1)), (sp ((TI .i64).sv (x1.length : Int))), (sp (TB.sv (decide ((x0.length : Int) ≠ (x1.length : Int)))))] (by kernel_rfl) (AOK.cons (fun ρ a w hs hz hΓ hp => gp (d_move (hΓ 0 rfl))) (AOK.cons (fun ρ a w hs hz hΓ hp => gp (d_lenR u124 (hp 0 _ rfl rfl).1)) (AOK.cons (fun ρ a w hs hz hΓ hp => gp (d_move (hΓ 1 rfl))) (AOK.cons (fun ρ a w hs hz hΓ hp => gp (d_lenR u124 (hp 2 _ rfl rfl).1)) (AOK.cons (fun ρ a w hs hz hΓ hp => gp (d_neq (hp 1 _ rfl rfl).1 (hp 3 _ rfl rfl).1)) AOK.nil rfl) rfl) rfl) rfl) rfl) (fun vs2 => ?_)
  refine T.nil ?_
  refine T.norm ?_
  refine T.cond (b := (decide ((x0.length : Int) ≠ (x1.length : Int)))) (fun _ _ h => h) (fun hc => ?_) (fun hc => ?_)
  · replace hF := iteT hF hc
    refine T.seq ?_
    refine T.region mix 1 [4] [0] [(sp (TB.sv false))] (by kernel_rfl) (AOK.cons (fun ρ a w hs hz hΓ hp => gp (d_assign (vB _))) AOK.nil rfl) (fun vs3 => ?_)
    refine T.nil ?_
    refine T.norm ?_
    refine T.ret ?_
    obtain rfl := Option.some.inj hF
    refine T.fin0 fun ρ a w st => ?_
    exact ⟨_, results_one rfl rfl, (st.env 4)⟩
  · replace hF := iteF hF hc
    refine T.skip ?_
    refine T.norm ?_
    refine T.seq ?_
    refine T.seq ?_
    refine T.region mix 1 [5] [0] [(sp ((TI .i64).sv 0))] (by kernel_rfl) (AOK.cons (fun ρ a w hs hz hΓ hp => gp (d_assign (vI rfl))) AOK.nil rfl) (fun vs4 => ?_)
    refine T.nil ?_
    refine T.norm ?_
    obtain ⟨yl5, e6, hF⟩ := bindS hF
    refine T.joinD (ι := Int × (Unit)) (fun p => yl5 = .inl p.1) (Γ' := fun p => E []) (H' := fun p => HL []) (fun p hy => ?_) (fun hk => ?_)
    · obtain ⟨o5, _⟩ := p
      cases hy
      refine T.norm ?_
      refine T.seq ?_
      refine T.region mix 1 [4] [0] [(sp (TB.sv true))] (by kernel_rfl) (AOK.cons (fun ρ a w hs hz hΓ hp => gp (d_assign (vB _))) AOK.nil rfl) (fun vs7 => ?_)
      refine T.nil ?_
      refine T.norm ?_
      refine T.ret ?_
      obtain rfl := Option.some.inj hF
      refine T.fin0 fun ρ a w st => ?_
      exact ⟨_, results_one rfl rfl, (st.env 4)⟩
    · skip
      refine T.block ?_
      refine T.loop (f := laws_eqPointS_l1 x0 x1) (σ := Int) (Z := Unit) (fun s z => E [(0, (Y156.sv x0)), (1, (Y156.sv x1)), (5, ((TI .i64).sv s))]) (fun s z => HL []) e6 () (fun φ h => T.toh h ⟨fun _ _ h => h, fun _ _ h => h, fun _ _ h => h, trivial⟩ trivial) (fun k s z uu5 hu5 hn5 => ?_)
      obtain ⟨s5, rfl⟩ : ∃ q, q = s := ⟨_, rfl⟩
      dsimp only [laws_eqPointS_l1] at hu5
      refine T.seq ?_
      refine T.seq ?_
      refine T.region mix 4 [11, 12, 13, 14] [0, 0, 2, 7] [(sp ((TI .i64).sv s5)), (sp (Y156.sv x0)), (sp ((TI .i64).sv (x0.length : Int))), (sp (TB.sv (decide (s5 < (x0.length : Int)))))] (by kernel_rfl) (AOK.cons (fun ρ a w hs hz hΓ hp => gp (d_move (hΓ 5 rfl))) (AOK.cons (fun ρ a w hs hz hΓ hp => gp (d_move (hΓ 0 rfl))) (AOK.cons (fun ρ a w hs hz hΓ hp => gp (d_lenR u124 (hp 1 _ rfl rfl).1)) (AOK.cons (fun ρ a w hs hz hΓ hp => gp (d_lss (hp 0 _ rfl rfl).1 (hp 2 _ rfl rfl).1)) AOK.nil rfl) rfl) rfl) rfl) (fun vs8 => ?_)
      refine T.nil ?_
      refine T.norm ?_
      refine T.cond (b := (decide (s5 < (x0.length : Int)))) (fun _ _ h => h) (fun hc => ?_) (fun hc => ?_)
      · replace hu5 := iteT hu5 hc
        refine T.skip ?_
        refine T.norm ?_
        refine T.seq ?_
        refine T.block ?_
        refine T.seq ?_
        obtain ⟨x19, e10, hu5⟩ := bindS hu5
        obtain ⟨x23, e11, hu5⟩ := bindS hu5
        obtain ⟨x25, e12, hu5⟩ := bindS hu5
        refine T.region mix 10 [17, 18, 19, 20, 21, 22, 23, 24, 25, 26] [0, 0, 3, 7, 0, 0, 48, 112, 255, 511] [(sp (Y156.sv x0)), (sp ((TI .i64).sv s5)), (sp ((TP Y55).sv x19)), (sp (Y55.sv x19)), (sp (Y156.sv x1)), (sp ((TI .i64).sv s5)), (sp ((TP Y55).sv x23)), (sp (Y55.sv x23)), (sp (TB.sv x25)), (sp (TB.sv (!x25)))] (by kernel_rfl) (AOK.cons (fun ρ a w hs hz hΓ hp => gp (d_move (hΓ 0 rfl))) (AOK.cons (fun ρ a w hs hz hΓ hp => gp (d_move (hΓ 5 rfl))) (AOK.cons (fun ρ a w hs hz hΓ hp => gp (d_idxR u124 y63 (hp 0 _ rfl rfl).1 (hp 1 _ rfl rfl).1 e10)) (AOK.cons (fun ρ a w hs hz hΓ hp => gp (d_load y63 hs.le (hp 2 _ rfl rfl).1)) (AOK.cons (fun ρ a w hs hz hΓ hp => gp (d_move (hΓ 1 rfl))) (AOK.cons (fun ρ a w hs hz hΓ hp => gp (d_move (hΓ 5 rfl))) (AOK.cons (fun ρ a w hs hz hΓ hp => gp (d_idxR u124 y63 (hp 4 _ rfl rfl).1 (hp 5 _ rfl rfl).1 e11)) (AOK.cons (fun ρ a w hs hz hΓ hp => gp (d_load y63 hs.le (hp 6 _ rfl rfl).1)) (AOK.cons (fun ρ a w hs hz hΓ hp => gp (d_call fn133 hs.le mapA2 (c133 w _ _ hs.le e12 ((hp 3 _ rfl rfl).1) ((hp 7 _ rfl rfl).1)))) (AOK.cons (fun ρ a w hs hz hΓ hp => gp (d_not (hp 8 _ rfl rfl).1)) AOK.nil rfl) rfl) rfl) rfl) rfl) rfl) rfl) rfl) rfl) rfl) (fun vs9 => ?_)
        refine T.nil ?_
        refine T.norm ?_
        refine T.cond (b := (!x25)) (fun _ _ h => h) (fun hc => ?_) (fun hc => ?_)
        · replace hu5 := iteT hu5 hc
          refine T.seq ?_
          refine T.region mix 1 [4] [0] [(sp (TB.sv false))] (by kernel_rfl) (AOK.cons (fun ρ a w hs hz hΓ hp => gp (d_assign (vB _))) AOK.nil rfl) (fun vs13 => ?_)
          refine T.nil ?_
          refine T.norm ?_
          refine T.ret ?_
          obtain rfl := Option.some.inj hu5
          cases hn5
          obtain rfl := Option.some.inj hF
          refine T.fin0 fun ρ a w st => ?_
          exact ⟨_, results_one rfl rfl, (st.env 4)⟩
        · replace hu5 := iteF hu5 hc
          refine T.skip ?_
          refine T.fallX ?_
          refine T.norm ?_
          refine T.region mix 3 [15, 16, 5] [0, 1, 3] [(sp ((TI .i64).sv s5)), (sp ((TI .i64).sv (IntKind.i64.wrap (s5 + 1)))), (sp ((TI .i64).sv (IntKind.i64.wrap (s5 + 1))))] (by kernel_rfl) (AOK.cons (fun ρ a w hs hz hΓ hp => gp (d_move (hΓ 5 rfl))) (AOK.cons (fun ρ a w hs hz hΓ hp => gp (d_add (hp 0 _ rfl rfl).1 (vI rfl))) (AOK.cons (fun ρ a w hs hz hΓ hp => gp (d_assign (hp 1 _ rfl rfl).1)) AOK.nil rfl) rfl) rfl) (fun vs14 => ?_)
          refine T.nil ?_
          obtain rfl := Option.some.inj hu5
          exact T.again hn5 () (fun φ h => T.toh h ⟨fun _ _ h => h, fun _ _ h => h, fun _ _ h => h, trivial⟩ trivial)
      · replace hu5 := iteF hu5 hc
        refine T.exit ?_
        obtain rfl := Option.some.inj hu5
        repeat (first | refine T.passX ?_ | refine T.inX (by decide) ?_)
        refine T.hereX ?_
        exact T.toh (hk (s5, ()) (Eq.symm hn5)) trivial trivial

theorem c172 (w : World) (v0 v1 : Value) {σ : Heap} (hσ : σ.le (snap w)) {x0 : (List Int)} {x1 : (List Int)} {r : Bool} (hF : laws_eqInt16S x0 x1 = some r) (h0 : Y169.val σ v0 x0) (h1 : Y169.val σ v1 x1) :
    Calls Try.prog 172 #[v0, v1] w (Ret [] w σ (TB.sv r) []) := by
  unfold laws_eqInt16S at hF
  refine start (args := [v0, v1]) Try.func172 rfl 26 rfl [] [(0, (Y169.sv x0)), (1, (Y169.sv x1))] [] (sat_start _ hσ) rfl (args1 rfl h0 (args1 rfl h1 (args0))) ?_
  refine T.seq ?_
  refine T.region mix 1 [4] [0] [(sp (TB.sv false))] (by kernel_rfl) (AOK.cons (fun ρ a w hs hz hΓ hp => gp (d_assign (vB _))) AOK.nil rfl) (fun vs1 => ?_)
  refine T.nil ?_
  refine T.norm ?_
  refine T.seq ?_
  refine T.seq ?_
  refine T.region mix 5 [6, 7, 8, 9, 10] [0, 1, 0, 4, 15] [(sp (Y169.sv x0)), (sp ((TI .i64).sv (x0.length : Int))), (sp (Y169.sv x1)), (sp ((TI .i64).sv (x1.length : Int))), (sp (TB.sv (decide ((x0.length : Int) ≠ (x1.length : Int)))))] (by kernel_rfl) (AOK.cons (fun ρ a w hs hz hΓ hp => gp (d_move (hΓ 0 rfl))) (AOK.cons (fun ρ a w hs hz hΓ hp => gp (d_lenR u169 (hp 0 _ rfl rfl).1)) (AOK.cons (fun ρ a w hs hz hΓ hp => gp (d_move (hΓ 1 rfl))) (AOK.cons (fun ρ a w hs hz hΓ hp => gp (d_lenR u169 (hp 2 _ rfl rfl).1)) (AOK.cons (fun ρ a w hs hz hΓ hp => gp (d_neq (hp 1 _ rfl rfl).1 (hp 3 _ rfl rfl).1)) AOK.nil rfl) rfl) rfl) rfl) rfl) (fun vs2 => ?_)
  refine T.nil ?_
  refine T.norm ?_
  refine T.cond (b := (decide ((x0.length : Int) ≠ (x1.length : Int)))) (fun _ _ h => h) (fun hc => ?_) (fun hc => ?_)
  · replace hF := iteT hF hc
    refine T.seq ?_
    refine T.region mix 1 [4] [0] [(sp (TB.sv false))] (by kernel_rfl) (AOK.cons (fun ρ a w hs hz hΓ hp => gp (d_assign (vB _))) AOK.nil rfl) (fun vs3 => ?_)
    refine T.nil ?_
    refine T.norm ?_
    refine T.ret ?_
    obtain rfl := Option.some.inj hF
    refine T.fin0 fun ρ a w st => ?_
    exact ⟨_, results_one rfl rfl, (st.env 4)⟩
  · replace hF := iteF hF hc
    refine T.skip ?_
    refine T.norm ?_
    refine T.seq ?_
    refine T.seq ?_
    refine T.region mix 1 [5] [0] [(sp ((TI .i64).sv 0))] (by kernel_rfl) (AOK.cons (fun ρ a w hs hz hΓ hp => gp (d_assign (vI rfl))) AOK.nil rfl) (fun vs4 => ?_)
    refine T.nil ?_
    refine T.norm ?_
    obtain ⟨yl5, e6, hF⟩ := bindS hF
    refine T.joinD (ι := Int × (Unit)) (fun p => yl5 = .inl p.1) (Γ' := fun p => E []) (H' := fun p => HL []) (fun p hy => ?_) (fun hk => ?_)
    · obtain ⟨o5, _⟩ := p
      cases hy
      refine T.norm ?_
      refine T.seq ?_
      refine T.region mix 1 [4] [0] [(sp (TB.sv true))] (by kernel_rfl) (AOK.cons (fun ρ a w hs hz hΓ hp => gp (d_assign (vB _))) AOK.nil rfl) (fun vs7 => ?_)
      refine T.nil ?_
      refine T.norm ?_
      refine T.ret ?_
      obtain rfl := Option.some.inj hF
      refine T.fin0 fun ρ a w st => ?_
      exact ⟨_, results_one rfl rfl, (st.env 4)⟩
    · skip
      refine T.block ?_
      refine T.loop (f := laws_eqInt16S_l1 x0 x1) (σ := Int) (Z := Unit) (fun s z => E [(0, (Y169.sv x0)), (1, (Y169.sv x1)), (5, ((TI .i64).sv s))]) (fun s z => HL []) e6 () (fun φ h => T.toh h ⟨fun _ _ h => h, fun _ _ h => h, fun _ _ h => h, trivial⟩ trivial) (fun k s z uu5 hu5 hn5 => ?_)
      obtain ⟨s5, rfl⟩ : ∃ q, q = s := ⟨_, rfl⟩
      dsimp only [laws_eqInt16S_l1] at hu5
      refine T.seq ?_
      refine T.seq ?_
      refine T.region mix 4 [11, 12, 13, 14] [0, 0, 2, 7] [(sp ((TI .i64).sv s5)), (sp (Y169.sv x0)), (sp ((TI .i64).sv (x0.length : Int))), (sp (TB.sv (decide (s5 < (x0.length : Int)))))] (by kernel_rfl) (AOK.cons (fun ρ a w hs hz hΓ hp => gp (d_move (hΓ 5 rfl))) (AOK.cons (fun ρ a w hs hz hΓ hp => gp (d_move (hΓ 0 rfl))) (AOK.cons (fun ρ a w hs hz hΓ hp => gp (d_lenR u169 (hp 1 _ rfl rfl).1)) (AOK.cons (fun ρ a w hs hz hΓ hp => gp (d_lss (hp 0 _ rfl rfl).1 (hp 2 _ rfl rfl).1)) AOK.nil rfl) rfl) rfl) rfl) (fun vs8 => ?_)
      refine T.nil ?_
      refine T.norm ?_
      refine T.cond (b := (decide (s5 < (x0.length : Int)))) (fun _ _ h => h) (fun hc => ?_) (fun hc => ?_)
      · replace hu5 := iteT hu5 hc
        refine T.skip ?_
        refine T.norm ?_
        refine T.seq ?_
        refine T.block ?_
        refine T.seq ?_
        obtain ⟨x19, e10, hu5⟩ := bindS hu5
        obtain ⟨x23, e11, hu5⟩ := bindS hu5
        refine T.region mix 9 [17, 18, 19, 20, 21, 22, 23, 24, 25] [0, 0, 3, 7, 0, 0, 48, 112, 255] [(sp (Y169.sv x0)), (sp ((TI .i64).sv s5)), (sp ((TP (TI .i16)).sv x19)), (sp ((TI .i16).sv x19)), (sp (Y169.sv x1)), (sp ((TI .i64).sv s5)), (sp ((TP (TI .i16)).sv x23)), (sp ((TI .i16).sv x23)), (sp (TB.sv (decide (x19 ≠ x23))))] (by kernel_rfl) (AOK.cons (fun ρ a w hs hz hΓ hp => gp (d_move (hΓ 0 rfl))) (AOK.cons (fun ρ a w hs hz hΓ hp => gp (d_move (hΓ 5 rfl))) (AOK.cons (fun ρ a w hs hz hΓ hp => gp (d_idxR u169 y23 (hp 0 _ rfl rfl).1 (hp 1 _ rfl rfl).1 e10)) (AOK.cons (fun ρ a w hs hz hΓ hp => gp (d_load y23 hs.le (hp 2 _ rfl rfl).1)) (AOK.cons (fun ρ a w hs hz hΓ hp => gp (d_move (hΓ 1 rfl))) (AOK.cons (fun ρ a w hs hz hΓ hp => gp (d_move (hΓ 5 rfl))) (AOK.cons (fun ρ a w hs hz hΓ hp => gp (d_idxR u169 y23 (hp 4 _ rfl rfl).1 (hp 5 _ rfl rfl).1 e11)) (AOK.cons (fun ρ a w hs hz hΓ hp => gp (d_load y23 hs.le (hp 6 _ rfl rfl).1)) (AOK.cons (fun ρ a w hs hz hΓ hp => gp (d_neq (hp 3 _ rfl rfl).1 (hp 7 _ rfl rfl).1)) AOK.nil rfl) rfl) rfl) rfl) rfl) rfl) rfl) rfl) rfl) (fun vs9 => ?_)
        refine T.nil ?_
        refine T.norm ?_
        refine T.cond (b := (decide (x19 ≠ x23))) (fun _ _ h => h) (fun hc => ?_) (fun hc => ?_)
        · replace hu5 := iteT hu5 hc
          refine T.seq ?_
          refine T.region mix 1 [4] [0] [(sp (TB.sv false))] (by kernel_rfl) (AOK.cons (fun ρ a w hs hz hΓ hp => gp (d_assign (vB _))) AOK.nil rfl) (fun vs12 => ?_)
          refine T.nil ?_
          refine T.norm ?_
          refine T.ret ?_
          obtain rfl := Option.some.inj hu5
          cases hn5
          obtain rfl := Option.some.inj hF
          refine T.fin0 fun ρ a w st => ?_
          exact ⟨_, results_one rfl rfl, (st.env 4)⟩
        · replace hu5 := iteF hu5 hc
          refine T.skip ?_
          refine T.fallX ?_
          refine T.norm ?_
          refine T.region mix 3 [15, 16, 5] [0, 1, 3] [(sp ((TI .i64).sv s5)), (sp ((TI .i64).sv (IntKind.i64.wrap (s5 + 1)))), (sp ((TI .i64).sv (IntKind.i64.wrap (s5 + 1))))] (by kernel_rfl) (AOK.cons (fun ρ a w hs hz hΓ hp => gp (d_move (hΓ 5 rfl))) (AOK.cons (fun ρ a w hs hz hΓ hp => gp (d_add (hp 0 _ rfl rfl).1 (vI rfl))) (AOK.cons (fun ρ a w hs hz hΓ hp => gp (d_assign (hp 1 _ rfl rfl).1)) AOK.nil rfl) rfl) rfl) (fun vs13 => ?_)
          refine T.nil ?_
          obtain rfl := Option.some.inj hu5
          exact T.again hn5 () (fun φ h => T.toh h ⟨fun _ _ h => h, fun _ _ h => h, fun _ _ h => h, trivial⟩ trivial)
      · replace hu5 := iteF hu5 hc
        refine T.exit ?_
        obtain rfl := Option.some.inj hu5
        repeat (first | refine T.passX ?_ | refine T.inX (by decide) ?_)
        refine T.hereX ?_
        exact T.toh (hk (s5, ()) (Eq.symm hn5)) trivial trivial

theorem c156 (w : World) (v0 v1 : Value) {σ : Heap} (hσ : σ.le (snap w)) {x0 : (List (List Int))} {x1 : (List (List Int))} {r : Bool} (hF : laws_eqInt16SS x0 x1 = some r) (h0 : Y125.val σ v0 x0) (h1 : Y125.val σ v1 x1) :
    Calls Try.prog 156 #[v0, v1] w (Ret [] w σ (TB.sv r) []) := by
  unfold laws_eqInt16SS at hF
  refine start (args := [v0, v1]) Try.func156 rfl 27 rfl [] [(0, (Y125.sv x0)), (1, (Y125.sv x1))] [] (sat_start _ hσ) rfl (args1 rfl h0 (args1 rfl h1 (args0))) ?_
  refine T.seq ?_
  refine T.region mix 1 [4] [0] [(sp (TB.sv false))] (by kernel_rfl) (AOK.cons (fun ρ a w hs hz hΓ hp => gp (d_assign (vB _))) AOK.nil rfl) (fun vs1 => ?_)
  refine T.nil ?_
  refine T.norm ?_
  refine T.seq ?_
  refine T.seq ?_
  refine T.region mix 5 [6, 7, 8, 9, 10] [0, 1, 0, 4, 15] [(sp (Y125.sv x0)), (sp ((TI .i64).sv (x0.length : Int))), (sp (Y125.sv x1)), (sp ((TI .i64).sv (x1.length : Int))), (sp (TB.sv (decide ((x0.length : Int) ≠ (x1.length : Int)))))] (by kernel_rfl) (AOK.cons (fun ρ a w hs hz hΓ hp => gp (d_move (hΓ 0 rfl))) (AOK.cons (fun ρ a w hs hz hΓ hp => gp (d_lenR u125 (hp 0 _ rfl rfl).1)) (AOK.cons (fun ρ a w hs hz hΓ hp => gp (d_move (hΓ 1 rfl))) (AOK.cons (fun ρ a w hs hz hΓ hp => gp (d_lenR u125 (hp 2 _ rfl rfl).1)) (AOK.cons (fun ρ a w hs hz hΓ hp => gp (d_neq (hp 1 _ rfl rfl).1 (hp 3 _ rfl rfl).1)) AOK.nil rfl) rfl) rfl) rfl) rfl) (fun vs2 => ?_)
  refine T.nil ?_
  refine T.norm ?_
  refine T.cond (b := (decide ((x0.length : Int) ≠ (x1.length : Int)))) (fun _ _ h => h) (fun hc => ?_) (fun hc => ?_)
  · replace hF := iteT hF hc
    refine T.seq ?_
    refine T.region mix 1 [4] [0] [(sp (TB.sv false))] (by kernel_rfl) (AOK.cons (fun ρ a w hs hz hΓ hp => gp (d_assign (vB _))) AOK.nil rfl) (fun vs3 => ?_)
    refine T.nil ?_
    refine T.norm ?_
    refine T.ret ?_
    obtain rfl := Option.some.inj hF
    refine T.fin0 fun ρ a w st => ?_
    exact ⟨_, results_one rfl rfl, (st.env 4)⟩
  · replace hF := iteF hF hc
    refine T.skip ?_
    refine T.norm ?_
    refine T.seq ?_
    refine T.seq ?_
    refine T.region mix 1 [5] [0] [(sp ((TI .i64).sv 0))] (by kernel_rfl) (AOK.cons (fun ρ a w hs hz hΓ hp => gp (d_assign (vI rfl))) AOK.nil rfl) (fun vs4 => ?_)
    refine T.nil ?_
    refine T.norm ?_
    obtain ⟨yl5, e6, hF⟩ := bindS hF
    refine T.joinD (ι := Int × (Unit)) (fun p => yl5 = .inl p.1) (Γ' := fun p => E []) (H' := fun p => HL []) (fun p hy => ?_) (fun hk => ?_)
    · obtain ⟨o5, _⟩ := p
      cases hy
      refine T.norm ?_
      refine T.seq ?_
      refine T.region mix 1 [4] [0] [(sp (TB.sv true))] (by kernel_rfl) (AOK.cons (fun ρ a w hs hz hΓ hp => gp (d_assign (vB _))) AOK.nil rfl) (fun vs7 => ?_)
      refine T.nil ?_
      refine T.norm ?_
      refine T.ret ?_
      obtain rfl := Option.some.inj hF
      refine T.fin0 fun ρ a w st => ?_
      exact ⟨_, results_one rfl rfl, (st.env 4)⟩
    · skip
      refine T.block ?_
      refine T.loop (f := laws_eqInt16SS_l1 x0 x1) (σ := Int) (Z := Unit) (fun s z => E [(0, (Y125.sv x0)), (1, (Y125.sv x1)), (5, ((TI .i64).sv s))]) (fun s z => HL []) e6 () (fun φ h => T.toh h ⟨fun _ _ h => h, fun _ _ h => h, fun _ _ h => h, trivial⟩ trivial) (fun k s z uu5 hu5 hn5 => ?_)
      obtain ⟨s5, rfl⟩ : ∃ q, q = s := ⟨_, rfl⟩
      dsimp only [laws_eqInt16SS_l1] at hu5
      refine T.seq ?_
      refine T.seq ?_
      refine T.region mix 4 [11, 12, 13, 14] [0, 0, 2, 7] [(sp ((TI .i64).sv s5)), (sp (Y125.sv x0)), (sp ((TI .i64).sv (x0.length : Int))), (sp (TB.sv (decide (s5 < (x0.length : Int)))))] (by kernel_rfl) (AOK.cons (fun ρ a w hs hz hΓ hp => gp (d_move (hΓ 5 rfl))) (AOK.cons (fun ρ a w hs hz hΓ hp => gp (d_move (hΓ 0 rfl))) (AOK.cons (fun ρ a w hs hz hΓ hp => gp (d_lenR u125 (hp 1 _ rfl rfl).1)) (AOK.cons (fun ρ a w hs hz hΓ hp => gp (d_lss (hp 0 _ rfl rfl).1 (hp 2 _ rfl rfl).1)) AOK.nil rfl) rfl) rfl) rfl) (fun vs8 => ?_)
      refine T.nil ?_
      refine T.norm ?_
      refine T.cond (b := (decide (s5 < (x0.length : Int)))) (fun _ _ h => h) (fun hc => ?_) (fun hc => ?_)
      · replace hu5 := iteT hu5 hc
        refine T.skip ?_
        refine T.norm ?_
        refine T.seq ?_
        refine T.block ?_
        refine T.seq ?_
        obtain ⟨x19, e10, hu5⟩ := bindS hu5
        obtain ⟨x23, e11, hu5⟩ := bindS hu5
        obtain ⟨x25, e12, hu5⟩ := bindS hu5
        refine T.region mix 10 [17, 18, 19, 20, 21, 22, 23, 24, 25, 26] [0, 0, 3, 7, 0, 0, 48, 112, 255, 511] [(sp (Y125.sv x0)), (sp ((TI .i64).sv s5)), (sp ((TP Y169).sv x19)), (sp (Y169.sv x19)), (sp (Y125.sv x1)), (sp ((TI .i64).sv s5)), (sp ((TP Y169).sv x23)), (sp (Y169.sv x23)), (sp (TB.sv x25)), (sp (TB.sv (!x25)))] (by kernel_rfl) (AOK.cons (fun ρ a w hs hz hΓ hp => gp (d_move (hΓ 0 rfl))) (AOK.cons (fun ρ a w hs hz hΓ hp => gp (d_move (hΓ 5 rfl))) (AOK.cons (fun ρ a w hs hz hΓ hp => gp (d_idxR u125 y169 (hp 0 _ rfl rfl).1 (hp 1 _ rfl rfl).1 e10)) (AOK.cons (fun ρ a w hs hz hΓ hp => gp (d_load y169 hs.le (hp 2 _ rfl rfl).1)) (AOK.cons (fun ρ a w hs hz hΓ hp => gp (d_move (hΓ 1 rfl))) (AOK.cons (fun ρ a w hs hz hΓ hp => gp (d_move (hΓ 5 rfl))) (AOK.cons (fun ρ a w hs hz hΓ hp => gp (d_idxR u125 y169 (hp 4 _ rfl rfl).1 (hp 5 _ rfl rfl).1 e11)) (AOK.cons (fun ρ a w hs hz hΓ hp => gp (d_load y169 hs.le (hp 6 _ rfl rfl).1)) (AOK.cons (fun ρ a w hs hz hΓ hp => gp (d_call fn172 hs.le mapA2 (c172 w _ _ hs.le e12 ((hp 3 _ rfl rfl).1) ((hp 7 _ rfl rfl).1)))) (AOK.cons (fun ρ a w hs hz hΓ hp => gp (d_not (hp 8 _ rfl rfl).1)) AOK.nil rfl) rfl) rfl) rfl) rfl) rfl) rfl) rfl) rfl) rfl) (fun vs9 => ?_)
        refine T.nil ?_
        refine T.norm ?_
        refine T.cond (b := (!x25)) (fun _ _ h => h) (fun hc => ?_) (fun hc => ?_)
        · replace hu5 := iteT hu5 hc
          refine T.seq ?_
          refine T.region mix 1 [4] [0] [(sp (TB.sv false))] (by kernel_rfl) (AOK.cons (fun ρ a w hs hz hΓ hp => gp (d_assign (vB _))) AOK.nil rfl) (fun vs13 => ?_)
          refine T.nil ?_
          refine T.norm ?_
          refine T.ret ?_
          obtain rfl := Option.some.inj hu5
          cases hn5
          obtain rfl := Option.some.inj hF
          refine T.fin0 fun ρ a w st => ?_
          exact ⟨_, results_one rfl rfl, (st.env 4)⟩
        · replace hu5 := iteF hu5 hc
          refine T.skip ?_
          refine T.fallX ?_
          refine T.norm ?_
          refine T.region mix 3 [15, 16, 5] [0, 1, 3] [(sp ((TI .i64).sv s5)), (sp ((TI .i64).sv (IntKind.i64.wrap (s5 + 1)))), (sp ((TI .i64).sv (IntKind.i64.wrap (s5 + 1))))] (by kernel_rfl) (AOK.cons (fun ρ a w hs hz hΓ hp => gp (d_move (hΓ 5 rfl))) (AOK.cons (fun ρ a w hs hz hΓ hp => gp (d_add (hp 0 _ rfl rfl).1 (vI rfl))) (AOK.cons (fun ρ a w hs hz hΓ hp => gp (d_assign (hp 1 _ rfl rfl).1)) AOK.nil rfl) rfl) rfl) (fun vs14 => ?_)
          refine T.nil ?_
          obtain rfl := Option.some.inj hu5
          exact T.again hn5 () (fun φ h => T.toh h ⟨fun _ _ h => h, fun _ _ h => h, fun _ _ h => h, trivial⟩ trivial)
      · replace hu5 := iteF hu5 hc
        refine T.exit ?_
        obtain rfl := Option.some.inj hu5
        repeat (first | refine T.passX ?_ | refine T.inX (by decide) ?_)
        refine T.hereX ?_
        exact T.toh (hk (s5, ()) (Eq.symm hn5)) trivial trivial

theorem c135 (w : World) (v0 v1 : Value) {σ : Heap} (hσ : σ.le (snap w)) {x0 : ((List (List Nat)) × (List (List Int)))} {x1 : ((List (List Nat)) × (List (List Int)))} {r : Bool} (hF : laws_eqSolid x0 x1 = some r) (h0 : Y157.val σ v0 x0) (h1 : Y157.val σ v1 x1) :
    Calls Try.prog 135 #[v0, v1] w (Ret [] w σ (TB.sv r) []) := by
  unfold laws_eqSolid at hF
  refine start (args := [v0, v1]) Try.func135 rfl 17 rfl [] [(0, (Y157.sv x0)), (1, (Y157.sv x1))] [] (sat_start _ hσ) rfl (args1 rfl h0 (args1 rfl h1 (args0))) ?_
  refine T.seq ?_
  refine T.region mix 3 [2, 3, 4] [0, 0, 0] [(sp ((TP Y157).sv x0)), (sp ((TP Y157).sv x1)), (sp (TB.sv false))] (by kernel_rfl) (AOK.cons (fun ρ a w hs hz hΓ hp => gp (d_box hs.le (hΓ 0 rfl))) (AOK.cons (fun ρ a w hs hz hΓ hp => gp (d_box hs.le (hΓ 1 rfl))) (AOK.cons (fun ρ a w hs hz hΓ hp => gp (d_assign (vB _))) AOK.nil rfl) rfl) rfl) (fun vs1 => ?_)
  refine T.nil ?_
  refine T.norm ?_
  refine T.seq ?_
  refine T.seq ?_
  obtain ⟨x9, e3, hF⟩ := bindS hF
  refine T.region mix 6 [5, 6, 7, 8, 9, 10] [0, 1, 0, 4, 15, 31] [(sp ((TP Y156).sv x0.1)), (sp (Y156.sv x0.1)), (sp ((TP Y156).sv x1.1)), (sp (Y156.sv x1.1)), (sp (TB.sv x9)), (sp (TB.sv (!x9)))] (by kernel_rfl) (AOK.cons (fun ρ a w hs hz hΓ hp => gp (d_fieldP fa127_0 (hΓ 2 rfl) (At.fst (At.refl _ _)))) (AOK.cons (fun ρ a w hs hz hΓ hp => gp (d_load y124 hs.le (hp 0 _ rfl rfl).1)) (AOK.cons (fun ρ a w hs hz hΓ hp => gp (d_fieldP fa127_0 (hΓ 3 rfl) (At.fst (At.refl _ _)))) (AOK.cons (fun ρ a w hs hz hΓ hp => gp (d_load y124 hs.le (hp 2 _ rfl rfl).1)) (AOK.cons (fun ρ a w hs hz hΓ hp => gp (d_call fn155 hs.le mapA2 (c155 w _ _ hs.le e3 ((hp 1 _ rfl rfl).1) ((hp 3 _ rfl rfl).1)))) (AOK.cons (fun ρ a w hs hz hΓ hp => gp (d_not (hp 4 _ rfl rfl).1)) AOK.nil rfl) rfl) rfl) rfl) rfl) rfl) (fun vs2 => ?_)
  refine T.nil ?_
  refine T.norm ?_
  refine T.cond (b := (!x9)) (fun _ _ h => h) (fun hc => ?_) (fun hc => ?_)
  · replace hF := iteT hF hc
    refine T.seq ?_
    refine T.region mix 1 [4] [0] [(sp (TB.sv false))] (by kernel_rfl) (AOK.cons (fun ρ a w hs hz hΓ hp => gp (d_assign (vB _))) AOK.nil rfl) (fun vs4 => ?_)
    refine T.nil ?_
    refine T.norm ?_
    refine T.ret ?_
    obtain rfl := Option.some.inj hF
    refine T.fin0 fun ρ a w st => ?_
    exact ⟨_, results_one rfl rfl, (st.env 4)⟩
  · replace hF := iteF hF hc
    refine T.skip ?_
    refine T.norm ?_
    refine T.seq ?_
    refine T.seq ?_
    obtain ⟨x15, e6, hF⟩ := bindS hF
    refine T.region mix 6 [11, 12, 13, 14, 15, 16] [0, 1, 0, 4, 15, 31] [(sp ((TP Y125).sv x0.2)), (sp (Y125.sv x0.2)), (sp ((TP Y125).sv x1.2)), (sp (Y125.sv x1.2)), (sp (TB.sv x15)), (sp (TB.sv (!x15)))] (by kernel_rfl) (AOK.cons (fun ρ a w hs hz hΓ hp => gp (d_fieldP fa127_1 (hΓ 2 rfl) (At.snd (At.refl _ _)))) (AOK.cons (fun ρ a w hs hz hΓ hp => gp (d_load y125 hs.le (hp 0 _ rfl rfl).1)) (AOK.cons (fun ρ a w hs hz hΓ hp => gp (d_fieldP fa127_1 (hΓ 3 rfl) (At.snd (At.refl _ _)))) (AOK.cons (fun ρ a w hs hz hΓ hp => gp (d_load y125 hs.le (hp 2 _ rfl rfl).1)) (AOK.cons (fun ρ a w hs hz hΓ hp => gp (d_call fn156 hs.le mapA2 (c156 w _ _ hs.le e6 ((hp 1 _ rfl rfl).1) ((hp 3 _ rfl rfl).1)))) (AOK.cons (fun ρ a w hs hz hΓ hp => gp (d_not (hp 4 _ rfl rfl).1)) AOK.nil rfl) rfl) rfl) rfl) rfl) rfl) (fun vs5 => ?_)
    refine T.nil ?_
    refine T.norm ?_
    refine T.cond (b := (!x15)) (fun _ _ h => h) (fun hc => ?_) (fun hc => ?_)
    · replace hF := iteT hF hc
      refine T.seq ?_
      refine T.region mix 1 [4] [0] [(sp (TB.sv false))] (by kernel_rfl) (AOK.cons (fun ρ a w hs hz hΓ hp => gp (d_assign (vB _))) AOK.nil rfl) (fun vs7 => ?_)
      refine T.nil ?_
      refine T.norm ?_
      refine T.ret ?_
      obtain rfl := Option.some.inj hF
      refine T.fin0 fun ρ a w st => ?_
      exact ⟨_, results_one rfl rfl, (st.env 4)⟩
    · replace hF := iteF hF hc
      refine T.skip ?_
      refine T.norm ?_
      refine T.seq ?_
      refine T.region mix 1 [4] [0] [(sp (TB.sv true))] (by kernel_rfl) (AOK.cons (fun ρ a w hs hz hΓ hp => gp (d_assign (vB _))) AOK.nil rfl) (fun vs8 => ?_)
      refine T.nil ?_
      refine T.norm ?_
      refine T.ret ?_
      obtain rfl := Option.some.inj hF
      refine T.fin0 fun ρ a w st => ?_
      exact ⟨_, results_one rfl rfl, (st.env 4)⟩

theorem c83 (w : World) (v0 v1 : Value) {σ : Heap} (hσ : σ.le (snap w)) {x0 : (List ((List (List Nat)) × (List (List Int))))} {x1 : (List ((List (List Nat)) × (List (List Int))))} {r : Bool} (hF : laws_eqSolidS x0 x1 = some r) (h0 : Y58.val σ v0 x0) (h1 : Y58.val σ v1 x1) :
    Calls Try.prog 83 #[v0, v1] w (Ret [] w σ (TB.sv r) []) := by
  unfold laws_eqSolidS at hF
  refine start (args := [v0, v1]) Try.func83 rfl 27 rfl [] [(0, (Y58.sv x0)), (1, (Y58.sv x1))] [] (sat_start _ hσ) rfl (args1 rfl h0 (args1 rfl h1 (args0))) ?_
  refine T.seq ?_
  refine T.region mix 1 [4] [0] [(sp (TB.sv false))] (by kernel_rfl) (AOK.cons (fun ρ a w hs hz hΓ hp => gp (d_assign (vB _))) AOK.nil rfl) (fun vs1 => ?_)
  refine T.nil ?_
  refine T.norm ?_
  refine T.seq ?_
  refine T.seq ?_
  refine T.region mix 5 [6, 7, 8, 9, 10] [0, 1, 0, 4, 15] [(sp (Y58.sv x0)), (sp ((TI .i64).sv (x0.length : Int))), (sp (Y58.sv x1)), (sp ((TI .i64).sv (x1.length : Int))), (sp (TB.sv (decide ((x0.length : Int) ≠ (x1.length : Int)))))] (by kernel_rfl) (AOK.cons (fun ρ a w hs hz hΓ hp => gp (d_move (hΓ 0 rfl))) (AOK.cons (fun ρ a w hs hz hΓ hp => gp (d_lenR u66 (hp 0 _ rfl rfl).1)) (AOK.cons (fun ρ a w hs hz hΓ hp => gp (d_move (hΓ 1 rfl))) (AOK.cons (fun ρ a w hs hz hΓ hp => gp (d_lenR u66 (hp 2 _ rfl rfl).1)) (AOK.cons (fun ρ a w hs hz hΓ hp => gp (d_neq (hp 1 _ rfl rfl).1 (hp 3 _ rfl rfl).1)) AOK.nil rfl) rfl) rfl) rfl) rfl) (fun vs2 => ?_)
  refine T.nil ?_
  refine T.norm ?_
  refine T.cond (b := (decide ((x0.length : Int) ≠ (x1.length : Int)))) (fun _ _ h => h) (fun hc => ?_) (fun hc => ?_)
  · replace hF := iteT hF hc
    refine T.seq ?_
    refine T.region mix 1 [4] [0] [(sp (TB.sv false))] (by kernel_rfl) (AOK.cons (fun ρ a w hs hz hΓ hp => gp (d_assign (vB _))) AOK.nil rfl) (fun vs3 => ?_)
    refine T.nil ?_
    refine T.norm ?_
    refine T.ret ?_
    obtain rfl := Option.some.inj hF
    refine T.fin0 fun ρ a w st => ?_
    exact ⟨_, results_one rfl rfl, (st.env 4)⟩
  · replace hF := iteF hF hc
    refine T.skip ?_
    refine T.norm ?_
    refine T.seq ?_
    refine T.seq ?_
    refine T.region mix 1 [5] [0] [(sp ((TI .i64).sv 0))] (by kernel_rfl) (AOK.cons (fun ρ a w hs hz hΓ hp => gp (d_assign (vI rfl))) AOK.nil rfl) (fun vs4 => ?_)
    refine T.nil ?_
    refine T.norm ?_
    obtain ⟨yl5, e6, hF⟩ := bindS hF
    refine T.joinD (ι := Int × (Unit)) (fun p => yl5 = .inl p.1) (Γ' := fun p => E []) (H' := fun p => HL []) (fun p hy => ?_) (fun hk => ?_)
    · obtain ⟨o5, _⟩ := p
      cases hy
      refine T.norm ?_
      refine T.seq ?_
      refine T.region mix 1 [4] [0] [(sp (TB.sv true))] (by kernel_rfl) (AOK.cons (fun ρ a w hs hz hΓ hp => gp (d_assign (vB _))) AOK.nil rfl) (fun vs7 => ?_)
      refine T.nil ?_
      refine T.norm ?_
      refine T.ret ?_
      obtain rfl := Option.some.inj hF
      refine T.fin0 fun ρ a w st => ?_
      exact ⟨_, results_one rfl rfl, (st.env 4)⟩
    · skip
      refine T.block ?_
      refine T.loop (f := laws_eqSolidS_l1 x0 x1) (σ := Int) (Z := Unit) (fun s z => E [(0, (Y58.sv x0)), (1, (Y58.sv x1)), (5, ((TI .i64).sv s))]) (fun s z => HL []) e6 () (fun φ h => T.toh h ⟨fun _ _ h => h, fun _ _ h => h, fun _ _ h => h, trivial⟩ trivial) (fun k s z uu5 hu5 hn5 => ?_)
      obtain ⟨s5, rfl⟩ : ∃ q, q = s := ⟨_, rfl⟩
      dsimp only [laws_eqSolidS_l1] at hu5
      refine T.seq ?_
      refine T.seq ?_
      refine T.region mix 4 [11, 12, 13, 14] [0, 0, 2, 7] [(sp ((TI .i64).sv s5)), (sp (Y58.sv x0)), (sp ((TI .i64).sv (x0.length : Int))), (sp (TB.sv (decide (s5 < (x0.length : Int)))))] (by kernel_rfl) (AOK.cons (fun ρ a w hs hz hΓ hp => gp (d_move (hΓ 5 rfl))) (AOK.cons (fun ρ a w hs hz hΓ hp => gp (d_move (hΓ 0 rfl))) (AOK.cons (fun ρ a w hs hz hΓ hp => gp (d_lenR u66 (hp 1 _ rfl rfl).1)) (AOK.cons (fun ρ a w hs hz hΓ hp => gp (d_lss (hp 0 _ rfl rfl).1 (hp 2 _ rfl rfl).1)) AOK.nil rfl) rfl) rfl) rfl) (fun vs8 => ?_)
      refine T.nil ?_
      refine T.norm ?_
      refine T.cond (b := (decide (s5 < (x0.length : Int)))) (fun _ _ h => h) (fun hc => ?_) (fun hc => ?_)
      · replace hu5 := iteT hu5 hc
        refine T.skip ?_
        refine T.norm ?_
        refine T.seq ?_
        refine T.block ?_
        refine T.seq ?_
        obtain ⟨x19, e10, hu5⟩ := bindS hu5
        obtain ⟨x23, e11, hu5⟩ := bindS hu5
        obtain ⟨x25, e12, hu5⟩ := bindS hu5
        refine T.region mix 10 [17, 18, 19, 20, 21, 22, 23, 24, 25, 26] [0, 0, 3, 7, 0, 0, 48, 112, 255, 511] [(sp (Y58.sv x0)), (sp ((TI .i64).sv s5)), (sp ((TP Y157).sv x19)), (sp (Y157.sv x19)), (sp (Y58.sv x1)), (sp ((TI .i64).sv s5)), (sp ((TP Y157).sv x23)), (sp (Y157.sv x23)), (sp (TB.sv x25)), (sp (TB.sv (!x25)))] (by kernel_rfl) (AOK.cons (fun ρ a w hs hz hΓ hp => gp (d_move (hΓ 0 rfl))) (AOK.cons (fun ρ a w hs hz hΓ hp => gp (d_move (hΓ 5 rfl))) (AOK.cons (fun ρ a w hs hz hΓ hp => gp (d_idxR u66 y127 (hp 0 _ rfl rfl).1 (hp 1 _ rfl rfl).1 e10)) (AOK.cons (fun ρ a w hs hz hΓ hp => gp (d_load y127 hs.le (hp 2 _ rfl rfl).1)) (AOK.cons (fun ρ a w hs hz hΓ hp => gp (d_move (hΓ 1 rfl))) (AOK.cons (fun ρ a w hs hz hΓ hp => gp (d_move (hΓ 5 rfl))) (AOK.cons (fun ρ a w hs hz hΓ hp => gp (d_idxR u66 y127 (hp 4 _ rfl rfl).1 (hp 5 _ rfl rfl).1 e11)) (AOK.cons (fun ρ a w hs hz hΓ hp => gp (d_load y127 hs.le (hp 6 _ rfl rfl).1)) (AOK.cons (fun ρ a w hs hz hΓ hp => gp (d_call fn135 hs.le mapA2 (c135 w _ _ hs.le e12 ((hp 3 _ rfl rfl).1) ((hp 7 _ rfl rfl).1)))) (AOK.cons (fun ρ a w hs hz hΓ hp => gp (d_not (hp 8 _ rfl rfl).1)) AOK.nil rfl) rfl) rfl) rfl) rfl) rfl) rfl) rfl) rfl) rfl) (fun vs9 => ?_)
        refine T.nil ?_
        refine T.norm ?_
        refine T.cond (b := (!x25)) (fun _ _ h => h) (fun hc => ?_) (fun hc => ?_)
        · replace hu5 := iteT hu5 hc
          refine T.seq ?_
          refine T.region mix 1 [4] [0] [(sp (TB.sv false))] (by kernel_rfl) (AOK.cons (fun ρ a w hs hz hΓ hp => gp (d_assign (vB _))) AOK.nil rfl) (fun vs13 => ?_)
          refine T.nil ?_
          refine T.norm ?_
          refine T.ret ?_
          obtain rfl := Option.some.inj hu5
          cases hn5
          obtain rfl := Option.some.inj hF
          refine T.fin0 fun ρ a w st => ?_
          exact ⟨_, results_one rfl rfl, (st.env 4)⟩
        · replace hu5 := iteF hu5 hc
          refine T.skip ?_
          refine T.fallX ?_
          refine T.norm ?_
          refine T.region mix 3 [15, 16, 5] [0, 1, 3] [(sp ((TI .i64).sv s5)), (sp ((TI .i64).sv (IntKind.i64.wrap (s5 + 1)))), (sp ((TI .i64).sv (IntKind.i64.wrap (s5 + 1))))] (by kernel_rfl) (AOK.cons (fun ρ a w hs hz hΓ hp => gp (d_move (hΓ 5 rfl))) (AOK.cons (fun ρ a w hs hz hΓ hp => gp (d_add (hp 0 _ rfl rfl).1 (vI rfl))) (AOK.cons (fun ρ a w hs hz hΓ hp => gp (d_assign (hp 1 _ rfl rfl).1)) AOK.nil rfl) rfl) rfl) (fun vs14 => ?_)
          refine T.nil ?_
          obtain rfl := Option.some.inj hu5
          exact T.again hn5 () (fun φ h => T.toh h ⟨fun _ _ h => h, fun _ _ h => h, fun _ _ h => h, trivial⟩ trivial)
      · replace hu5 := iteF hu5 hc
        refine T.exit ?_
        obtain rfl := Option.some.inj hu5
        repeat (first | refine T.passX ?_ | refine T.inX (by decide) ?_)
        refine T.hereX ?_
        exact T.toh (hk (s5, ()) (Eq.symm hn5)) trivial trivial

theorem c34 (w : World) (v0 v1 : Value) {σ : Heap} (hσ : σ.le (snap w)) {x0 : (((List Nat) × (List Nat) × (List Nat) × Nat × Nat) × (List ((List (List Nat)) × (List (List Int)))))} {x1 : (((List Nat) × (List Nat) × (List Nat) × Nat × Nat) × (List ((List (List Nat)) × (List (List Int)))))} {r : Bool} (hF : laws_eqScene x0 x1 = some r) (h0 : Y59.val σ v0 x0) (h1 : Y59.val σ v1 x1) :
    Calls Try.prog 34 #[v0, v1] w (Ret [] w σ (TB.sv r) []) := by
  unfold laws_eqScene at hF
  refine start (args := [v0, v1]) Try.func34 rfl 17 rfl [] [(0, (Y59.sv x0)), (1, (Y59.sv x1))] [] (sat_start _ hσ) rfl (args1 rfl h0 (args1 rfl h1 (args0))) ?_
  refine T.seq ?_
  refine T.region mix 3 [2, 3, 4] [0, 0, 0] [(sp ((TP Y59).sv x0)), (sp ((TP Y59).sv x1)), (sp (TB.sv false))] (by kernel_rfl) (AOK.cons (fun ρ a w hs hz hΓ hp => gp (d_box hs.le (hΓ 0 rfl))) (AOK.cons (fun ρ a w hs hz hΓ hp => gp (d_box hs.le (hΓ 1 rfl))) (AOK.cons (fun ρ a w hs hz hΓ hp => gp (d_assign (vB _))) AOK.nil rfl) rfl) rfl) (fun vs1 => ?_)
  refine T.nil ?_
  refine T.norm ?_
  refine T.seq ?_
  refine T.seq ?_
  obtain ⟨x9, e3, hF⟩ := bindS hF
  refine T.region mix 6 [5, 6, 7, 8, 9, 10] [0, 1, 0, 4, 15, 31] [(sp ((TP Y56).sv x0.1)), (sp (Y56.sv x0.1)), (sp ((TP Y56).sv x1.1)), (sp (Y56.sv x1.1)), (sp (TB.sv x9)), (sp (TB.sv (!x9)))] (by kernel_rfl) (AOK.cons (fun ρ a w hs hz hΓ hp => gp (d_fieldP fa68_0 (hΓ 2 rfl) (At.fst (At.refl _ _)))) (AOK.cons (fun ρ a w hs hz hΓ hp => gp (d_load y65 hs.le (hp 0 _ rfl rfl).1)) (AOK.cons (fun ρ a w hs hz hΓ hp => gp (d_fieldP fa68_0 (hΓ 3 rfl) (At.fst (At.refl _ _)))) (AOK.cons (fun ρ a w hs hz hΓ hp => gp (d_load y65 hs.le (hp 2 _ rfl rfl).1)) (AOK.cons (fun ρ a w hs hz hΓ hp => gp (d_call fn82 hs.le mapA2 (c82 w _ _ hs.le e3 ((hp 1 _ rfl rfl).1) ((hp 3 _ rfl rfl).1)))) (AOK.cons (fun ρ a w hs hz hΓ hp => gp (d_not (hp 4 _ rfl rfl).1)) AOK.nil rfl) rfl) rfl) rfl) rfl) rfl) (fun vs2 => ?_)
  refine T.nil ?_
  refine T.norm ?_
  refine T.cond (b := (!x9)) (fun _ _ h => h) (fun hc => ?_) (fun hc => ?_)
  · replace hF := iteT hF hc
    refine T.seq ?_
    refine T.region mix 1 [4] [0] [(sp (TB.sv false))] (by kernel_rfl) (AOK.cons (fun ρ a w hs hz hΓ hp => gp (d_assign (vB _))) AOK.nil rfl) (fun vs4 => ?_)
    refine T.nil ?_
    refine T.norm ?_
    refine T.ret ?_
    obtain rfl := Option.some.inj hF
    refine T.fin0 fun ρ a w st => ?_
    exact ⟨_, results_one rfl rfl, (st.env 4)⟩
  · replace hF := iteF hF hc
    refine T.skip ?_
    refine T.norm ?_
    refine T.seq ?_
    refine T.seq ?_
    obtain ⟨x15, e6, hF⟩ := bindS hF
    refine T.region mix 6 [11, 12, 13, 14, 15, 16] [0, 1, 0, 4, 15, 31] [(sp ((TP Y58).sv x0.2)), (sp (Y58.sv x0.2)), (sp ((TP Y58).sv x1.2)), (sp (Y58.sv x1.2)), (sp (TB.sv x15)), (sp (TB.sv (!x15)))] (by kernel_rfl) (AOK.cons (fun ρ a w hs hz hΓ hp => gp (d_fieldP fa68_1 (hΓ 2 rfl) (At.snd (At.refl _ _)))) (AOK.cons (fun ρ a w hs hz hΓ hp => gp (d_load y66 hs.le (hp 0 _ rfl rfl).1)) (AOK.cons (fun ρ a w hs hz hΓ hp => gp (d_fieldP fa68_1 (hΓ 3 rfl) (At.snd (At.refl _ _)))) (AOK.cons (fun ρ a w hs hz hΓ hp => gp (d_load y66 hs.le (hp 2 _ rfl rfl).1)) (AOK.cons (fun ρ a w hs hz hΓ hp => gp (d_call fn83 hs.le mapA2 (c83 w _ _ hs.le e6 ((hp 1 _ rfl rfl).1) ((hp 3 _ rfl rfl).1)))) (AOK.cons (fun ρ a w hs hz hΓ hp => gp (d_not (hp 4 _ rfl rfl).1)) AOK.nil rfl) rfl) rfl) rfl) rfl) rfl) (fun vs5 => ?_)
    refine T.nil ?_
    refine T.norm ?_
    refine T.cond (b := (!x15)) (fun _ _ h => h) (fun hc => ?_) (fun hc => ?_)
    · replace hF := iteT hF hc
      refine T.seq ?_
      refine T.region mix 1 [4] [0] [(sp (TB.sv false))] (by kernel_rfl) (AOK.cons (fun ρ a w hs hz hΓ hp => gp (d_assign (vB _))) AOK.nil rfl) (fun vs7 => ?_)
      refine T.nil ?_
      refine T.norm ?_
      refine T.ret ?_
      obtain rfl := Option.some.inj hF
      refine T.fin0 fun ρ a w st => ?_
      exact ⟨_, results_one rfl rfl, (st.env 4)⟩
    · replace hF := iteF hF hc
      refine T.skip ?_
      refine T.norm ?_
      refine T.seq ?_
      refine T.region mix 1 [4] [0] [(sp (TB.sv true))] (by kernel_rfl) (AOK.cons (fun ρ a w hs hz hΓ hp => gp (d_assign (vB _))) AOK.nil rfl) (fun vs8 => ?_)
      refine T.nil ?_
      refine T.norm ?_
      refine T.ret ?_
      obtain rfl := Option.some.inj hF
      refine T.fin0 fun ρ a w st => ?_
      exact ⟨_, results_one rfl rfl, (st.env 4)⟩

theorem c5 (w : World) (v0 v1 : Value) {σ : Heap} (hσ : σ.le (snap w)) {x0 : (((List Nat) × (List Nat) × (List Nat) × Nat × Nat) × (List ((List (List Nat)) × (List (List Int)))))} {x1 : (((List Nat) × (List Nat) × (List Nat) × Nat × Nat) × (List ((List (List Nat)) × (List (List Int)))))} {r : Bool} (hF : laws_FnExactSameScene x0 x1 = some r) (h0 : Y59.val σ v0 x0) (h1 : Y59.val σ v1 x1) :
    Calls Try.prog 5 #[v0, v1] w (Ret [] w σ (TB.sv r) []) := by
  unfold laws_FnExactSameScene at hF
  refine start (args := [v0, v1]) Try.func5 rfl 45 rfl [] [(0, (Y59.sv x0)), (1, (Y59.sv x1))] [] (sat_start _ hσ) rfl (args1 rfl h0 (args1 rfl h1 (args0))) ?_
  refine T.seq ?_
  refine T.region mix 3 [2, 3, 4] [0, 0, 0] [(sp ((TP Y59).sv x0)), (sp ((TP Y59).sv x1)), (sp (TB.sv false))] (by kernel_rfl) (AOK.cons (fun ρ a w hs hz hΓ hp => gp (d_box hs.le (hΓ 0 rfl))) (AOK.cons (fun ρ a w hs hz hΓ hp => gp (d_box hs.le (hΓ 1 rfl))) (AOK.cons (fun ρ a w hs hz hΓ hp => gp (d_assign (vB _))) AOK.nil rfl) rfl) rfl) (fun vs1 => ?_)
  refine T.nil ?_
  refine T.norm ?_
  refine T.seq ?_
  refine T.region mix 1 [5] [0] [(sp ((TI .i64).sv 1048576))] (by kernel_rfl) (AOK.cons (fun ρ a w hs hz hΓ hp => gp (d_assign (vI rfl))) AOK.nil rfl) (fun vs2 => ?_)
  refine T.nil ?_
  refine T.norm ?_
  refine T.seq ?_
  obtain ⟨x12, e4, hF⟩ := bindS hF
  refine T.region mix 4 [10, 11, 12, 5] [0, 0, 3, 7] [(sp (Y59.sv x0)), (sp ((TI .i64).sv 1048576)), (sp ((TI .i64).sv x12)), (sp ((TI .i64).sv x12))] (by kernel_rfl) (AOK.cons (fun ρ a w hs hz hΓ hp => gp (d_load y60 hs.le (hΓ 2 rfl))) (AOK.cons (fun ρ a w hs hz hΓ hp => gp (d_move (hΓ 5 rfl))) (AOK.cons (fun ρ a w hs hz hΓ hp => gp (d_call fn30 hs.le mapA2 (c30 w _ _ hs.le e4 ((hp 0 _ rfl rfl).1) ((hp 1 _ rfl rfl).1)))) (AOK.cons (fun ρ a w hs hz hΓ hp => gp (d_assign (hp 2 _ rfl rfl).1)) AOK.nil rfl) rfl) rfl) rfl) (fun vs3 => ?_)
  refine T.nil ?_
  refine T.norm ?_
  refine T.seq ?_
  refine T.seq ?_
  refine T.region mix 2 [13, 14] [0, 1] [(sp ((TI .i64).sv x12)), (sp (TB.sv (decide (x12 < 0))))] (by kernel_rfl) (AOK.cons (fun ρ a w hs hz hΓ hp => gp (d_move (hΓ 5 rfl))) (AOK.cons (fun ρ a w hs hz hΓ hp => gp (d_lss (hp 0 _ rfl rfl).1 (vI rfl))) AOK.nil rfl) rfl) (fun vs5 => ?_)
  refine T.nil ?_
  refine T.norm ?_
  refine T.cond (b := (decide (x12 < 0))) (fun _ _ h => h) (fun hc => ?_) (fun hc => ?_)
  · replace hF := iteT hF hc
    refine T.seq ?_
    refine T.region mix 1 [4] [0] [(sp (TB.sv true))] (by kernel_rfl) (AOK.cons (fun ρ a w hs hz hΓ hp => gp (d_assign (vB _))) AOK.nil rfl) (fun vs6 => ?_)
    refine T.nil ?_
    refine T.norm ?_
    refine T.ret ?_
    obtain rfl := Option.some.inj hF
    refine T.fin0 fun ρ a w st => ?_
    exact ⟨_, results_one rfl rfl, (st.env 4)⟩
  · replace hF := iteF hF hc
    refine T.skip ?_
    refine T.norm ?_
    refine T.seq ?_
    obtain ⟨x17, e8, hF⟩ := bindS hF
    refine T.region mix 4 [15, 16, 17, 5] [0, 0, 3, 7] [(sp (Y59.sv x1)), (sp ((TI .i64).sv x12)), (sp ((TI .i64).sv x17)), (sp ((TI .i64).sv x17))] (by kernel_rfl) (AOK.cons (fun ρ a w hs hz hΓ hp => gp (d_load y60 hs.le (hΓ 3 rfl))) (AOK.cons (fun ρ a w hs hz hΓ hp => gp (d_move (hΓ 5 rfl))) (AOK.cons (fun ρ a w hs hz hΓ hp => gp (d_call fn30 hs.le mapA2 (c30 w _ _ hs.le e8 ((hp 0 _ rfl rfl).1) ((hp 1 _ rfl rfl).1)))) (AOK.cons (fun ρ a w hs hz hΓ hp => gp (d_assign (hp 2 _ rfl rfl).1)) AOK.nil rfl) rfl) rfl) rfl) (fun vs7 => ?_)
    refine T.nil ?_
    refine T.norm ?_
    refine T.seq ?_
    refine T.seq ?_
    refine T.region mix 2 [18, 19] [0, 1] [(sp ((TI .i64).sv x17)), (sp (TB.sv (decide (x17 < 0))))] (by kernel_rfl) (AOK.cons (fun ρ a w hs hz hΓ hp => gp (d_move (hΓ 5 rfl))) (AOK.cons (fun ρ a w hs hz hΓ hp => gp (d_lss (hp 0 _ rfl rfl).1 (vI rfl))) AOK.nil rfl) rfl) (fun vs9 => ?_)
    refine T.nil ?_
    refine T.norm ?_
    refine T.cond (b := (decide (x17 < 0))) (fun _ _ h => h) (fun hc => ?_) (fun hc => ?_)
    · replace hF := iteT hF hc
      refine T.seq ?_
      refine T.region mix 1 [4] [0] [(sp (TB.sv true))] (by kernel_rfl) (AOK.cons (fun ρ a w hs hz hΓ hp => gp (d_assign (vB _))) AOK.nil rfl) (fun vs10 => ?_)
      refine T.nil ?_
      refine T.norm ?_
      refine T.ret ?_
      obtain rfl := Option.some.inj hF
      refine T.fin0 fun ρ a w st => ?_
      exact ⟨_, results_one rfl rfl, (st.env 4)⟩
    · replace hF := iteF hF hc
      refine T.skip ?_
      refine T.norm ?_
      refine T.seq ?_
      obtain ⟨x21, e12, hF⟩ := bindS hF
      obtain ⟨x23, e13, hF⟩ := bindS hF
      obtain ⟨x24, e14, hF⟩ := bindS hF
      refine T.region mix 6 [20, 21, 22, 23, 24, 6] [0, 1, 0, 7, 15, 31] [(sp (Y59.sv x0)), (sp (Y59.sv x21)), (sp (Y59.sv x1)), (sp (Y59.sv x23)), (sp (TB.sv x24)), (sp (TB.sv x24))] (by kernel_rfl) (AOK.cons (fun ρ a w hs hz hΓ hp => gp (d_load y60 hs.le (hΓ 2 rfl))) (AOK.cons (fun ρ a w hs hz hΓ hp => gp (d_call fn32 hs.le mapA1 (c32 w _ hs.le e12 ((hp 0 _ rfl rfl).1)))) (AOK.cons (fun ρ a w hs hz hΓ hp => gp (d_load y60 hs.le (hΓ 3 rfl))) (AOK.cons (fun ρ a w hs hz hΓ hp => gp (d_call fn32 hs.le mapA1 (c32 w _ hs.le e13 ((hp 2 _ rfl rfl).1)))) (AOK.cons (fun ρ a w hs hz hΓ hp => gp (d_call fn31 hs.le mapA2 (c31 w _ _ hs.le e14 ((hp 1 _ rfl rfl).1) ((hp 3 _ rfl rfl).1)))) (AOK.cons (fun ρ a w hs hz hΓ hp => gp (d_assign (hp 4 _ rfl rfl).1)) AOK.nil rfl) rfl) rfl) rfl) rfl) rfl) (fun vs11 => ?_)
      refine T.nil ?_
      refine T.norm ?_
      refine T.seq ?_
      obtain ⟨x26, e16, hF⟩ := bindS hF
      refine T.region mix 3 [25, 26, 7] [0, 1, 0, 7] [(sp (Y59.sv x0)), (sp (Y59.sv x26)), (sO SRel.any [(1, (boxR 68 Y59 (((List.replicate 3 0), (List.replicate 3 0), (List.replicate 3 0), 0, 0), [])))])] (by kernel_rfl) (AOK.cons (fun ρ a w hs hz hΓ hp => gp (d_load y60 hs.le (hΓ 2 rfl))) (AOK.cons (fun ρ a w hs hz hΓ hp => gp (d_call fn32 hs.le mapA1 (c32 w _ hs.le e16 ((hp 0 _ rfl rfl).1)))) (AOK.cons (fun ρ a w hs hz hΓ hp => g_alloc hs.le z68 zc68) AOK.nil rfl) rfl) rfl) (fun vs15 => ?_)
      refine T.store 1 y68 rfl (fun ρ a w st => ⟨.inl ⟨(st.env 7).1, rfl⟩, (st.env 26)⟩) (At.refl Y59 (((List.replicate 3 0), (List.replicate 3 0), (List.replicate 3 0), 0, 0), [])) ?_
      refine T.nil ?_
      refine T.norm ?_
      refine T.seq ?_
      obtain ⟨x28, e18, hF⟩ := bindS hF
      refine T.region mix 3 [27, 28, 8] [0, 1, 0, 7] [(sp (Y59.sv x1)), (sp (Y59.sv x28)), (sO SRel.any [(2, (boxR 68 Y59 (((List.replicate 3 0), (List.replicate 3 0), (List.replicate 3 0), 0, 0), [])))])] (by kernel_rfl) (AOK.cons (fun ρ a w hs hz hΓ hp => gp (d_load y60 hs.le (hΓ 3 rfl))) (AOK.cons (fun ρ a w hs hz hΓ hp => gp (d_call fn32 hs.le mapA1 (c32 w _ hs.le e18 ((hp 0 _ rfl rfl).1)))) (AOK.cons (fun ρ a w hs hz hΓ hp => g_alloc hs.le z68 zc68) AOK.nil rfl) rfl) rfl) (fun vs17 => ?_)
      refine T.store 2 y68 rfl (fun ρ a w st => ⟨.inl ⟨(st.env 8).1, rfl⟩, (st.env 28)⟩) (At.refl Y59 (((List.replicate 3 0), (List.replicate 3 0), (List.replicate 3 0), 0, 0), [])) ?_
      refine T.nil ?_
      refine T.norm ?_
      refine T.seq ?_
      obtain ⟨x31, e20, hF⟩ := bindS hF
      refine T.region mix 4 [29, 30, 31, 9] [0, 0, 3, 7] [(sp (Y59.sv x26)), (sp (Y59.sv x28)), (sp (TB.sv x31)), (sp (TB.sv x31))] (by kernel_rfl) (AOK.cons (fun ρ a w hs hz hΓ hp => gp (d_loadO y68 hs 1 rfl (.inl ⟨(hΓ 7 rfl).1, rfl⟩) (At.refl Y59 x26))) (AOK.cons (fun ρ a w hs hz hΓ hp => gp (d_loadO y68 hs 2 rfl (.inl ⟨(hΓ 8 rfl).1, rfl⟩) (At.refl Y59 x28))) (AOK.cons (fun ρ a w hs hz hΓ hp => gp (d_call fn33 hs.le mapA2 (c33 w _ _ hs.le e20 ((hp 0 _ rfl rfl).1) ((hp 1 _ rfl rfl).1)))) (AOK.cons (fun ρ a w hs hz hΓ hp => gp (d_assign (hp 2 _ rfl rfl).1)) AOK.nil rfl) rfl) rfl) rfl) (fun vs19 => ?_)
      refine T.nil ?_
      refine T.norm ?_
      refine T.seq ?_
      refine T.seq ?_
      refine T.region mix 3 [32, 33, 34] [0, 0, 3] [(sp (TB.sv x31)), (sp (TB.sv x24)), (sp (TB.sv (x31 != x24)))] (by kernel_rfl) (AOK.cons (fun ρ a w hs hz hΓ hp => gp (d_move (hΓ 9 rfl))) (AOK.cons (fun ρ a w hs hz hΓ hp => gp (d_move (hΓ 6 rfl))) (AOK.cons (fun ρ a w hs hz hΓ hp => gp (d_neqB u4 (hp 0 _ rfl rfl).1 (hp 1 _ rfl rfl).1)) AOK.nil rfl) rfl) rfl) (fun vs21 => ?_)
      refine T.nil ?_
      refine T.norm ?_
      refine T.cond (b := (x31 != x24)) (fun _ _ h => h) (fun hc => ?_) (fun hc => ?_)
      · replace hF := iteT hF hc
        refine T.seq ?_
        refine T.region mix 1 [4] [0] [(sp (TB.sv false))] (by kernel_rfl) (AOK.cons (fun ρ a w hs hz hΓ hp => gp (d_assign (vB _))) AOK.nil rfl) (fun vs22 => ?_)
        refine T.nil ?_
        refine T.norm ?_
        refine T.ret ?_
        obtain rfl := Option.some.inj hF
        refine T.fin0 fun ρ a w st => ?_
        exact ⟨_, results_one rfl rfl, (st.env 4)⟩
      · replace hF := iteF hF hc
        refine T.skip ?_
        refine T.norm ?_
        refine T.seq ?_
        refine T.seq ?_
        obtain ⟨x37, e24, hF⟩ := bindS hF
        obtain ⟨x38, e25, hF⟩ := bindS hF
        refine T.region mix 5 [35, 36, 37, 38, 39] [0, 0, 2, 7, 15] [(sp (Y59.sv x26)), (sp (Y59.sv x0)), (sp (Y59.sv x37)), (sp (TB.sv x38)), (sp (TB.sv (!x38)))] (by kernel_rfl) (AOK.cons (fun ρ a w hs hz hΓ hp => gp (d_loadO y68 hs 1 rfl (.inl ⟨(hΓ 7 rfl).1, rfl⟩) (At.refl Y59 x26))) (AOK.cons (fun ρ a w hs hz hΓ hp => gp (d_load y60 hs.le (hΓ 2 rfl))) (AOK.cons (fun ρ a w hs hz hΓ hp => gp (d_call fn32 hs.le mapA1 (c32 w _ hs.le e24 ((hp 1 _ rfl rfl).1)))) (AOK.cons (fun ρ a w hs hz hΓ hp => gp (d_call fn34 hs.le mapA2 (c34 w _ _ hs.le e25 ((hp 0 _ rfl rfl).1) ((hp 2 _ rfl rfl).1)))) (AOK.cons (fun ρ a w hs hz hΓ hp => gp (d_not (hp 3 _ rfl rfl).1)) AOK.nil rfl) rfl) rfl) rfl) rfl) (fun vs23 => ?_)
        refine T.nil ?_
        refine T.norm ?_
        refine T.cond (b := (!x38)) (fun _ _ h => h) (fun hc => ?_) (fun hc => ?_)
        · replace hF := iteT hF hc
          refine T.seq ?_
          refine T.region mix 1 [4] [0] [(sp (TB.sv false))] (by kernel_rfl) (AOK.cons (fun ρ a w hs hz hΓ hp => gp (d_assign (vB _))) AOK.nil rfl) (fun vs26 => ?_)
          refine T.nil ?_
          refine T.norm ?_
          refine T.ret ?_
          obtain rfl := Option.some.inj hF
          refine T.fin0 fun ρ a w st => ?_
          exact ⟨_, results_one rfl rfl, (st.env 4)⟩
        · replace hF := iteF hF hc
          refine T.skip ?_
          refine T.norm ?_
          refine T.seq ?_
          refine T.seq ?_
          obtain ⟨x42, e28, hF⟩ := bindS hF
          obtain ⟨x43, e29, hF⟩ := bindS hF
          refine T.region mix 5 [40, 41, 42, 43, 44] [0, 0, 2, 7, 15] [(sp (Y59.sv x28)), (sp (Y59.sv x1)), (sp (Y59.sv x42)), (sp (TB.sv x43)), (sp (TB.sv (!x43)))] (by kernel_rfl) (AOK.cons (fun ρ a w hs hz hΓ hp => gp (d_loadO y68 hs 2 rfl (.inl ⟨(hΓ 8 rfl).1, rfl⟩) (At.refl Y59 x28))) (AOK.cons (fun ρ a w hs hz hΓ hp => gp (d_load y60 hs.le (hΓ 3 rfl))) (AOK.cons (fun ρ a w hs hz hΓ hp => gp (d_call fn32 hs.le mapA1 (c32 w _ hs.le e28 ((hp 1 _ rfl rfl).1)))) (AOK.cons (fun ρ a w hs hz hΓ hp => gp (d_call fn34 hs.le mapA2 (c34 w _ _ hs.le e29 ((hp 0 _ rfl rfl).1) ((hp 2 _ rfl rfl).1)))) (AOK.cons (fun ρ a w hs hz hΓ hp => gp (d_not (hp 3 _ rfl rfl).1)) AOK.nil rfl) rfl) rfl) rfl) rfl) (fun vs27 => ?_)
          refine T.nil ?_
          refine T.norm ?_
          refine T.cond (b := (!x43)) (fun _ _ h => h) (fun hc => ?_) (fun hc => ?_)
          · replace hF := iteT hF hc
            refine T.seq ?_
            refine T.region mix 1 [4] [0] [(sp (TB.sv false))] (by kernel_rfl) (AOK.cons (fun ρ a w hs hz hΓ hp => gp (d_assign (vB _))) AOK.nil rfl) (fun vs30 => ?_)
            refine T.nil ?_
            refine T.norm ?_
            refine T.ret ?_
            obtain rfl := Option.some.inj hF
            refine T.fin0 fun ρ a w st => ?_
            exact ⟨_, results_one rfl rfl, (st.env 4)⟩
          · replace hF := iteF hF hc
            refine T.skip ?_
            refine T.norm ?_
            refine T.seq ?_
            refine T.region mix 1 [4] [0] [(sp (TB.sv true))] (by kernel_rfl) (AOK.cons (fun ρ a w hs hz hΓ hp => gp (d_assign (vB _))) AOK.nil rfl) (fun vs31 => ?_)
            refine T.nil ?_
            refine T.norm ?_
            refine T.ret ?_
            obtain rfl := Option.some.inj hF
            refine T.fin0 fun ρ a w st => ?_
            exact ⟨_, results_one rfl rfl, (st.env 4)⟩
end Go.Proofs.Ytjmlfdhddbhlpaa
