/-
  What the printed walks lean on, beyond the steps.
-/
import Derived.Test.YtnpkhhfpgedkoaaStep
import Derived.Test.YtnpkhhfpgedkoaaFloat
import Derived.Laws.MakeOwn
set_option linter.unusedVariables false
set_option linter.unusedSimpArgs false
namespace Go.Proofs.Ytnpkhhfpgedkoaa
open Go

/-! ### Control -/
section
variable {P : Program} {C : Ctx} {Γ : Nat → SRel} {H : Nat → Res} {Q : Exit → Act → World → Prop}
theorem T.joinD {ι : Type} {x : Code} (D : ι → Prop) {Γ' : ι → Nat → SRel} {H' : ι → Nat → Res} (k : ∀ p, D p → T C (Γ' p) (H' p) (Q .normal)) (h : (∀ p, D p → T C (Γ' p) (H' p) (Q .normal)) → T C Γ H (x.wp P Q)) : T C Γ H (x.wp P Q) := h k
theorem T.joinS {ι : Type} {x : Code} {Γ' : ι → Nat → SRel} {H' : ι → Nat → Res} (k : ∀ p, T C (Γ' p) (H' p) (Q .normal)) (h : (∀ p, T C (Γ' p) (H' p) (Q .normal)) → T C Γ H (x.wp P Q)) : T C Γ H (x.wp P Q) := h k
theorem T.passX {id : Nat} {n : Act → World → Prop} (h : T C Γ H (Q (.exit id))) : T C Γ H (Exit.then n Q (.exit id)) := h
theorem T.inX {i j : Nat} (hn : ¬ j = i) (h : T C Γ H (Q (.exit j))) : T C Γ H (Exit.inBlock i Q (.exit j)) := T.there (φ := fun a w => Q .normal a w) hn h
theorem T.hereX {i : Nat} (h : T C Γ H (Q .normal)) : T C Γ H (Exit.inBlock i Q (.exit i)) := T.here (ψ := fun a w => Q (.exit i) a w) rfl h
theorem T.fallX {i : Nat} (h : T C Γ H (Q .normal)) : T C Γ H (Exit.inBlock i Q .normal) := h
theorem T.toh {φ : Act → World → Prop} {l : List (Nat × SRel)} {hl : List (Nat × Res)} (h : T C (E l) (HL hl) φ) (k : Ents Γ l) (kh : HEnts H hl) : T C Γ H φ := T.to k kh h
/-- The same, where memory goes by other numbers from now on. -/
def HEntsM (H : Nat → Res) : List (Nat × Nat × Res) → Prop
  | [] => True
  | (_, q, R) :: l => H q = R ∧ HEntsM H l
theorem HEntsM.get {H : Nat → Res} : ∀ {l : List (Nat × Nat × Res)}, HEntsM H l → ∀ t, HL (l.map fun p => (p.1, p.2.2)) t = Res.none ∨ ∃ e, e ∈ l ∧ e.1 = t ∧ HL (l.map fun p => (p.1, p.2.2)) t = H e.2.1
  | [], _, t => .inl rfl
  | (s, q, R) :: l, ⟨h1, h2⟩, t => by
    simp only [List.map_cons]
    unfold HL
    cases hb : Nat.beq s t with
    | true => exact .inr ⟨(s, q, R), by simp, Nat.eq_of_beq_eq_true hb, h1.symm⟩
    | false =>
      rcases HEntsM.get h2 t with h | ⟨e, he, h3, h4⟩
      · exact .inl h
      · exact .inr ⟨e, by simp [he], h3, h4⟩
theorem T.tom {φ : Act → World → Prop} {l : List (Nat × SRel)} (hl : List (Nat × Nat × Res)) (h : T C (E l) (HL (hl.map fun p => (p.1, p.2.2))) φ) (k : Ents Γ l) (kh : HEntsM H hl) (nd : nodupB (hl.map (·.2.1)) = true) : T C Γ H φ := fun ρ a w st => by
  have hs := st.sat
  have nd := nodupB_get nd
  have inj : ∀ e ∈ hl, ∀ f ∈ hl, e.2.1 = f.2.1 → e = f := by
    intro e he f hf hq
    obtain ⟨i, hi, rfl⟩ := List.getElem_of_mem he
    obtain ⟨j, hj, rfl⟩ := List.getElem_of_mem hf
    have hp := List.pairwise_iff_getElem.1 nd
    rcases Nat.lt_trichotomy i j with hlt | heq | hgt
    · exact absurd hq (by have := hp i j (by simpa using hi) (by simpa using hj) hlt; simpa using this)
    · subst heq; rfl
    · exact absurd hq.symm (by have := hp j i (by simpa using hj) (by simpa using hi) hgt; simpa using this)
  refine h ρ a w ⟨st.defers, st.size, fun t => k.get t _ _ (st.env t), ⟨hs.le, fun i => ?_, fun i j b hij hi => ?_, fun i b hi => ?_, hs.fr, hs.lim, hs.sle⟩⟩
  · rcases kh.get i with e | ⟨e, _, _, h⟩
    · rw [e]; exact trivial
    · rw [h]; exact hs.ok _
  · rcases kh.get i with e | ⟨e, he, he1, h⟩
    · rw [e] at hi; simp [Res.none] at hi
    · rcases kh.get j with f | ⟨f, hf, hf1, h'⟩
      · rw [f]; simp [Res.none]
      · rw [h] at hi
        rw [h']
        exact hs.apart _ _ b (fun hq => hij (by rw [← he1, ← hf1, inj e he f hf hq])) hi
  · rcases kh.get i with e | ⟨e, _, _, h⟩
    · rw [e] at hi; simp [Res.none] at hi
    · rw [h] at hi; exact hs.mine _ b hi
theorem T.condKT {x y : Code} (h : T C Γ H (x.wp P Q)) : T C Γ H ((Code.cond (.const (.bool true)) x y).wp P Q) := fun ρ a w s =>
  wp_cond_split (t := true) rfl (fun _ => h ρ a w s) (fun h => by cases h)
theorem T.condKF {x y : Code} (h : T C Γ H (y.wp P Q)) : T C Γ H ((Code.cond (.const (.bool false)) x y).wp P Q) := fun ρ a w s =>
  wp_cond_split (t := false) rfl (fun h => by cases h) (fun _ => h ρ a w s)
theorem T.atEnd {fn : Func} {R : Ending → World → Prop} (h : T C Γ H (bodyPost P fn R .ret)) : T C Γ H (bodyPost P fn R .normal) := h
end

/-! ### Picks -/
section
variable {ρ : Heap} {v : Value} {b c x : Bool}
theorem pA (hc : c = true) (h : TB.val ρ v b) : (TB.sv (c && b)).p ρ v := by subst hc; exact h
theorem pAN (hc : c = false) : (TB.sv (c && b)).p ρ (.bool false) := by subst hc; exact vB _
theorem pO (hc : c = false) (h : TB.val ρ v b) : (TB.sv (c || b)).p ρ v := by subst hc; exact h
theorem pON (hc : c = true) : (TB.sv (c || b)).p ρ (.bool true) := by subst hc; exact vB _
theorem pE (e : b = x) (h : TB.val ρ v b) : (TB.sv x).p ρ v := by subst e; exact h
theorem pC (e : b = x) : (TB.sv x).p ρ (.bool b) := by subst e; exact vB _
/-- A value under a guard; where the guard does not hold, nothing. -/
def SRel.opt (p : Prop) (R : SRel) : SRel := ⟨fun ρ v => (p → R.p ρ v) ∧ (¬ p → v = undef), fun h k => ⟨fun hp => R.mono h (k.1 hp), k.2⟩⟩
theorem yields {ops : Array Oper} {a : Act} {g d N : Nat} (hz : a.tmps.size = N) (hg : (ops[g]?).bind (·.dst) = some d) (hd : decide (d < N) = true) : yielded ops a.tmps g = match slot a d with | .bool b => some b | _ => none := by
  have hd : d < a.tmps.size := by rw [hz]; simpa using hd
  unfold yielded slot
  rw [hg]
  simp only [Option.bind_some]
  rw [Array.getD_eq_getD_getElem?, Array.getElem?_eq_getElem hd]
  simp only [Option.getD_some]
  cases a.tmps[d] <;> rfl
theorem gn {P : Program} {ops : Array Oper} {ds : List Nat} {w : World} {a : Act} {R : SRel} {op : Op} {ty : TypeId} {dst : Option Tmp} {pos : String} {after : Array Edge} {g d : Nat} {want c' : Bool} {p : Prop} {N : Nat} (hz : a.tmps.size = N) (hg : (ops[g]?).bind (·.dst) = some d) (hc : (SRel.opt p (TB.sv c')).p ρ (slot a d)) (hd : decide (d < N) = true) (h : p ∧ c' = want → Does P ρ w op ty a R) :
    Goal P ops ρ ds w (sp (SRel.opt (p ∧ c' = want) R)) ⟨dst, op, ty, pos, after, some (g, want)⟩ a := by
  intro Q K hK
  have hy := yields hz hg hd
  by_cases hp : p
  · have hv := Ty.val_one rfl (hc.1 hp)
    simp [TB] at hv
    rw [hv] at hy
    simp only [Region.wanted, hy]
    by_cases hcw : c' = want
    · subst hcw
      simp only [beq_self_eq_true, if_true]
      refine h ⟨hp, rfl⟩ dst pos after _ Q K fun v w' hb hR => hK v w' ⟨hb, ?_, (fun e he => by cases he), List.Pairwise.nil⟩ (fun j g e => by cases e)
      exact ⟨fun _ => by simpa [sp, ASpec.blks, freshX_nil] using hR, fun hn => absurd ⟨hp, rfl⟩ hn⟩
    · have : (some c' == some want) = false := by simpa using hcw
      rw [this]
      simp only [Bool.false_eq_true, if_false]
      exact hK _ w ⟨BelowX.refl _ _, ⟨fun h => absurd h.2 hcw, fun _ => rfl⟩, (fun e he => by cases he), List.Pairwise.nil⟩ (fun j g e => by cases e)
  · have hv := hc.2 hp
    rw [hv] at hy
    simp only [Region.wanted, hy]
    rw [if_neg (by simp [undef])]
    exact hK _ w ⟨BelowX.refl _ _, ⟨fun h => absurd h.1 hp, fun _ => rfl⟩, (fun e he => by cases he), List.Pairwise.nil⟩ (fun j g e => by cases e)
theorem gg1 {P : Program} {ops : Array Oper} {ds : List Nat} {w : World} {a : Act} {R : SRel} {op : Op} {ty : TypeId} {dst : Option Tmp} {pos : String} {after : Array Edge} {g d : Nat} {want c' : Bool} {N : Nat} (hz : a.tmps.size = N) (hg : (ops[g]?).bind (·.dst) = some d) (hc : TB.val ρ (slot a d) c') (hd : decide (d < N) = true) (h : c' = want → Does P ρ w op ty a R) :
    Goal P ops ρ ds w (sp (SRel.opt (c' = want) R)) ⟨dst, op, ty, pos, after, some (g, want)⟩ a := by
  have e : (True ∧ c' = want) = (c' = want) := by simp
  have := gn (R := R) (p := True) (op := op) (P := P) (ty := ty) (w := w) (ds := ds) (dst := dst) (pos := pos) (after := after) (want := want) hz hg ⟨fun _ => hc, fun h => absurd trivial h⟩ hd (fun hp => h hp.2)
  rwa [e] at this
theorem rng_nn {k : IntKind} {y : Int} (hk : decide (0 ≤ k.min) = true) (h : (TI k).val ρ v y) : 0 ≤ y := by
  have := (val_int h).2.1
  simp at hk
  omega
end

/-! ### The greatest, the least -/
section
variable {P : Program} {ρ : Heap} {w : World} {a : Act} {ty : TypeId}
theorem max2_int (k : IntKind) (x y : Int) : Builtin.max2 (.int k x) (.int k y) = pure (.int k (max x y)) := by
  have e : (if y > x then y else x) = max x y := by simp only [Int.max_def]; split <;> split <;> omega
  show (pure (.int k (if y > x then y else x)) : Sem Value) = _
  rw [e]
theorem d_max2 {k : IntKind} {X Y : Operand} {ts : Array TypeId} {x y : Int} (hx : (TI k).val ρ (a.eval X) x) (hy : (TI k).val ρ (a.eval Y) y) : Does P ρ w (.call { callee := .builtin .max, args := #[X, Y], argTypes := ts }) ty a ((TI k).sv (max x y)) := by
  refine does_same (run_builtin (fun cs => ?_)) (mk_int ?_ ?_)
  · have e : (#[X, Y].map a.eval) = #[.int k x, .int k y] := by simp [(val_int hx).1, (val_int hy).1]
    rw [e]
    simp [builtin, Builtin.max_, max2_int, Sem.run_bind, Result.andThen]
  · have := (val_int hx).2; have := (val_int hy).2
    simp only [Int.max_def]; (repeat' split) <;> omega
  · have := (val_int hx).2; have := (val_int hy).2
    simp only [Int.max_def]; (repeat' split) <;> omega
theorem d_max3 {k : IntKind} {X Y Z : Operand} {ts : Array TypeId} {x y z : Int} (hx : (TI k).val ρ (a.eval X) x) (hy : (TI k).val ρ (a.eval Y) y) (hz : (TI k).val ρ (a.eval Z) z) : Does P ρ w (.call { callee := .builtin .max, args := #[X, Y, Z], argTypes := ts }) ty a ((TI k).sv (max (max x y) z)) := by
  refine does_same (run_builtin (fun cs => ?_)) (mk_int ?_ ?_)
  · have e : (#[X, Y, Z].map a.eval) = #[.int k x, .int k y, .int k z] := by simp [(val_int hx).1, (val_int hy).1, (val_int hz).1]
    rw [e]
    simp [builtin, Builtin.max_, max2_int, Sem.run_bind, Result.andThen]
  · have := (val_int hx).2; have := (val_int hy).2; have := (val_int hz).2
    simp only [Int.max_def]; (repeat' split) <;> omega
  · have := (val_int hx).2; have := (val_int hy).2; have := (val_int hz).2
    simp only [Int.max_def]; (repeat' split) <;> omega
theorem d_max4 {k : IntKind} {X Y Z U : Operand} {ts : Array TypeId} {x y z u : Int} (hx : (TI k).val ρ (a.eval X) x) (hy : (TI k).val ρ (a.eval Y) y) (hz : (TI k).val ρ (a.eval Z) z) (hu : (TI k).val ρ (a.eval U) u) : Does P ρ w (.call { callee := .builtin .max, args := #[X, Y, Z, U], argTypes := ts }) ty a ((TI k).sv (max (max (max x y) z) u)) := by
  refine does_same (run_builtin (fun cs => ?_)) (mk_int ?_ ?_)
  · have e : (#[X, Y, Z, U].map a.eval) = #[.int k x, .int k y, .int k z, .int k u] := by simp [(val_int hx).1, (val_int hy).1, (val_int hz).1, (val_int hu).1]
    rw [e]
    simp [builtin, Builtin.max_, max2_int, Sem.run_bind, Result.andThen]
  · have := (val_int hx).2; have := (val_int hy).2; have := (val_int hz).2; have := (val_int hu).2
    simp only [Int.max_def]; (repeat' split) <;> omega
  · have := (val_int hx).2; have := (val_int hy).2; have := (val_int hz).2; have := (val_int hu).2
    simp only [Int.max_def]; (repeat' split) <;> omega
theorem min2_int (k : IntKind) (x y : Int) : Builtin.min2 (.int k x) (.int k y) = pure (.int k (min x y)) := by
  have e : (if y < x then y else x) = min x y := by simp only [Int.min_def]; split <;> split <;> omega
  show (pure (.int k (if y < x then y else x)) : Sem Value) = _
  rw [e]
theorem d_min2 {k : IntKind} {X Y : Operand} {ts : Array TypeId} {x y : Int} (hx : (TI k).val ρ (a.eval X) x) (hy : (TI k).val ρ (a.eval Y) y) : Does P ρ w (.call { callee := .builtin .min, args := #[X, Y], argTypes := ts }) ty a ((TI k).sv (min x y)) := by
  refine does_same (run_builtin (fun cs => ?_)) (mk_int ?_ ?_)
  · have e : (#[X, Y].map a.eval) = #[.int k x, .int k y] := by simp [(val_int hx).1, (val_int hy).1]
    rw [e]
    simp [builtin, Builtin.min_, min2_int, Sem.run_bind, Result.andThen]
  · have := (val_int hx).2; have := (val_int hy).2
    simp only [Int.min_def]; (repeat' split) <;> omega
  · have := (val_int hx).2; have := (val_int hy).2
    simp only [Int.min_def]; (repeat' split) <;> omega
theorem d_min3 {k : IntKind} {X Y Z : Operand} {ts : Array TypeId} {x y z : Int} (hx : (TI k).val ρ (a.eval X) x) (hy : (TI k).val ρ (a.eval Y) y) (hz : (TI k).val ρ (a.eval Z) z) : Does P ρ w (.call { callee := .builtin .min, args := #[X, Y, Z], argTypes := ts }) ty a ((TI k).sv (min (min x y) z)) := by
  refine does_same (run_builtin (fun cs => ?_)) (mk_int ?_ ?_)
  · have e : (#[X, Y, Z].map a.eval) = #[.int k x, .int k y, .int k z] := by simp [(val_int hx).1, (val_int hy).1, (val_int hz).1]
    rw [e]
    simp [builtin, Builtin.min_, min2_int, Sem.run_bind, Result.andThen]
  · have := (val_int hx).2; have := (val_int hy).2; have := (val_int hz).2
    simp only [Int.min_def]; (repeat' split) <;> omega
  · have := (val_int hx).2; have := (val_int hy).2; have := (val_int hz).2
    simp only [Int.min_def]; (repeat' split) <;> omega
theorem d_min4 {k : IntKind} {X Y Z U : Operand} {ts : Array TypeId} {x y z u : Int} (hx : (TI k).val ρ (a.eval X) x) (hy : (TI k).val ρ (a.eval Y) y) (hz : (TI k).val ρ (a.eval Z) z) (hu : (TI k).val ρ (a.eval U) u) : Does P ρ w (.call { callee := .builtin .min, args := #[X, Y, Z, U], argTypes := ts }) ty a ((TI k).sv (min (min (min x y) z) u)) := by
  refine does_same (run_builtin (fun cs => ?_)) (mk_int ?_ ?_)
  · have e : (#[X, Y, Z, U].map a.eval) = #[.int k x, .int k y, .int k z, .int k u] := by simp [(val_int hx).1, (val_int hy).1, (val_int hz).1, (val_int hu).1]
    rw [e]
    simp [builtin, Builtin.min_, min2_int, Sem.run_bind, Result.andThen]
  · have := (val_int hx).2; have := (val_int hy).2; have := (val_int hz).2; have := (val_int hu).2
    simp only [Int.min_def]; (repeat' split) <;> omega
  · have := (val_int hx).2; have := (val_int hy).2; have := (val_int hz).2; have := (val_int hu).2
    simp only [Int.min_def]; (repeat' split) <;> omega
end

/-! ### Own memory, told in parts -/
section
variable {P : Program} {C : Ctx} {Γ : Nat → SRel} {H : Nat → Res} {ρ : Heap} {w : World} {a : Act} {ty : TypeId}
theorem d_nilCheckB {α : Type} {A : Ty α} {E : TypeId} {x : α} {X : Operand} {v : Value} (hs : Sat C H ρ w) (id : Nat) (hH : H id = boxR E A x v) (h : a.eval X = v) : Does P ρ w (.nilCheck X) ty a (SRel.eq v) := by
  have hk := hs.ok id
  rw [hH] at hk
  obtain ⟨b, cs, rfl, _⟩ := box_own hk
  exact d_nilCheckO (p := ⟨b, 0, none⟩) h
/-- A part of own memory, handed to a callee that only reads. -/
theorem part_ro {α β : Type} {A : Ty α} {B : Ty β} {E : TypeId} {x : α} {y : β} {put : β → α} {v u : Value} {o : Nat} (hs : Sat C H ρ w) (id : Nat) (hH : H id = boxR E A x v) (h : PtrTo v o u) (hat : At A x o B y put) : (TP B).val (snap w) u y := by
  have hk := hs.ok id
  rw [hH] at hk
  obtain ⟨b, cs, rfl, ho, hr, _⟩ := box_own hk
  have := ptr_to h
  subst this
  refine Ty.val_of_one rfl ⟨⟨b, o, none⟩, (cs.drop o).take B.n, rfl, fun i v hi => ?_, B.mono hs.le (hat.get ρ cs hr)⟩
  rw [add_at, cellAt_snap]
  rw [List.getElem?_take] at hi
  split at hi
  · rw [List.getElem?_drop] at hi
    simp [World.cell?, ho, hi]
  · cases hi
theorem loose_boxR {α : Type} {A : Ty α} {E : TypeId} {x : α} {v : Value} (h : A.Flat) : (boxR E A x v).Loose := fun ρ σ o hk => by
  obtain ⟨b, cs, h0, h1, h2⟩ := hk
  exact ⟨b, cs, h0, h1, h _ _ _ _ h2⟩
end

/-! ### What is handed on -/
section
variable {H : Nat → Res} {u z v : Value} {r q s : Value → Res}
theorem own_at {id : Nat} (hv : u = z) (h : H id = r z) : H id = r u := by rw [hv]; exact h
theorem own1 {id : Nat} (h : H id = r v) : ∀ r', r' ∈ [r] → ∃ id, H id = r' v := fun r' hr => by
  rw [List.mem_singleton] at hr; subst hr; exact ⟨id, h⟩
theorem own2 {i j : Nat} (h : H i = r v) (k : H j = q v) : ∀ r', r' ∈ [r, q] → ∃ id, H id = r' v := fun r' hr => by
  rcases List.mem_cons.1 hr with rfl | hr
  · exact ⟨i, h⟩
  · exact own1 k _ hr
theorem own3 {i j l : Nat} (h : H i = r v) (k : H j = q v) (m : H l = s v) : ∀ r', r' ∈ [r, q, s] → ∃ id, H id = r' v := fun r' hr => by
  rcases List.mem_cons.1 hr with rfl | hr
  · exact ⟨i, h⟩
  · exact own2 k m _ hr
theorem apart2 {i j : Nat} (hij : decide (i = j) = false) (h : H i = r v) (k : H j = q v) : [r, q].Pairwise fun r q => ∃ i j, i ≠ j ∧ H i = r v ∧ H j = q v :=
  .cons (fun q' hq => by rw [List.mem_singleton] at hq; subst hq; exact ⟨i, j, by simpa using hij, h, k⟩) (List.pairwise_singleton _ _)
theorem apart3 {i j l : Nat} (hij : decide (i = j) = false) (hil : decide (i = l) = false) (hjl : decide (j = l) = false) (h : H i = r v) (k : H j = q v) (m : H l = s v) : [r, q, s].Pairwise fun r q => ∃ i j, i ≠ j ∧ H i = r v ∧ H j = q v :=
  .cons (fun q' hq => by
    rcases List.mem_cons.1 hq with rfl | hq
    · exact ⟨i, j, by simpa using hij, h, k⟩
    · rw [List.mem_singleton] at hq; subst hq; exact ⟨i, l, by simpa using hil, h, m⟩) (apart2 hjl k m)
end

/-! ### New memory that is only read from then on -/
section
variable {P : Program} {ρ : Heap} {w : World} {a : Act} {ty : TypeId}
theorem slR_ro {α : Type} {A : Ty α} {E : TypeId} {xs : List α} {v : Value} {w' : World} {τ : Heap} (h : (slR E A xs v).holds τ w') (hτ : τ.le (ρ.plus (fresh w w'))) (hle : ρ.le (snap w)) (hn : ∀ b, (slR E A xs v).blk = some b → w.heap.size ≤ b) : (TSl A).val (ρ.plus (fresh w w')) v xs := by
  obtain ⟨cs, h0, h1, ⟨rfl, rfl⟩ | ⟨b, cap, cur, rfl, ho, hlc, hcm, hcs, htk, _⟩⟩ := sl_own h
  · exact Ty.val_of_one rfl ⟨none, 0, 0, rfl, rfl, by simp, fun _ => rfl, fun a h => by cases h⟩
  · refine Ty.val_of_one rfl ⟨some ⟨b, 0, none⟩, xs.length, cap, rfl, rfl, ⟨hlc, by unfold maxLen at hcm; omega⟩, (fun h => by cases h), fun a' e i x hi => ?_⟩
    cases e
    refine ⟨chunk A.n i cs, fun j u hj => ?_, A.mono hτ (h1 i x hi)⟩
    have hb : w.heap.size ≤ b := hn b rfl
    have hρ' : (ρ.plus (fresh w w')) b = w'.heap[b]? := by
      unfold Heap.plus
      rw [snap_none hle hb]
      simp only [fresh]
      rw [if_neg (by omega)]
    rw [add_at, add_at]
    unfold chunk at hj
    rw [List.getElem?_take] at hj
    split at hj
    · rw [List.getElem?_drop] at hj
      have := take_cell htk hj
      unfold cellAt
      simp [hρ', ho, this]
    · cases hj
theorem plus_le {σ τ : Heap} (h : σ.le τ) : (ρ.plus σ).le (ρ.plus τ) := fun b o e => by
  unfold Heap.plus at *
  cases hr : ρ b with
  | some _ => rw [hr] at e; exact e
  | none => rw [hr] at e; exact h b o e
theorem freshX_le (w w' : World) (bs : List Nat) : (freshX w w' bs).le (fresh w w') := fun b o e => by
  simp only [freshX] at e
  simp only [fresh]
  split at e
  · cases e
  · rename_i h
    rw [if_neg h]
    split at e
    · cases e
    · exact e
theorem d_callR {α : Type} {A : Ty α} {E : TypeId} {xs : List α} {f : FuncId} {args : Array Operand} {ts : Array TypeId} {vs : Array Value} (hf : FnIs P f) (hle : ρ.le (snap w)) (hv : args.map a.eval = vs) (hc : Calls P f vs w (Ret [] w ρ SRel.any [slR E A xs])) :
    Does P ρ w (.call { callee := .value (.func f), args := args, argTypes := ts }) ty a ((TSl A).sv xs) := fun dst pos after guard Q K hK =>
  wp_call hf hv hc fun v w' h => hK v w' h.below (by
    obtain ⟨h1, h2⟩ := h.own _ (List.mem_singleton.2 rfl)
    exact slR_ro h1 (plus_le (freshX_le _ _ _)) hle h2)
theorem d_callRF {α : Type} {A : Ty α} {E : TypeId} {xs : List α} {f : FuncId} {args : Array Operand} {ts : Array TypeId} {vs : Array Value} (hf : FnIs P f) (hle : ρ.le (snap w)) (hl : A.Flat) (hv : args.map a.eval = vs) (hc : Calls P f vs w (Ret [] w (snap w) SRel.any [slR E A xs])) :
    Does P ρ w (.call { callee := .value (.func f), args := args, argTypes := ts }) ty a ((TSl A).sv xs) := fun dst pos after guard Q K hK =>
  wp_call hf hv hc fun v w' h => hK v w' h.below (by
    obtain ⟨h1, h2⟩ := h.own _ (List.mem_singleton.2 rfl)
    refine slR_ro (τ := fun _ => none) ?_ (fun b o e => by cases e) hle h2
    have h1 : (slR E A xs v).holds _ w' := h1
    unfold Res.holds at h1 ⊢
    cases hb : (slR E A xs v).blk with
    | none => rw [hb] at h1; exact loose_slR hl _ _ _ h1
    | some b =>
      rw [hb] at h1
      obtain ⟨o, ho, hok, _⟩ := h1
      exact ⟨o, ho, loose_slR hl _ _ _ hok, rfl⟩)
end

/-! ### Functions as values -/
section
variable {P : Program} {ρ : Heap} {w : World} {a : Act} {ty : TypeId}
/-- A function's value: each call of it does as this plain function. -/
def fn1 {α β : Type} (P : Program) (A : Ty α) (B : Ty β) (f : α → Option β) : SRel :=
  ⟨fun ρ v => ∃ k caps, v = .func (.func k) #[] caps ∧ FnIs P k ∧ ∀ w σ u x y, ρ.le (snap w) → σ.le (snap w) → A.val σ u x → f x = some y → Calls P k (#[u] ++ caps) w (Ret [] w (snap w) (B.sv y) []),
   fun h ⟨k, caps, e, hk, hc⟩ => ⟨k, caps, e, hk, fun w σ u x y hle => hc w σ u x y (Heap.le_trans h hle)⟩⟩
def fn2 {α γ β : Type} (P : Program) (A : Ty α) (G : Ty γ) (B : Ty β) (f : α → γ → Option β) : SRel :=
  ⟨fun ρ v => ∃ k caps, v = .func (.func k) #[] caps ∧ FnIs P k ∧ ∀ w σ u s x z y, ρ.le (snap w) → σ.le (snap w) → A.val σ u x → G.val σ s z → f x z = some y → Calls P k (#[u, s] ++ caps) w (Ret [] w (snap w) (B.sv y) []),
   fun h ⟨k, caps, e, hk, hc⟩ => ⟨k, caps, e, hk, fun w σ u s x z y hle => hc w σ u s x z y (Heap.le_trans h hle)⟩⟩
def fn3 {α γ δ β : Type} (P : Program) (A : Ty α) (G : Ty γ) (D : Ty δ) (B : Ty β) (f : α → γ → δ → Option β) : SRel :=
  ⟨fun ρ v => ∃ k caps, v = .func (.func k) #[] caps ∧ FnIs P k ∧ ∀ w σ u s q x z r y, ρ.le (snap w) → σ.le (snap w) → A.val σ u x → G.val σ s z → D.val σ q r → f x z r = some y → Calls P k (#[u, s, q] ++ caps) w (Ret [] w (snap w) (B.sv y) []),
   fun h ⟨k, caps, e, hk, hc⟩ => ⟨k, caps, e, hk, fun w σ u s q x z r y hle => hc w σ u s q x z r y (Heap.le_trans h hle)⟩⟩
theorem run_callV {args : Array Operand} {ts : Array TypeId} {vs caps : Array Value} {X : Operand} {k : FuncId} (hX : a.eval X = .func (.func k) #[] caps) (hf : FnIs P k) (hv : args.map a.eval = vs) :
    ∀ dst pos after guard, (execOp a.eval ⟨dst, .call { callee := .value X, args := args, argTypes := ts }, ty, pos, after, guard⟩).run P w = .ok (.enter k (vs ++ caps)) w := by
  intro _ _ _ _
  simp only [execOp, resolve, Sem.run_bind, hv]
  simp [Deferred.ofValue, hX, invoke, Result.andThen]
  exact hf _ w
theorem d_callV1 {α β : Type} {A : Ty α} {B : Ty β} {f : α → Option β} {X U : Operand} {ts : Array TypeId} {x : α} {y : β} (hle : ρ.le (snap w)) (hB : B.Flat) (hX : (fn1 P A B f).p ρ (a.eval X)) (hU : A.val ρ (a.eval U) x) (hf : f x = some y) :
    Does P ρ w (.call { callee := .value X, args := #[U], argTypes := ts }) ty a (B.sv y) := fun dst pos after guard Q K hK => by
  obtain ⟨k, caps, e, hk, hc⟩ := hX
  unfold Oper.wp
  rw [run_callV e hk mapA1]
  refine (hc w ρ _ x y hle hle hU hf).mono fun e w' he => ?_
  cases e with
  | returned v => exact hK v w' he.below (hB.val _ he.rel)
  | panicked _ => exact he.elim
  | outgrown => exact he.elim
theorem d_callV2 {α γ β : Type} {A : Ty α} {G : Ty γ} {B : Ty β} {f : α → γ → Option β} {X U S : Operand} {ts : Array TypeId} {x : α} {z : γ} {y : β} (hle : ρ.le (snap w)) (hB : B.Flat) (hX : (fn2 P A G B f).p ρ (a.eval X)) (hU : A.val ρ (a.eval U) x) (hS : G.val ρ (a.eval S) z) (hf : f x z = some y) :
    Does P ρ w (.call { callee := .value X, args := #[U, S], argTypes := ts }) ty a (B.sv y) := fun dst pos after guard Q K hK => by
  obtain ⟨k, caps, e, hk, hc⟩ := hX
  unfold Oper.wp
  rw [run_callV e hk mapA2]
  refine (hc w ρ _ _ x z y hle hle hU hS hf).mono fun e w' he => ?_
  cases e with
  | returned v => exact hK v w' he.below (hB.val _ he.rel)
  | panicked _ => exact he.elim
  | outgrown => exact he.elim
theorem d_callV3 {α γ δ β : Type} {A : Ty α} {G : Ty γ} {D : Ty δ} {B : Ty β} {f : α → γ → δ → Option β} {X U S V : Operand} {ts : Array TypeId} {x : α} {z : γ} {r : δ} {y : β} (hle : ρ.le (snap w)) (hB : B.Flat) (hX : (fn3 P A G D B f).p ρ (a.eval X)) (hU : A.val ρ (a.eval U) x) (hS : G.val ρ (a.eval S) z) (hV : D.val ρ (a.eval V) r) (hf : f x z r = some y) :
    Does P ρ w (.call { callee := .value X, args := #[U, S, V], argTypes := ts }) ty a (B.sv y) := fun dst pos after guard Q K hK => by
  obtain ⟨k, caps, e, hk, hc⟩ := hX
  unfold Oper.wp
  rw [run_callV e hk mapA3]
  refine (hc w ρ _ _ _ x z r y hle hle hU hS hV hf).mono fun e w' he => ?_
  cases e with
  | returned v => exact hK v w' he.below (hB.val _ he.rel)
  | panicked _ => exact he.elim
  | outgrown => exact he.elim
/-- From a contract that keeps to what it was told, to one that may read all. -/
theorem wide {k : FuncId} {vs : Array Value} {σ : Heap} {β : Type} {B : Ty β} {y : β} (hB : B.Flat) (h : Calls P k vs w (Ret [] w σ (B.sv y) [])) : Calls P k vs w (Ret [] w (snap w) (B.sv y) []) :=
  h.mono fun e w' he => by
    cases e with
    | returned v => exact ⟨he.below, hB.val _ he.rel, (fun r hr => by cases hr), List.Pairwise.nil⟩
    | panicked _ => exact he.elim
    | outgrown => exact he.elim
theorem fv1 {α β : Type} {A : Ty α} {B : Ty β} {f : α → Option β} {k : FuncId} (hk : FnIs P k) (hB : B.Flat) (h : ∀ w σ u x y, σ.le (snap w) → A.val σ u x → f x = some y → Calls P k #[u] w (Ret [] w σ (B.sv y) [])) : (fn1 P A B f).p ρ (.func (.func k) #[] #[]) :=
  ⟨k, #[], rfl, hk, fun w σ u x y hle hσ hu hf => by simpa using wide hB (h w σ u x y hσ hu hf)⟩
theorem fv2 {α γ β : Type} {A : Ty α} {G : Ty γ} {B : Ty β} {f : α → γ → Option β} {k : FuncId} (hk : FnIs P k) (hB : B.Flat) (h : ∀ w σ u s x z y, σ.le (snap w) → A.val σ u x → G.val σ s z → f x z = some y → Calls P k #[u, s] w (Ret [] w σ (B.sv y) [])) : (fn2 P A G B f).p ρ (.func (.func k) #[] #[]) :=
  ⟨k, #[], rfl, hk, fun w σ u s x z y hle hσ hu hs hf => by simpa using wide hB (h w σ u s x z y hσ hu hs hf)⟩
theorem fv3 {α γ δ β : Type} {A : Ty α} {G : Ty γ} {D : Ty δ} {B : Ty β} {f : α → γ → δ → Option β} {k : FuncId} (hk : FnIs P k) (hB : B.Flat) (h : ∀ w σ u s q x z r y, σ.le (snap w) → A.val σ u x → G.val σ s z → D.val σ q r → f x z r = some y → Calls P k #[u, s, q] w (Ret [] w σ (B.sv y) [])) : (fn3 P A G D B f).p ρ (.func (.func k) #[] #[]) :=
  ⟨k, #[], rfl, hk, fun w σ u s q x z r y hle hσ hu hs hq hf => by simpa using wide hB (h w σ u s q x z r y hσ hu hs hq hf)⟩
end

/-! ### What a closure holds, behind its arguments -/
theorem calls_eq {P : Program} {k : FuncId} {x y : Array Value} {w : World} {R : Ending → World → Prop} (e : x = y) (h : Calls P k y w R) : Calls P k x w R := by rw [e]; exact h
theorem app1_1 {u x : Value} : (#[u] ++ #[x] : Array Value) = #[u, x] := by simp
theorem app1_2 {u x y : Value} : (#[u] ++ #[x, y] : Array Value) = #[u, x, y] := by simp
theorem app1_3 {u x y z : Value} : (#[u] ++ #[x, y, z] : Array Value) = #[u, x, y, z] := by simp
theorem app1_4 {u x y z s : Value} : (#[u] ++ #[x, y, z, s] : Array Value) = #[u, x, y, z, s] := by simp
theorem app2_1 {u v x : Value} : (#[u, v] ++ #[x] : Array Value) = #[u, v, x] := by simp
theorem app2_2 {u v x y : Value} : (#[u, v] ++ #[x, y] : Array Value) = #[u, v, x, y] := by simp
theorem app2_3 {u v x y z : Value} : (#[u, v] ++ #[x, y, z] : Array Value) = #[u, v, x, y, z] := by simp
theorem app3_1 {u v r x : Value} : (#[u, v, r] ++ #[x] : Array Value) = #[u, v, r, x] := by simp
theorem app3_2 {u v r x y : Value} : (#[u, v, r] ++ #[x, y] : Array Value) = #[u, v, r, x, y] := by simp

/-! ### Parts of slices -/
section
variable {P : Program} {ρ : Heap} {w : World} {a : Act} {ty : TypeId}
theorem elem_sl {t e : TypeId} (hu : P.underlying t = some (.slice e)) : P.elem t = e := by simp [Program.elem, hu]
theorem elem_arr {t e : TypeId} {m : Nat} (hu : P.underlying t = some (.array m e)) : P.elem t = e ∧ P.arrayLen t = m := by simp [Program.elem, Program.arrayLen, hu]
theorem run_sl {t : TypeId} {X : Operand} {lo hi : Option Operand} {v u : Value} (hX : a.eval X = u) (h : (Instr.sliceAt t u (lo.map a.eval) (hi.map a.eval) none).run P w = .ok v w) : ∀ dst pos after guard, (execOp a.eval ⟨dst, .slice t X lo hi none, ty, pos, after, guard⟩).run P w = .ok (.value v) w := by
  intro _ _ _ _
  simp only [execOp, hX, Sem.run_bind, Option.map_none, h, Result.andThen]
  rfl
/-- A whole array as a slice, only to be read. -/
theorem d_sliceA {α : Type} {A : Ty α} {t e : TypeId} {m : Nat} {X : Operand} {xs : List α} (hu : P.underlying t = some (.array m e)) (he : TyIs P e A.n A.agg) (hm : decide (m ≤ 9223372036854775807) = true) (h : (TP (TArr m A)).val ρ (a.eval X) xs) :
    Does P ρ w (.slice t X none none none) ty a ((TSl A).sv xs) := by
  obtain ⟨p, ds, h1, h2, h3⟩ := Ty.val_one rfl h
  have h1 : a.eval X = .pointer (some p) := by simpa using h1
  obtain ⟨e1, e2⟩ := elem_arr hu
  have hrun := run_sliceAt_array_all (P := P) w t p (by rw [e1, e2]; exact hu)
  rw [e1, e2, he.size] at hrun
  refine does_same (run_sl h1 hrun) (Ty.val_of_one rfl ⟨some (if m = 0 then p else p.add (0 * A.n)), m, m, ?_, h3.2.1.symm, ⟨Nat.le_refl _, by simpa using hm⟩, (fun h => by cases h), fun a' ha i x hi => ?_⟩)
  · simp [slicedAt]
  · cases ha
    have hlt : i < m := by rw [← h3.2.1]; exact (List.getElem?_eq_some_iff.1 hi).1
    refine ⟨chunk A.n i ds, ?_, h3.2.2 i x hi⟩
    have hp : (if m = 0 then p else p.add (0 * A.n)) = p := by
      split
      · rfl
      · simp [Addr.add]
    rw [hp]
    unfold chunk
    exact (h2.drop _).take _
theorem sl_part {α : Type} {A : Ty α} {p : Option Addr} {len cap l : Nat} {xs : List α} (hl : l ≤ len) (h : (TSl A).rep ρ [.slice p len cap] xs) (ys : List α) (hy : ∀ i x, ys[i]? = some x → xs[l + i]? = some x) (n : Nat) (hn : n = ys.length) (hc : l + n ≤ cap) :
    (TSl A).val ρ (.slice (if cap = l then p else p.map (·.add (l * A.n))) n (cap - l)) ys := by
  obtain ⟨q, k, c, h1, h2, h3, h4, h5⟩ := h
  simp only [List.cons.injEq, Value.slice.injEq, and_true] at h1
  obtain ⟨rfl, rfl, rfl⟩ := h1
  refine Ty.val_of_one rfl ⟨_, _, _, rfl, hn, ⟨by omega, by omega⟩, fun hq => ?_, fun a' ha i x hi => ?_⟩
  · split at hq
    · omega
    · cases p with
      | none => have := h4 rfl; omega
      | some p => cases hq
  · have hx := hy i x hi
    have hlt := (List.getElem?_eq_some_iff.1 hi).1
    cases p with
    | none => have := h4 rfl; omega
    | some p =>
      have hne : ¬ cap = l := by omega
      rw [if_neg hne] at ha
      cases ha
      obtain ⟨ds, hs, hr⟩ := h5 p rfl (l + i) x hx
      refine ⟨ds, ?_, hr⟩
      rw [Addr.add_add]
      rwa [← Nat.add_mul]
theorem d_sliceFrom {α : Type} {A : Ty α} {t e : TypeId} {X L : Operand} {xs : List α} {k : IntKind} {l : Int} (hu : P.underlying t = some (.slice e)) (he : TyIs P e A.n A.agg) (h : (TSl A).val ρ (a.eval X) xs) (hL : (TI k).val ρ (a.eval L) l) (hl : (decide (0 ≤ l) && decide (l ≤ (xs.length : Int))) = true) :
    Does P ρ w (.slice t X (some L) none none) ty a ((TSl A).sv (xs.drop l.toNat)) := by
  simp only [Bool.and_eq_true, decide_eq_true_eq] at hl
  obtain ⟨p, len, cap, h1, h2, h3, h4, h5⟩ := Ty.val_one rfl h
  have h1 : a.eval X = .slice p len cap := by simpa using h1
  have e1 := elem_sl hu
  have hrun := run_slice_l (P := P) (w := w) t p len cap (by rw [e1]; exact hu) k l hl.1 (by omega)
  rw [e1, he.size] at hrun
  refine does_same (run_sl h1 (by rw [run_sliceAt_slice (w := w) t _ _ _ _ (by rw [e1]; exact hu)]; simp only [Option.map_some, Option.map_none, (val_int hL).1]; exact hrun)) ?_
  have := sl_part (ρ := ρ) (A := A) (p := p) (len := len) (cap := cap) (l := l.toNat) (xs := xs) (by omega) ⟨p, len, cap, rfl, h2, h3, h4, h5⟩ (xs.drop l.toNat) (fun i x hi => by rw [List.getElem?_drop] at hi; exact hi) (len - l.toNat) (by rw [List.length_drop]; omega) (by omega)
  exact this
theorem d_sliceTo {α : Type} {A : Ty α} {t e : TypeId} {X U : Operand} {xs : List α} {k : IntKind} {l : Int} (hu : P.underlying t = some (.slice e)) (he : TyIs P e A.n A.agg) (h : (TSl A).val ρ (a.eval X) xs) (hU : (TI k).val ρ (a.eval U) l) (hl : (decide (0 ≤ l) && decide (l ≤ (xs.length : Int))) = true) :
    Does P ρ w (.slice t X none (some U) none) ty a ((TSl A).sv (xs.take l.toNat)) := by
  simp only [Bool.and_eq_true, decide_eq_true_eq] at hl
  obtain ⟨p, len, cap, h1, h2, h3, h4, h5⟩ := Ty.val_one rfl h
  have h1 : a.eval X = .slice p len cap := by simpa using h1
  have e1 := elem_sl hu
  have hrun := run_slice_h (P := P) (w := w) t p len cap (by rw [e1]; exact hu) k l hl.1 (by omega)
  rw [e1, he.size] at hrun
  refine does_same (run_sl h1 (by rw [run_sliceAt_slice (w := w) t _ _ _ _ (by rw [e1]; exact hu)]; simp only [Option.map_some, Option.map_none, (val_int hU).1]; exact hrun)) ?_
  have := sl_part (ρ := ρ) (A := A) (p := p) (len := len) (cap := cap) (l := 0) (xs := xs) (by omega) ⟨p, len, cap, rfl, h2, h3, h4, h5⟩ (xs.take l.toNat) (fun i x hi => by rw [List.getElem?_take] at hi; split at hi <;> simp_all) (l.toNat - 0) (by rw [List.length_take]; omega) (by omega)
  exact this
theorem d_sliceBoth {α : Type} {A : Ty α} {t e : TypeId} {X L U : Operand} {xs : List α} {k j : IntKind} {l u : Int} (hu : P.underlying t = some (.slice e)) (he : TyIs P e A.n A.agg) (h : (TSl A).val ρ (a.eval X) xs) (hL : (TI k).val ρ (a.eval L) l) (hU : (TI j).val ρ (a.eval U) u) (hl : (decide (0 ≤ l) && decide (l ≤ u) && decide (u ≤ (xs.length : Int))) = true) :
    Does P ρ w (.slice t X (some L) (some U) none) ty a ((TSl A).sv ((xs.take u.toNat).drop l.toNat)) := by
  simp only [Bool.and_eq_true, decide_eq_true_eq] at hl
  obtain ⟨p, len, cap, h1, h2, h3, h4, h5⟩ := Ty.val_one rfl h
  have h1 : a.eval X = .slice p len cap := by simpa using h1
  have e1 := elem_sl hu
  have hrun := run_slice_lh (P := P) (w := w) t p len cap (by rw [e1]; exact hu) k j l u hl.1.1 hl.1.2 (by omega)
  rw [e1, he.size] at hrun
  refine does_same (run_sl h1 (by rw [run_sliceAt_slice (w := w) t _ _ _ _ (by rw [e1]; exact hu)]; simp only [Option.map_some, Option.map_none, (val_int hL).1, (val_int hU).1]; exact hrun)) ?_
  have := sl_part (ρ := ρ) (A := A) (p := p) (len := len) (cap := cap) (l := l.toNat) (xs := xs) (by omega) ⟨p, len, cap, rfl, h2, h3, h4, h5⟩ ((xs.take u.toNat).drop l.toNat) (fun i x hi => by rw [List.getElem?_drop, List.getElem?_take] at hi; split at hi <;> simp_all) (u.toNat - l.toNat) (by rw [List.length_drop, List.length_take]; omega) (by omega)
  exact this
end

/-! ### A slice of zero values -/
section
variable {P : Program} {ops : Array Oper} {ρ : Heap} {ds : List Nat} {w : World} {a : Act} {ty : TypeId} {dst : Option Tmp} {pos : String} {after : Array Edge}
theorem made_flat (ρ : Heap) {α : Type} {A : Ty α} {zc : List Value} {x0 : α} (h0 : ZeroC A zc x0) (m : Nat) : madeCells (pack A.agg zc).cells (m * A.n) = ((List.replicate m zc).flatten).toArray := by
  have hl := A.len (h0 ρ)
  have hzc : (pack A.agg zc).cells = zc.toArray := by
    have := Ty.val_cells (T := A) (v := pack A.agg zc) ⟨zc, h0 ρ, rfl⟩
    cases hg : A.agg with
    | true => simp [pack, Value.cells]
    | false =>
      have hn := A.one hg
      rw [hn] at hl
      match zc, hl with
      | [c], _ =>
        have hp := A.plain (h0 ρ) c (by simp)
        simp [pack]
        cases c <;> simp [Value.cells, Value.oneCell'] at *
  rw [hzc]
  unfold madeCells
  apply Array.ext'
  simp only [Array.toList_map, Array.toList_range]
  apply List.ext_getElem?
  intro j
  rw [List.getElem?_map]
  by_cases hj : j < m * A.n
  · have hn : 0 < A.n := by
      rcases Nat.eq_zero_or_pos A.n with h | h
      · rw [h] at hj; omega
      · exact h
    have hq : j / A.n < m := Nat.div_lt_of_lt_mul (by rw [Nat.mul_comm]; exact hj)
    have hc := chunk_replicate (cs := zc) hq
    have hm : j % A.n < A.n := Nat.mod_lt _ hn
    have h3 : (chunk zc.length (j / A.n) (List.replicate m zc).flatten)[j % A.n]? = ((List.replicate m zc).flatten)[j]? := by
      unfold chunk
      rw [List.getElem?_take, if_pos (by omega), List.getElem?_drop, hl, Nat.div_add_mod' j A.n]
    rw [← h3, hc]
    simp [List.getElem?_range, hj, hl, getElem!_def, List.getElem?_eq_getElem (show j % A.n < zc.length by omega)]
  · rw [List.getElem?_eq_none (l := (List.replicate m zc).flatten) (by simp [hl]; omega)]
    simp [List.getElem?_range, hj]
theorem g_makeSl {α : Type} {A : Ty α} {t e : TypeId} {zc : List Value} {x0 : α} {L M : Operand} {k j : IntKind} {n : Int} {id by_ : Nat} (hle : ρ.le (snap w)) (hu : P.underlying t = some (.slice e)) (hi : (P.info? e).map (fun i => (i.zero, i.size, i.bytes)) = some (some (pack A.agg zc), A.n, by_))
    (hby : decide (by_ ≤ 65536) = true) (h0 : ZeroC A zc x0) (hL : (TI k).val ρ (a.eval L) n) (hM : (TI j).val ρ (a.eval M) n) (hn : (decide (0 ≤ n) && decide (n ≤ most)) = true) :
    Goal P ops ρ ds w (sO SRel.any [(id, slR e A (List.replicate n.toNat x0))]) ⟨dst, .makeSlice t L M, ty, pos, after, none⟩ a := by
  simp only [Bool.and_eq_true, decide_eq_true_eq] at hn hby
  obtain ⟨hn0, hn1⟩ := hn
  unfold most at hn1
  obtain ⟨i, h1, h2, h3, h4⟩ := info_get hi
  subst h4
  have hb : (i.bytes : Int) * n ≤ 281474976710656 := by
    have h5 : (i.bytes : Int) * n ≤ (65536 : Int) * n := Int.mul_le_mul_of_nonneg_right (by omega) hn0
    omega
  have hr : ∀ dst pos after guard, (execOp a.eval ⟨dst, .makeSlice t L M, ty, pos, after, guard⟩).run P w = .ok (.value (.slice (some ⟨w.heap.size, 0, none⟩) n.toNat n.toNat)) (w.alloc (.cells (madeCells (pack A.agg zc).cells (n.toNat * i.size)) e)) := by
    intro _ _ _ _
    have := run_make (P := P) w t e i _ hu h1 h2 k j n n hn0 (Int.le_refl _) hb (by omega)
    simp only [execOp, (val_int hL).1, (val_int hM).1, Sem.run_bind, this, Result.andThen]
    rfl
  rw [h3, made_flat ρ h0] at hr
  refine g_own hle hr rfl ?_
  have hl := A.len (h0 ρ)
  refine ⟨(List.replicate n.toNat zc).flatten, by simp [hl], fun q x hq => ?_, .inr ⟨w.heap.size, n.toNat, _, by simp, rfl, by simp, by unfold maxLen; omega, by simp [hl], List.take_of_length_le (by simp [hl])⟩⟩
  rw [List.getElem?_replicate] at hq
  split at hq
  · cases hq
    rename_i hm
    rw [← hl, chunk_replicate hm]; exact h0 ρ
  · cases hq
theorem d_makeF {R : SRel} {k : FuncId} {caps : Array Operand} (h : R.p ρ (.func (.func k) #[] (caps.map a.eval))) : Does P ρ w (.makeFunc (.func k) #[] caps) ty a R :=
  does_same (v := .func (.func k) #[] (caps.map a.eval)) (fun _ _ _ _ => by simp [execOp, Instr.makeFunc, Sem.run_bind, Result.andThen]) h
end

/-! ### Calls that turn the caller's memory -/
section
variable {P : Program} {ops : Array Oper} {ρ : Heap} {ds : List Nat} {w : World} {a : Act} {ty : TypeId} {dst : Option Tmp} {pos : String} {after : Array Edge} {C : Ctx} {Γ : Nat → SRel} {H : Nat → Res} {Q : Exit → Act → World → Prop} {rest : List Oper}
theorem g_nil {α : Type} {A : Ty α} {E : TypeId} {id : Nat} {op : Op} (hr : ∀ dst pos after guard, (execOp a.eval ⟨dst, op, ty, pos, after, guard⟩).run P w = .ok (.value (.slice none 0 0)) w) :
    Goal P ops ρ ds w (sO SRel.any [(id, slR E A [])]) ⟨dst, op, ty, pos, after, none⟩ a := by
  intro Q K hK
  simp only [Region.wanted, if_true]
  unfold Oper.wp
  rw [hr]
  refine hK _ _ ⟨BelowX.refl _ _, trivial, fun e he => ?_, List.pairwise_singleton _ _⟩ (fun j g e => by cases e)
  simp only [sO, List.mem_singleton] at he
  subst he
  refine ⟨?_, fun b hb => by simp [slR, blkOf] at hb⟩
  unfold Res.holds
  exact ⟨[], by simp, fun i x h => by simp at h, .inl ⟨rfl, rfl⟩⟩
theorem g_nilSl {α : Type} {A : Ty α} {E : TypeId} {id : Nat} : Goal P ops ρ ds w (sO SRel.any [(id, slR E A [])]) ⟨dst, .assign (.const (.slice none 0 0)), ty, pos, after, none⟩ a := g_nil fun _ _ _ _ => rfl
theorem g_nilSlM {α : Type} {A : Ty α} {E : TypeId} {id : Nat} : Goal P ops ρ ds w (sO SRel.any [(id, slR E A [])]) ⟨dst, .move (.const (.slice none 0 0)), ty, pos, after, none⟩ a := g_nil fun _ _ _ _ => rfl
theorem d_nilSl {α : Type} {A : Ty α} : Does P ρ w (.assign (.const (.slice none 0 0))) ty a ((TSl A).sv []) :=
  does_same (v := .slice none 0 0) (fun _ _ _ _ => rfl) (Ty.val_of_one rfl ⟨none, 0, 0, rfl, rfl, ⟨Nat.le_refl _, by decide⟩, fun _ => rfl, fun a h => by cases h⟩)
theorem d_nilSlM {α : Type} {A : Ty α} : Does P ρ w (.move (.const (.slice none 0 0))) ty a ((TSl A).sv []) :=
  does_same (v := .slice none 0 0) (fun _ _ _ _ => rfl) (Ty.val_of_one rfl ⟨none, 0, 0, rfl, rfl, ⟨Nat.le_refl _, by decide⟩, fun _ => rfl, fun a h => by cases h⟩)
theorem sat_mut {r : Res} {n : Nat} (id : Nat) (hm : r.holds (snapX r.blk.toList w) w) : Sat ⟨w, r.blk.toList, n, snapX r.blk.toList w⟩ (HL [(id, r)]) (snapX r.blk.toList w) w where
  le := snapX_le _ _
  ok := fun i => by
    unfold HL
    cases hb : Nat.beq id i with
    | true => exact hm
    | false => exact trivial
  apart := fun i j c hij hi => by
    unfold HL at *
    cases hb : Nat.beq id i with
    | false => rw [hb] at hi; simp [HL, Res.none] at hi
    | true =>
      cases hc : Nat.beq id j with
      | false => simp [HL, Res.none]
      | true =>
        have := Nat.eq_of_beq_eq_true hb
        have := Nat.eq_of_beq_eq_true hc
        omega
  mine := fun i c hi => by
    unfold HL at hi
    cases hb : Nat.beq id i with
    | false => rw [hb] at hi; simp [HL, Res.none] at hi
    | true =>
      rw [hb] at hi
      exact .inr (by have hi : r.blk = some c := hi; simp [hi])
  fr := BelowX.refl _ _
  lim := fun c o e => .inl e
  sle := snapX_le _ _
theorem mut_on {w0 : World} {n : Nat} {ex : List Nat} {σ : Heap} {r : Res} (hs : Sat ⟨w0, ex, n, σ⟩ H ρ w) (id : Nat) (hH : H id = r) (hl : r.Loose) (hex : r.blk.toList = ex) : r.holds (snapX ex w0) w := by
  have hk := hs.ok id
  rw [hH] at hk
  unfold Res.holds at hk ⊢
  cases hb : r.blk with
  | none => rw [hb] at hk; exact hl _ _ _ hk
  | some b =>
    rw [hb] at hk
    obtain ⟨o, ho, hok, _⟩ := hk
    exact ⟨o, ho, hl _ _ _ hok, by rw [← hex, hb]; simp [snapX]⟩
theorem T.finM {fn : Func} {w0 : World} {n : Nat} {ex : List Nat} {σ : Heap} {R : SRel} {r : Res} (h : ∀ ρ a w, St ⟨w0, ex, n, σ⟩ Γ H ρ a w → ∃ v, (results fn a.tmps).run P w = .ok v w ∧ (∀ σ, R.p σ v) ∧ r.holds (snapX ex w0) w) :
    T ⟨w0, ex, n, σ⟩ Γ H (bodyPost P fn (RetM ex w0 R r) .ret) := fun ρ a w st =>
  let ⟨v, h1, h2, h3⟩ := h ρ a w st
  ⟨st.defers, v, h1, st.sat.fr, h2, h3⟩
theorem hm_at {r : Value → Res} {u z : Value} (e : u = z) (h : (r z).holds (snapX (blkOf z).toList w) w) : (r u).holds (snapX (blkOf u).toList w) w := by rw [e]; exact h
theorem le_at {u z : Value} (e : u = z) (h : ρ.le (snapX (blkOf z).toList w)) : ρ.le (snapX (blkOf u).toList w) := by rw [e]; exact h
theorem call_at {r : Value → Res} {u z : Value} {f : FuncId} {vs : Array Value} {R : SRel} (e : u = z) (h : Calls P f vs w (RetM (blkOf u).toList w R (r u))) : Calls P f vs w (RetM (blkOf z).toList w R (r z)) := by rw [← e]; exact h
theorem T.callB {r r' : Res} {f : FuncId} {args : Array Operand} {ts : Array TypeId} {R : SRel} {dst : Option Tmp} (id : Nat) (hf : FnIs P f) (hd : (match dst with | some d => decide (d < C.n) | none => true) = true) (hH : H id = r) (hl : r.Loose) (hl' : r'.Loose) (hb : r'.blk = r.blk)
    (h : ∀ ρ a w, St C Γ H ρ a w → ρ.le (snapX r.blk.toList w) → r.holds (snapX r.blk.toList w) w → Calls P f (args.map a.eval) w (RetM r.blk.toList w R r'))
    (k : T C (match dst with | some d => upd Γ d R | none => Γ) (updH H id r') (wpList P ops Q rest)) :
    T C Γ H (wpList P ops Q (⟨dst, .call { callee := .value (.func f), args := args, argTypes := ts }, ty, pos, after, none⟩ :: rest)) := by
  intro ρ a w st
  have hk := st.sat.ok id
  rw [hH] at hk
  have hm : r.holds (snapX r.blk.toList w) w := by
    unfold Res.holds at hk ⊢
    cases hx : r.blk with
    | none => rw [hx] at hk; exact hl _ _ _ hk
    | some b =>
      rw [hx] at hk
      obtain ⟨o, h1, h2, _⟩ := hk
      exact ⟨o, h1, hl _ _ _ h2, by simp [snapX]⟩
  have hle := le_snapX st.sat id
  rw [hH] at hle
  have hc := h ρ a w st hle hm
  rw [← hH] at hc
  exact callM_at st id hf hd (by rw [hH]; exact hb) hl' hc k
theorem gt_callB {r r' : Res} {f : FuncId} {args : Array Operand} {ts : Array TypeId} {R : SRel} {r0 : Res} {f0 : Value → Res} (hs : Sat C H ρ w) (id : Nat) (hf : FnIs P f) (hH : H id = r) (hl : r.Loose) (hl' : r'.Loose) (hb : r'.blk = r.blk)
    (h : ρ.le (snapX r.blk.toList w) → r.holds (snapX r.blk.toList w) w → Calls P f (args.map a.eval) w (RetM r.blk.toList w R r'))
    (hr0 : r0 = r) (hf0 : f0 = fun _ => r') : GoalT P w r0 f0 ρ ⟨dst, .call { callee := .value (.func f), args := args, argTypes := ts }, ty, pos, after, none⟩ a := by
  subst hf0
  rw [hr0]
  refine ⟨fun _ _ => rfl, fun Q K hK => ?_⟩
  have hk := hs.ok id
  have hle := le_snapX hs id
  have hoff : ∀ b, r.blk = some b → ρ b = none := fun b hb => hs.off id (by rw [hH]; exact hb)
  rw [hH] at hk hle
  have hm : r.holds (snapX r.blk.toList w) w := by
    unfold Res.holds at hk ⊢
    cases hx : r.blk with
    | none => rw [hx] at hk; exact hl _ _ _ hk
    | some b =>
      rw [hx] at hk
      obtain ⟨o, h1, h2, _⟩ := hk
      exact ⟨o, h1, hl _ _ _ h2, by simp [snapX]⟩
  unfold Oper.wp
  rw [run_call hf rfl]
  refine (h hle hm).mono fun e w' he => ?_
  cases e with
  | panicked _ => exact he.elim
  | outgrown => exact he.elim
  | returned v =>
    obtain ⟨hB, hR, hr⟩ := he
    refine hK v w' ⟨hB.os, hB.tape, hB.output, hB.size, fun k hk hne => hB.block k hk (by simpa using fun e => hne e.symm)⟩ ?_ (fun b' hb' => .inr (by rw [← hb]; exact hb'))
    unfold Res.holds at hr ⊢
    cases hx : r'.blk with
    | none => rw [hx] at hr; exact hl' _ _ _ hr
    | some b =>
      rw [hx] at hr
      obtain ⟨o, h1, h2, _⟩ := hr
      exact ⟨o, h1, hl' _ _ _ h2, hoff b (by rw [← hb]; exact hx)⟩
/-- Own memory that a callee reads while it turns other memory. -/
theorem sl_roX {α : Type} {A : Ty α} {E : TypeId} {xs : List α} {v u z q : Value} (hs : Sat C H ρ w) (i j : Nat) (hij : decide (i = j) = false) (hq : (H i).blk = blkOf z) (hqz : q = z) (hH : H j = slR E A xs v) (h : u = v) : (TSl A).val (snapX (blkOf q).toList w) u xs := by
  subst h hqz
  have hne : i ≠ j := by simpa using hij
  have hk := hs.ok j
  rw [hH] at hk
  obtain ⟨cs, h0, h1, ⟨rfl, rfl⟩ | ⟨b, cap, cur, rfl, ho, hle, hcm, hcs, htk, _⟩⟩ := sl_own hk
  · exact Ty.val_of_one rfl ⟨none, 0, 0, rfl, rfl, by simp, fun _ => rfl, fun a h => by cases h⟩
  · refine Ty.val_of_one rfl ⟨some ⟨b, 0, none⟩, xs.length, cap, rfl, rfl, ⟨hle, by unfold maxLen at hcm; omega⟩, (fun h => by cases h), fun a' e m x hi => ?_⟩
    cases e
    have hle2 := le_snapX hs i
    rw [hq] at hle2
    have hb2 : snapX (blkOf q).toList w b = w.heap[b]? := by
      unfold snapX
      rw [if_neg]
      intro hm
      have hm : blkOf q = some b := by simpa using hm
      exact hs.apart i j b hne (by rw [hq]; exact hm) (by rw [hH]; rfl)
    refine ⟨chunk A.n m cs, fun n u hj => ?_, A.mono hle2 (h1 m x hi)⟩
    rw [add_at, add_at]
    unfold chunk at hj
    rw [List.getElem?_take] at hj
    split at hj
    · rw [List.getElem?_drop] at hj
      have := take_cell htk hj
      unfold cellAt
      simp [hb2, ho, this]
    · cases hj
theorem box_roX {α : Type} {A : Ty α} {E : TypeId} {x : α} {v u z q : Value} (hs : Sat C H ρ w) (i j : Nat) (hij : decide (i = j) = false) (hq : (H i).blk = blkOf z) (hqz : q = z) (hH : H j = boxR E A x v) (h : u = v) : (TP A).val (snapX (blkOf q).toList w) u x := by
  subst h hqz
  have hne : i ≠ j := by simpa using hij
  have hk := hs.ok j
  rw [hH] at hk
  obtain ⟨b, cs, rfl, ho, hr, _⟩ := box_own hk
  have hle2 := le_snapX hs i
  rw [hq] at hle2
  have hb2 : snapX (blkOf q).toList w b = w.heap[b]? := by
    unfold snapX
    rw [if_neg]
    intro hm
    have hm : blkOf q = some b := by simpa using hm
    exact hs.apart i j b hne (by rw [hq]; exact hm) (by rw [hH]; rfl)
  refine Ty.val_of_one rfl ⟨⟨b, 0, none⟩, cs, rfl, fun i v hi => ?_, A.mono hle2 hr⟩
  rw [add_at]
  unfold cellAt
  simp [hb2, ho, hi]
end

/-! ### Parts of tuples -/
section
variable {P : Program} {ops : Array Oper} {ρ : Heap} {ds : List Nat} {w : World} {a : Act} {ty : TypeId} {dst : Option Tmp} {pos : String} {after : Array Edge} {A B C D : SRel}
theorem tup_at {vs : Array Value} {i : Nat} {v : Value} (hi : vs[i]? = some v) : comp i (.tuple vs) = v := by
  unfold comp
  simp [Array.getD_eq_getD_getElem?, hi]
theorem al_extract {t j i : Nat} {vs : Array Value} {v : Value} (hu : slot a (ds.getD j 0) = .tuple vs) (hi : vs[i]? = some v) (e : slot a t = slot a (ds.getD j 0)) : Goal P ops ρ ds w (al j (comp i)) ⟨dst, .extract (.tmp t) i, ty, pos, after, none⟩ a :=
  gal fun _ _ _ _ Q K h => by
    have hX : a.eval (.tmp t) = .tuple vs := by show slot a t = _; rw [e, hu]
    unfold Oper.wp
    have : ∀ dst pos after guard, (execOp a.eval ⟨dst, .extract (.tmp t) i, ty, pos, after, guard⟩).run P w = .ok (.value v) w := fun _ _ _ _ => by simp [execOp, hX, Instr.extract, hi]
    rw [this]
    rw [hu, tup_at hi] at h
    exact h
theorem d_extract2_0 {X : Operand} (h : (SRel.tup2 A B).p ρ (a.eval X)) : Does P ρ w (.extract X 0) ty a A := by
  obtain ⟨x, y, e, px, py⟩ := h
  exact d_extract e rfl px
theorem d_extractO2_0 {X : Operand} {v : Value} (h : a.eval X = v ∧ (SRel.tup2 A B).p ρ (a.eval X)) : Does P ρ w (.extract X 0) ty a (SRel.eq (comp 0 v)) := by
  obtain ⟨hv, x, y, e, px, py⟩ := h
  rw [← hv, e]
  exact d_extract e rfl (tup_at rfl).symm
theorem d_extractE2_0 {t : Nat} {v : Value} (h : (SRel.tup2 A B).p ρ v) (hv : slot a t = v) : Does P ρ w (.extract (.tmp t) 0) ty a A := by
  subst hv
  obtain ⟨x, y, e, px, py⟩ := h
  exact d_extract e rfl px
theorem al_extract2_0 {t j : Nat} (h : (SRel.tup2 A B).p ρ (slot a (ds.getD j 0))) (hv : slot a t = slot a (ds.getD j 0)) : Goal P ops ρ ds w (al j (comp 0)) ⟨dst, .extract (.tmp t) 0, ty, pos, after, none⟩ a := by
  obtain ⟨x, y, e, px, py⟩ := h
  exact al_extract e rfl hv
theorem d_extract2_1 {X : Operand} (h : (SRel.tup2 A B).p ρ (a.eval X)) : Does P ρ w (.extract X 1) ty a B := by
  obtain ⟨x, y, e, px, py⟩ := h
  exact d_extract e rfl py
theorem d_extractO2_1 {X : Operand} {v : Value} (h : a.eval X = v ∧ (SRel.tup2 A B).p ρ (a.eval X)) : Does P ρ w (.extract X 1) ty a (SRel.eq (comp 1 v)) := by
  obtain ⟨hv, x, y, e, px, py⟩ := h
  rw [← hv, e]
  exact d_extract e rfl (tup_at rfl).symm
theorem d_extractE2_1 {t : Nat} {v : Value} (h : (SRel.tup2 A B).p ρ v) (hv : slot a t = v) : Does P ρ w (.extract (.tmp t) 1) ty a B := by
  subst hv
  obtain ⟨x, y, e, px, py⟩ := h
  exact d_extract e rfl py
theorem al_extract2_1 {t j : Nat} (h : (SRel.tup2 A B).p ρ (slot a (ds.getD j 0))) (hv : slot a t = slot a (ds.getD j 0)) : Goal P ops ρ ds w (al j (comp 1)) ⟨dst, .extract (.tmp t) 1, ty, pos, after, none⟩ a := by
  obtain ⟨x, y, e, px, py⟩ := h
  exact al_extract e rfl hv
theorem d_extract3_0 {X : Operand} (h : (SRel.tup3 A B C).p ρ (a.eval X)) : Does P ρ w (.extract X 0) ty a A := by
  obtain ⟨x, y, z, e, px, py, pz⟩ := h
  exact d_extract e rfl px
theorem d_extractO3_0 {X : Operand} {v : Value} (h : a.eval X = v ∧ (SRel.tup3 A B C).p ρ (a.eval X)) : Does P ρ w (.extract X 0) ty a (SRel.eq (comp 0 v)) := by
  obtain ⟨hv, x, y, z, e, px, py, pz⟩ := h
  rw [← hv, e]
  exact d_extract e rfl (tup_at rfl).symm
theorem d_extractE3_0 {t : Nat} {v : Value} (h : (SRel.tup3 A B C).p ρ v) (hv : slot a t = v) : Does P ρ w (.extract (.tmp t) 0) ty a A := by
  subst hv
  obtain ⟨x, y, z, e, px, py, pz⟩ := h
  exact d_extract e rfl px
theorem al_extract3_0 {t j : Nat} (h : (SRel.tup3 A B C).p ρ (slot a (ds.getD j 0))) (hv : slot a t = slot a (ds.getD j 0)) : Goal P ops ρ ds w (al j (comp 0)) ⟨dst, .extract (.tmp t) 0, ty, pos, after, none⟩ a := by
  obtain ⟨x, y, z, e, px, py, pz⟩ := h
  exact al_extract e rfl hv
theorem d_extract3_1 {X : Operand} (h : (SRel.tup3 A B C).p ρ (a.eval X)) : Does P ρ w (.extract X 1) ty a B := by
  obtain ⟨x, y, z, e, px, py, pz⟩ := h
  exact d_extract e rfl py
theorem d_extractO3_1 {X : Operand} {v : Value} (h : a.eval X = v ∧ (SRel.tup3 A B C).p ρ (a.eval X)) : Does P ρ w (.extract X 1) ty a (SRel.eq (comp 1 v)) := by
  obtain ⟨hv, x, y, z, e, px, py, pz⟩ := h
  rw [← hv, e]
  exact d_extract e rfl (tup_at rfl).symm
theorem d_extractE3_1 {t : Nat} {v : Value} (h : (SRel.tup3 A B C).p ρ v) (hv : slot a t = v) : Does P ρ w (.extract (.tmp t) 1) ty a B := by
  subst hv
  obtain ⟨x, y, z, e, px, py, pz⟩ := h
  exact d_extract e rfl py
theorem al_extract3_1 {t j : Nat} (h : (SRel.tup3 A B C).p ρ (slot a (ds.getD j 0))) (hv : slot a t = slot a (ds.getD j 0)) : Goal P ops ρ ds w (al j (comp 1)) ⟨dst, .extract (.tmp t) 1, ty, pos, after, none⟩ a := by
  obtain ⟨x, y, z, e, px, py, pz⟩ := h
  exact al_extract e rfl hv
theorem d_extract3_2 {X : Operand} (h : (SRel.tup3 A B C).p ρ (a.eval X)) : Does P ρ w (.extract X 2) ty a C := by
  obtain ⟨x, y, z, e, px, py, pz⟩ := h
  exact d_extract e rfl pz
theorem d_extractO3_2 {X : Operand} {v : Value} (h : a.eval X = v ∧ (SRel.tup3 A B C).p ρ (a.eval X)) : Does P ρ w (.extract X 2) ty a (SRel.eq (comp 2 v)) := by
  obtain ⟨hv, x, y, z, e, px, py, pz⟩ := h
  rw [← hv, e]
  exact d_extract e rfl (tup_at rfl).symm
theorem d_extractE3_2 {t : Nat} {v : Value} (h : (SRel.tup3 A B C).p ρ v) (hv : slot a t = v) : Does P ρ w (.extract (.tmp t) 2) ty a C := by
  subst hv
  obtain ⟨x, y, z, e, px, py, pz⟩ := h
  exact d_extract e rfl pz
theorem al_extract3_2 {t j : Nat} (h : (SRel.tup3 A B C).p ρ (slot a (ds.getD j 0))) (hv : slot a t = slot a (ds.getD j 0)) : Goal P ops ρ ds w (al j (comp 2)) ⟨dst, .extract (.tmp t) 2, ty, pos, after, none⟩ a := by
  obtain ⟨x, y, z, e, px, py, pz⟩ := h
  exact al_extract e rfl hv
theorem d_extract4_0 {X : Operand} (h : (SRel.tup4 A B C D).p ρ (a.eval X)) : Does P ρ w (.extract X 0) ty a A := by
  obtain ⟨x, y, z, u, e, px, py, pz, pu⟩ := h
  exact d_extract e rfl px
theorem d_extractO4_0 {X : Operand} {v : Value} (h : a.eval X = v ∧ (SRel.tup4 A B C D).p ρ (a.eval X)) : Does P ρ w (.extract X 0) ty a (SRel.eq (comp 0 v)) := by
  obtain ⟨hv, x, y, z, u, e, px, py, pz, pu⟩ := h
  rw [← hv, e]
  exact d_extract e rfl (tup_at rfl).symm
theorem d_extractE4_0 {t : Nat} {v : Value} (h : (SRel.tup4 A B C D).p ρ v) (hv : slot a t = v) : Does P ρ w (.extract (.tmp t) 0) ty a A := by
  subst hv
  obtain ⟨x, y, z, u, e, px, py, pz, pu⟩ := h
  exact d_extract e rfl px
theorem al_extract4_0 {t j : Nat} (h : (SRel.tup4 A B C D).p ρ (slot a (ds.getD j 0))) (hv : slot a t = slot a (ds.getD j 0)) : Goal P ops ρ ds w (al j (comp 0)) ⟨dst, .extract (.tmp t) 0, ty, pos, after, none⟩ a := by
  obtain ⟨x, y, z, u, e, px, py, pz, pu⟩ := h
  exact al_extract e rfl hv
theorem d_extract4_1 {X : Operand} (h : (SRel.tup4 A B C D).p ρ (a.eval X)) : Does P ρ w (.extract X 1) ty a B := by
  obtain ⟨x, y, z, u, e, px, py, pz, pu⟩ := h
  exact d_extract e rfl py
theorem d_extractO4_1 {X : Operand} {v : Value} (h : a.eval X = v ∧ (SRel.tup4 A B C D).p ρ (a.eval X)) : Does P ρ w (.extract X 1) ty a (SRel.eq (comp 1 v)) := by
  obtain ⟨hv, x, y, z, u, e, px, py, pz, pu⟩ := h
  rw [← hv, e]
  exact d_extract e rfl (tup_at rfl).symm
theorem d_extractE4_1 {t : Nat} {v : Value} (h : (SRel.tup4 A B C D).p ρ v) (hv : slot a t = v) : Does P ρ w (.extract (.tmp t) 1) ty a B := by
  subst hv
  obtain ⟨x, y, z, u, e, px, py, pz, pu⟩ := h
  exact d_extract e rfl py
theorem al_extract4_1 {t j : Nat} (h : (SRel.tup4 A B C D).p ρ (slot a (ds.getD j 0))) (hv : slot a t = slot a (ds.getD j 0)) : Goal P ops ρ ds w (al j (comp 1)) ⟨dst, .extract (.tmp t) 1, ty, pos, after, none⟩ a := by
  obtain ⟨x, y, z, u, e, px, py, pz, pu⟩ := h
  exact al_extract e rfl hv
theorem d_extract4_2 {X : Operand} (h : (SRel.tup4 A B C D).p ρ (a.eval X)) : Does P ρ w (.extract X 2) ty a C := by
  obtain ⟨x, y, z, u, e, px, py, pz, pu⟩ := h
  exact d_extract e rfl pz
theorem d_extractO4_2 {X : Operand} {v : Value} (h : a.eval X = v ∧ (SRel.tup4 A B C D).p ρ (a.eval X)) : Does P ρ w (.extract X 2) ty a (SRel.eq (comp 2 v)) := by
  obtain ⟨hv, x, y, z, u, e, px, py, pz, pu⟩ := h
  rw [← hv, e]
  exact d_extract e rfl (tup_at rfl).symm
theorem d_extractE4_2 {t : Nat} {v : Value} (h : (SRel.tup4 A B C D).p ρ v) (hv : slot a t = v) : Does P ρ w (.extract (.tmp t) 2) ty a C := by
  subst hv
  obtain ⟨x, y, z, u, e, px, py, pz, pu⟩ := h
  exact d_extract e rfl pz
theorem al_extract4_2 {t j : Nat} (h : (SRel.tup4 A B C D).p ρ (slot a (ds.getD j 0))) (hv : slot a t = slot a (ds.getD j 0)) : Goal P ops ρ ds w (al j (comp 2)) ⟨dst, .extract (.tmp t) 2, ty, pos, after, none⟩ a := by
  obtain ⟨x, y, z, u, e, px, py, pz, pu⟩ := h
  exact al_extract e rfl hv
theorem d_extract4_3 {X : Operand} (h : (SRel.tup4 A B C D).p ρ (a.eval X)) : Does P ρ w (.extract X 3) ty a D := by
  obtain ⟨x, y, z, u, e, px, py, pz, pu⟩ := h
  exact d_extract e rfl pu
theorem d_extractO4_3 {X : Operand} {v : Value} (h : a.eval X = v ∧ (SRel.tup4 A B C D).p ρ (a.eval X)) : Does P ρ w (.extract X 3) ty a (SRel.eq (comp 3 v)) := by
  obtain ⟨hv, x, y, z, u, e, px, py, pz, pu⟩ := h
  rw [← hv, e]
  exact d_extract e rfl (tup_at rfl).symm
theorem d_extractE4_3 {t : Nat} {v : Value} (h : (SRel.tup4 A B C D).p ρ v) (hv : slot a t = v) : Does P ρ w (.extract (.tmp t) 3) ty a D := by
  subst hv
  obtain ⟨x, y, z, u, e, px, py, pz, pu⟩ := h
  exact d_extract e rfl pu
theorem al_extract4_3 {t j : Nat} (h : (SRel.tup4 A B C D).p ρ (slot a (ds.getD j 0))) (hv : slot a t = slot a (ds.getD j 0)) : Goal P ops ρ ds w (al j (comp 3)) ⟨dst, .extract (.tmp t) 3, ty, pos, after, none⟩ a := by
  obtain ⟨x, y, z, u, e, px, py, pz, pu⟩ := h
  exact al_extract e rfl hv
end
end Go.Proofs.Ytnpkhhfpgedkoaa
