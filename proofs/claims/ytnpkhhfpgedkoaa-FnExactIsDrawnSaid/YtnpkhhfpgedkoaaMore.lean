/-
  What the printed walks lean on, beyond the steps.
-/
import Derived.Test.YtnpkhhfpgedkoaaStep
set_option linter.unusedVariables false
set_option linter.unusedSimpArgs false
namespace Go.Proofs.Ytnpkhhfpgedkoaa
open Go

/-! ### Control -/
section
variable {P : Program} {C : Ctx} {Γ : Nat → SRel} {H : Nat → Res} {Q : Exit → Act → World → Prop}
theorem T.joinD {ι : Type} {x : Code} (D : ι → Prop) {Γ' : ι → Nat → SRel} {H' : ι → Nat → Res} (k : ∀ p, D p → T C (Γ' p) (H' p) (Q .normal)) (h : (∀ p, D p → T C (Γ' p) (H' p) (Q .normal)) → T C Γ H (x.wp P Q)) : T C Γ H (x.wp P Q) := h k
theorem T.joinS {ι : Type} {x : Code} {Γ' : ι → Nat → SRel} {H' : ι → Nat → Res} (k : ∀ p, T C (Γ' p) (H' p) (Q .normal)) (h : (∀ p, T C (Γ' p) (H' p) (Q .normal)) → T C Γ H (x.wp P Q)) : T C Γ H (x.wp P Q) := h k
theorem T.passX {id : Nat} {n : Act → World → Prop} (h : T C Γ H (Q (.exit id))) : T C Γ H (Exit.then n Q (.exit id)) := h
theorem T.inX {i j : Nat} (hn : ¬ j = i) (h : T C Γ H (Q (.exit j))) : T C Γ H (Exit.inBlock i Q (.exit j)) := T.there (φ := fun a w => Q .normal a w) hn h
theorem T.hereX {i : Nat} (h : T C Γ H (Q .normal)) : T C Γ H (Exit.inBlock i Q (.exit i)) := T.here (ψ := fun a w => Q (.exit i) a w) rfl h
theorem T.fallX {i : Nat} (h : T C Γ H (Q .normal)) : T C Γ H (Exit.inBlock i Q .normal) := h
theorem T.toh {φ : Act → World → Prop} {l : List (Nat × SRel)} {hl : List (Nat × Res)} (h : T C (E l) (HL hl) φ) (k : Ents Γ l) (kh : HEnts H hl) : T C Γ H φ := T.to k kh h
theorem T.atEnd {fn : Func} {R : Ending → World → Prop} (h : T C Γ H (bodyPost P fn R .ret)) : T C Γ H (bodyPost P fn R .normal) := h
end

/-! ### Picks -/
section
variable {ρ : Heap} {v : Value} {b c x : Bool}
theorem pA (hc : c = true) (h : TB.val ρ v b) : (TB.sv (c && b)).p ρ v := by subst hc; exact h
theorem pAN (hc : c = false) : (TB.sv (c && b)).p ρ (.bool false) := by subst hc; exact vB _
theorem pO (hc : c = false) (h : TB.val ρ v b) : (TB.sv (c || b)).p ρ v := by subst hc; exact h
theorem pON (hc : c = true) : (TB.sv (c || b)).p ρ (.bool true) := by subst hc; exact vB _
theorem pE (e : b = x) (h : TB.val ρ v b) : (TB.sv x).p ρ v := by subst e; exact h
theorem pC (e : b = x) : (TB.sv x).p ρ (.bool b) := by subst e; exact vB _
theorem rng_nn {k : IntKind} {y : Int} (hk : decide (0 ≤ k.min) = true) (h : (TI k).val ρ v y) : 0 ≤ y := by
  have := (val_int h).2.1
  simp at hk
  omega
end

/-! ### The greatest, the least -/
section
variable {P : Program} {ρ : Heap} {w : World} {a : Act} {ty : TypeId}
theorem max2_int (k : IntKind) (x y : Int) : Builtin.max2 (.int k x) (.int k y) = pure (.int k (max x y)) := by
  have e : (if y > x then y else x) = max x y := by simp only [Int.max_def]; split <;> split <;> omega
  show (pure (.int k (if y > x then y else x)) : Sem Value) = _
  rw [e]
theorem d_max2 {k : IntKind} {X Y : Operand} {ts : Array TypeId} {x y : Int} (hx : (TI k).val ρ (a.eval X) x) (hy : (TI k).val ρ (a.eval Y) y) : Does P ρ w (.call { callee := .builtin .max, args := #[X, Y], argTypes := ts }) ty a ((TI k).sv (max x y)) := by
  refine does_same (run_builtin (fun cs => ?_)) (mk_int ?_ ?_)
  · have e : (#[X, Y].map a.eval) = #[.int k x, .int k y] := by simp [(val_int hx).1, (val_int hy).1]
    rw [e]
    simp [builtin, Builtin.max_, max2_int, Sem.run_bind, Result.andThen]
  · have := (val_int hx).2; have := (val_int hy).2
    simp only [Int.max_def]; (repeat' split) <;> omega
  · have := (val_int hx).2; have := (val_int hy).2
    simp only [Int.max_def]; (repeat' split) <;> omega
theorem d_max3 {k : IntKind} {X Y Z : Operand} {ts : Array TypeId} {x y z : Int} (hx : (TI k).val ρ (a.eval X) x) (hy : (TI k).val ρ (a.eval Y) y) (hz : (TI k).val ρ (a.eval Z) z) : Does P ρ w (.call { callee := .builtin .max, args := #[X, Y, Z], argTypes := ts }) ty a ((TI k).sv (max (max x y) z)) := by
  refine does_same (run_builtin (fun cs => ?_)) (mk_int ?_ ?_)
  · have e : (#[X, Y, Z].map a.eval) = #[.int k x, .int k y, .int k z] := by simp [(val_int hx).1, (val_int hy).1, (val_int hz).1]
    rw [e]
    simp [builtin, Builtin.max_, max2_int, Sem.run_bind, Result.andThen]
  · have := (val_int hx).2; have := (val_int hy).2; have := (val_int hz).2
    simp only [Int.max_def]; (repeat' split) <;> omega
  · have := (val_int hx).2; have := (val_int hy).2; have := (val_int hz).2
    simp only [Int.max_def]; (repeat' split) <;> omega
theorem d_max4 {k : IntKind} {X Y Z U : Operand} {ts : Array TypeId} {x y z u : Int} (hx : (TI k).val ρ (a.eval X) x) (hy : (TI k).val ρ (a.eval Y) y) (hz : (TI k).val ρ (a.eval Z) z) (hu : (TI k).val ρ (a.eval U) u) : Does P ρ w (.call { callee := .builtin .max, args := #[X, Y, Z, U], argTypes := ts }) ty a ((TI k).sv (max (max (max x y) z) u)) := by
  refine does_same (run_builtin (fun cs => ?_)) (mk_int ?_ ?_)
  · have e : (#[X, Y, Z, U].map a.eval) = #[.int k x, .int k y, .int k z, .int k u] := by simp [(val_int hx).1, (val_int hy).1, (val_int hz).1, (val_int hu).1]
    rw [e]
    simp [builtin, Builtin.max_, max2_int, Sem.run_bind, Result.andThen]
  · have := (val_int hx).2; have := (val_int hy).2; have := (val_int hz).2; have := (val_int hu).2
    simp only [Int.max_def]; (repeat' split) <;> omega
  · have := (val_int hx).2; have := (val_int hy).2; have := (val_int hz).2; have := (val_int hu).2
    simp only [Int.max_def]; (repeat' split) <;> omega
theorem min2_int (k : IntKind) (x y : Int) : Builtin.min2 (.int k x) (.int k y) = pure (.int k (min x y)) := by
  have e : (if y < x then y else x) = min x y := by simp only [Int.min_def]; split <;> split <;> omega
  show (pure (.int k (if y < x then y else x)) : Sem Value) = _
  rw [e]
theorem d_min2 {k : IntKind} {X Y : Operand} {ts : Array TypeId} {x y : Int} (hx : (TI k).val ρ (a.eval X) x) (hy : (TI k).val ρ (a.eval Y) y) : Does P ρ w (.call { callee := .builtin .min, args := #[X, Y], argTypes := ts }) ty a ((TI k).sv (min x y)) := by
  refine does_same (run_builtin (fun cs => ?_)) (mk_int ?_ ?_)
  · have e : (#[X, Y].map a.eval) = #[.int k x, .int k y] := by simp [(val_int hx).1, (val_int hy).1]
    rw [e]
    simp [builtin, Builtin.min_, min2_int, Sem.run_bind, Result.andThen]
  · have := (val_int hx).2; have := (val_int hy).2
    simp only [Int.min_def]; (repeat' split) <;> omega
  · have := (val_int hx).2; have := (val_int hy).2
    simp only [Int.min_def]; (repeat' split) <;> omega
theorem d_min3 {k : IntKind} {X Y Z : Operand} {ts : Array TypeId} {x y z : Int} (hx : (TI k).val ρ (a.eval X) x) (hy : (TI k).val ρ (a.eval Y) y) (hz : (TI k).val ρ (a.eval Z) z) : Does P ρ w (.call { callee := .builtin .min, args := #[X, Y, Z], argTypes := ts }) ty a ((TI k).sv (min (min x y) z)) := by
  refine does_same (run_builtin (fun cs => ?_)) (mk_int ?_ ?_)
  · have e : (#[X, Y, Z].map a.eval) = #[.int k x, .int k y, .int k z] := by simp [(val_int hx).1, (val_int hy).1, (val_int hz).1]
    rw [e]
    simp [builtin, Builtin.min_, min2_int, Sem.run_bind, Result.andThen]
  · have := (val_int hx).2; have := (val_int hy).2; have := (val_int hz).2
    simp only [Int.min_def]; (repeat' split) <;> omega
  · have := (val_int hx).2; have := (val_int hy).2; have := (val_int hz).2
    simp only [Int.min_def]; (repeat' split) <;> omega
theorem d_min4 {k : IntKind} {X Y Z U : Operand} {ts : Array TypeId} {x y z u : Int} (hx : (TI k).val ρ (a.eval X) x) (hy : (TI k).val ρ (a.eval Y) y) (hz : (TI k).val ρ (a.eval Z) z) (hu : (TI k).val ρ (a.eval U) u) : Does P ρ w (.call { callee := .builtin .min, args := #[X, Y, Z, U], argTypes := ts }) ty a ((TI k).sv (min (min (min x y) z) u)) := by
  refine does_same (run_builtin (fun cs => ?_)) (mk_int ?_ ?_)
  · have e : (#[X, Y, Z, U].map a.eval) = #[.int k x, .int k y, .int k z, .int k u] := by simp [(val_int hx).1, (val_int hy).1, (val_int hz).1, (val_int hu).1]
    rw [e]
    simp [builtin, Builtin.min_, min2_int, Sem.run_bind, Result.andThen]
  · have := (val_int hx).2; have := (val_int hy).2; have := (val_int hz).2; have := (val_int hu).2
    simp only [Int.min_def]; (repeat' split) <;> omega
  · have := (val_int hx).2; have := (val_int hy).2; have := (val_int hz).2; have := (val_int hu).2
    simp only [Int.min_def]; (repeat' split) <;> omega
end

/-! ### Own memory, told in parts -/
section
variable {P : Program} {C : Ctx} {Γ : Nat → SRel} {H : Nat → Res} {ρ : Heap} {w : World} {a : Act} {ty : TypeId}
theorem d_nilCheckB {α : Type} {A : Ty α} {E : TypeId} {x : α} {X : Operand} {v : Value} (hs : Sat C H ρ w) (id : Nat) (hH : H id = boxR E A x v) (h : a.eval X = v) : Does P ρ w (.nilCheck X) ty a (SRel.eq v) := by
  have hk := hs.ok id
  rw [hH] at hk
  obtain ⟨b, cs, rfl, _⟩ := box_own hk
  exact d_nilCheckO (p := ⟨b, 0, none⟩) h
/-- A part of own memory, handed to a callee that only reads. -/
theorem part_ro {α β : Type} {A : Ty α} {B : Ty β} {E : TypeId} {x : α} {y : β} {put : β → α} {v u : Value} {o : Nat} (hs : Sat C H ρ w) (id : Nat) (hH : H id = boxR E A x v) (h : PtrTo v o u) (hat : At A x o B y put) : (TP B).val (snap w) u y := by
  have hk := hs.ok id
  rw [hH] at hk
  obtain ⟨b, cs, rfl, ho, hr, _⟩ := box_own hk
  have := ptr_to h
  subst this
  refine Ty.val_of_one rfl ⟨⟨b, o, none⟩, (cs.drop o).take B.n, rfl, fun i v hi => ?_, B.mono hs.le (hat.get ρ cs hr)⟩
  rw [add_at, cellAt_snap]
  rw [List.getElem?_take] at hi
  split at hi
  · rw [List.getElem?_drop] at hi
    simp [World.cell?, ho, hi]
  · cases hi
theorem loose_boxR {α : Type} {A : Ty α} {E : TypeId} {x : α} {v : Value} (h : A.Flat) : (boxR E A x v).Loose := fun ρ σ o hk => by
  obtain ⟨b, cs, h0, h1, h2⟩ := hk
  exact ⟨b, cs, h0, h1, h _ _ _ _ h2⟩
/-- What an own part of a result is, in the caller's words. -/
theorem hand_on' {w0 : World} {n : Nat} {r : Res} {bs : List Nat} (hs : Sat ⟨w0, [], n⟩ H ρ w) (id : Nat) (hH : H id = r) (hl : r.Loose) (hb : ∀ b, r.blk = some b → b ∈ bs) : r.holds (freshX w0 w bs) w ∧ ∀ b, r.blk = some b → w0.heap.size ≤ b :=
  hand_on hs id hH hl bs hb
end
end Go.Proofs.Ytnpkhhfpgedkoaa
