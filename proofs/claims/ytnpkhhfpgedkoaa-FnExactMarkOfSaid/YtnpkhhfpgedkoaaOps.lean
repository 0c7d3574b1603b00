/-
  What each kind of operation does, stated of plain data.
-/
import Derived.Test.YtnpkhhfpgedkoaaRegion
import Derived.Laws.Cells
set_option linter.unusedVariables false
set_option linter.unusedSimpArgs false
namespace Go.Proofs.Ytnpkhhfpgedkoaa
open Go

/-- The operation hands a fitting value on; of what was there nothing turns. -/
def Does (P : Program) (ρ : Heap) (w : World) (op : Op) (ty : TypeId) (a : Act) (R : SRel) : Prop :=
  ∀ dst pos after guard (Q : Exit → Act → World → Prop) (K : Act → World → Prop), (∀ v w', BelowX [] w w' → R.p (ρ.plus (fresh w w')) v → K (a.put dst v) w') →
    (⟨dst, op, ty, pos, after, guard⟩ : Oper).wp P a w K Q

def sp (R : SRel) : ASpec := ⟨R, [], none, none, none⟩
def al (j : Nat) (g : Value → Value) : ASpec := ⟨SRel.any, [], some (j, g), none, none⟩
def sO (R : SRel) (owns : List (Nat × (Value → Res))) : ASpec := ⟨R, owns, none, none, none⟩
/-- Of an operation that turns memory: its memory behind it. -/
def sT (id : Nat) (r : Value → Res) : ASpec := ⟨SRel.any, [(id, r)], none, some id, none⟩
/-- The same, told by the value of the operation that made it. -/
def sM (id m : Nat) (r : Value → Res) : ASpec := ⟨SRel.any, [(id, r)], none, some id, some m⟩
/-- Under a condition. -/
def SRel.when (c : Prop) (R : SRel) : SRel := ⟨fun ρ v => c → R.p ρ v, fun h k hc => R.mono h (k hc)⟩

section
variable {P : Program} {ops : Array Oper} {ρ : Heap} {ds : List Nat} {w : World} {a : Act} {R : SRel} {op : Op} {ty : TypeId} {dst : Option Tmp} {pos : String} {after : Array Edge}

theorem gp (h : Does P ρ w op ty a R) : Goal P ops ρ ds w (sp R) ⟨dst, op, ty, pos, after, none⟩ a := by
  intro Q K hK
  simp only [Region.wanted, if_true]
  refine h dst pos after none Q K fun v w' hb hR => hK v w' ⟨hb, ?_, (fun e he => by cases he), List.Pairwise.nil⟩ (fun j g e => by cases e)
  simpa [sp, ASpec.blks, freshX_nil] using hR

/-- A value that another operation's slot holds, or a part of it. -/
theorem gal {j : Nat} {g : Value → Value} (h : ∀ dst pos after guard (Q : Exit → Act → World → Prop) (K : Act → World → Prop), K (a.put dst (g (slot a (ds.getD j 0)))) w →
    (⟨dst, op, ty, pos, after, guard⟩ : Oper).wp P a w K Q) : Goal P ops ρ ds w (al j g) ⟨dst, op, ty, pos, after, none⟩ a := by
  intro Q K hK
  simp only [Region.wanted, if_true]
  refine h dst pos after none Q K (hK _ w ⟨BelowX.refl _ _, trivial, (fun e he => by cases he), List.Pairwise.nil⟩ (fun j g e => by cases e; rfl))

theorem gal_eq {j : Nat} {g : Value → Value} {u : Value} (h : Does P ρ w op ty a (SRel.eq u)) (hu : u = g (slot a (ds.getD j 0))) : Goal P ops ρ ds w (al j g) ⟨dst, op, ty, pos, after, none⟩ a := by
  intro Q K hK
  simp only [Region.wanted, if_true]
  refine h dst pos after none Q K fun v w' hb hR => hK v w' ⟨hb, trivial, (fun e he => by cases he), List.Pairwise.nil⟩ (fun j' g' e => ?_)
  simp only [al, Option.some.injEq, Prod.mk.injEq] at e
  obtain ⟨rfl, rfl⟩ := e
  exact (show v = u from hR).trans hu
/-- A guarded operation: under the guard's condition it is as any other. -/
theorem gg {g d : Nat} {want c : Bool} {N : Nat} (hz : a.tmps.size = N) (hg : (ops[g]?).bind (·.dst) = some d) (hc : TB.val ρ (slot a d) c) (hd : decide (d < N) = true) (h : c = want → Does P ρ w op ty a R) :
    Goal P ops ρ ds w (sp (R.when (c = want))) ⟨dst, op, ty, pos, after, some (g, want)⟩ a := by
  intro Q K hK
  have hd : d < a.tmps.size := by rw [hz]; simpa using hd
  have hv := Ty.val_one rfl hc
  simp [TB] at hv
  have hy : yielded ops a.tmps g = some c := by
    unfold yielded
    rw [hg]
    simp only [Option.bind_some]
    unfold slot at hv
    rw [Array.getD_eq_getD_getElem?, Array.getElem?_eq_getElem hd] at hv
    rw [Array.getElem?_eq_getElem hd]
    simp only [Option.getD_some] at hv
    rw [hv]
  simp only [Region.wanted, hy]
  by_cases hcw : c = want
  · subst hcw
    simp only [beq_self_eq_true, if_true]
    refine h rfl dst pos after _ Q K fun v w' hb hR => hK v w' ⟨hb, ?_, (fun e he => by cases he), List.Pairwise.nil⟩ (fun j g e => by cases e)
    simpa [sp, ASpec.blks, freshX_nil, SRel.when] using hR
  · have : (some c == some want) = false := by simpa using hcw
    rw [this]
    simp only [Bool.false_eq_true, if_false]
    exact hK _ w ⟨BelowX.refl _ _, fun h => absurd h hcw, (fun e he => by cases he), List.Pairwise.nil⟩ (fun j g e => by cases e)

theorem does_of {v : Value} {w' : World} (h : ∀ dst pos after guard, (execOp a.eval ⟨dst, op, ty, pos, after, guard⟩).run P w = .ok (.value v) w') (hb : BelowX [] w w') (hR : R.p ρ v) : Does P ρ w op ty a R := by
  intro dst pos after guard Q K hK
  unfold Oper.wp
  rw [h]
  exact hK v w' hb (R.mono (Heap.le_plus _ _) hR)
theorem does_same {v : Value} (h : ∀ dst pos after guard, (execOp a.eval ⟨dst, op, ty, pos, after, guard⟩).run P w = .ok (.value v) w) (hR : R.p ρ v) : Does P ρ w op ty a R :=
  does_of h (BelowX.refl _ _) hR

theorem vI {k : IntKind} {n : Int} (h : (decide (k.min ≤ n) && decide (n ≤ k.max)) = true) : (TI k).val ρ (.int k n) n := by
  simp only [Bool.and_eq_true, decide_eq_true_eq] at h
  exact ⟨_, ⟨rfl, h⟩, rfl⟩
theorem vB (b : Bool) : TB.val ρ (.bool b) b := ⟨_, rfl, rfl⟩
theorem vS {s : ByteArray} (h : s.size ≤ 9223372036854775807) : TS.val ρ (.string s) s := ⟨_, ⟨rfl, h⟩, rfl⟩
theorem val_int {k : IntKind} {v : Value} {x : Int} (h : (TI k).val ρ v x) : v = .int k x ∧ k.min ≤ x ∧ x ≤ k.max := by
  have := Ty.val_one rfl h
  simpa [TI] using this
theorem val_bool {v : Value} {x : Bool} (h : TB.val ρ v x) : v = .bool x := by
  have := Ty.val_one rfl h
  simpa [TB] using this
theorem val_str {v : Value} {x : ByteArray} (h : TS.val ρ v x) : v = .string x := by
  have := Ty.val_one rfl h
  simpa [TS] using this.1
theorem str_rng {v : Value} {x : ByteArray} (h : TS.val ρ v x) : x.size ≤ 9223372036854775807 := (Ty.val_one rfl h).2
theorem val_float {k : FloatKind} {v : Value} {x : Nat} (h : (TF k).val ρ v x) : ∃ b, v = .float k b ∧ cn k b = x ∧ b < 2 ^ k.format.width := by
  obtain ⟨b, h1, h2⟩ := Ty.val_one rfl h
  exact ⟨b, by simpa using h1, h2⟩
theorem mk_int {k : IntKind} {x : Int} (h1 : k.min ≤ x) (h2 : x ≤ k.max) : (TI k).val ρ (.int k x) x := ⟨_, ⟨rfl, h1, h2⟩, rfl⟩

theorem wrap_rng (k : IntKind) (n : Int) : k.min ≤ k.wrap n ∧ k.wrap n ≤ k.max := by
  cases k <;> simp only [IntKind.wrap, IntKind.min, IntKind.max, IntKind.bits, IntKind.signed, Int.bmod] <;> simp <;> omega
theorem wrap_id {k : IntKind} {n : Int} (h1 : k.min ≤ n) (h2 : n ≤ k.max) : k.wrap n = n := by
  cases k <;> simp only [IntKind.wrap, IntKind.min, IntKind.max, IntKind.bits, IntKind.signed, Int.bmod] at * <;> simp at * <;> omega
theorem mk_wrap (k : IntKind) (n : Int) : (TI k).val ρ (.int k (k.wrap n)) (k.wrap n) := mk_int (wrap_rng k n).1 (wrap_rng k n).2

/-! #### Moving -/
theorem d_move {X : Operand} (h : R.p ρ (a.eval X)) : Does P ρ w (.move X) ty a R := does_same (fun _ _ _ _ => rfl) h
theorem d_assign {X : Operand} (h : R.p ρ (a.eval X)) : Does P ρ w (.assign X) ty a R := does_same (fun _ _ _ _ => rfl) h
theorem al_move {j t : Nat} {g : Value → Value} (hs : slot a t = g (slot a (ds.getD j 0))) : Goal P ops ρ ds w (al j g) ⟨dst, .move (.tmp t), ty, pos, after, none⟩ a :=
  gal fun _ _ _ _ Q K h => by rw [← hs] at h; exact h
theorem al_assign {j t : Nat} {g : Value → Value} (hs : slot a t = g (slot a (ds.getD j 0))) : Goal P ops ρ ds w (al j g) ⟨dst, .assign (.tmp t), ty, pos, after, none⟩ a :=
  gal fun _ _ _ _ Q K h => by rw [← hs] at h; exact h
def comp (i : Nat) : Value → Value
  | .tuple vs => vs.getD i undef
  | _ => undef
theorem d_pick {X Y Z : Operand} {c : Bool} (hc : TB.val ρ (a.eval X) c) (h1 : c = true → R.p ρ (a.eval Y)) (h2 : c = false → R.p ρ (a.eval Z)) : Does P ρ w (.pick X Y Z) ty a R := by
  have hv := val_bool hc
  refine does_same (v := if c then a.eval Y else a.eval Z) (fun _ _ _ _ => ?_) ?_
  · simp only [execOp, hv]; rfl
  · cases c with
    | true => exact h1 rfl
    | false => exact h2 rfl
theorem d_nilCheckP {α : Type} {A : Ty α} {X : Operand} {x : α} (h : (TP A).val ρ (a.eval X) x) : Does P ρ w (.nilCheck X) ty a ((TP A).sv x) := by
  obtain ⟨p, ds, h1, h2⟩ := Ty.val_one rfl h
  have h1 : a.eval X = .pointer (some p) := by simpa using h1
  exact does_same (v := a.eval X) (fun _ _ _ _ => by simp only [execOp, h1]; rfl) h
theorem d_nilCheckO {X : Operand} {p : Addr} (h : a.eval X = .pointer (some p)) : Does P ρ w (.nilCheck X) ty a (SRel.eq (.pointer (some p))) :=
  does_same (v := .pointer (some p)) (fun _ _ _ _ => by simp only [execOp, h]; rfl) rfl

/-! #### Whole numbers and truth values -/
theorem run_bin_int {op : BinOp} {T U : TypeId} {X Y : Operand} {k : IntKind} {x y : Int} {v : Value} (hx : a.eval X = .int k x) (hy : a.eval Y = .int k y)
    (h : (binOp op T (.int k x) (.int k y)).run P w = .ok v w) : ∀ dst pos after guard, (execOp a.eval ⟨dst, .binOp op T X Y U, ty, pos, after, guard⟩).run P w = .ok (.value v) w := by
  intro dst pos after guard
  have hg : (eqGuard op T X Y (.int k x) (.int k y)).run P w = .ok () w := by
    unfold eqGuard
    cases op <;> rfl
  simp only [execOp, hx, hy, Sem.run_bind, hg, Result.andThen, h]
  rfl
theorem d_add {T U : TypeId} {X Y : Operand} {k : IntKind} {x y : Int} (hx : (TI k).val ρ (a.eval X) x) (hy : (TI k).val ρ (a.eval Y) y) :
    Does P ρ w (.binOp .add T X Y U) ty a ((TI k).sv (k.wrap (x + y))) :=
  does_same (run_bin_int (val_int hx).1 (val_int hy).1 (by simp [binOp, Op.intArith])) (mk_wrap _ _)
theorem d_sub {T U : TypeId} {X Y : Operand} {k : IntKind} {x y : Int} (hx : (TI k).val ρ (a.eval X) x) (hy : (TI k).val ρ (a.eval Y) y) :
    Does P ρ w (.binOp .sub T X Y U) ty a ((TI k).sv (k.wrap (x - y))) :=
  does_same (run_bin_int (val_int hx).1 (val_int hy).1 (by simp [binOp, Op.intArith])) (mk_wrap _ _)
theorem d_mul {T U : TypeId} {X Y : Operand} {k : IntKind} {x y : Int} (hx : (TI k).val ρ (a.eval X) x) (hy : (TI k).val ρ (a.eval Y) y) :
    Does P ρ w (.binOp .mul T X Y U) ty a ((TI k).sv (k.wrap (x * y))) :=
  does_same (run_bin_int (val_int hx).1 (val_int hy).1 (by simp [binOp, Op.intArith])) (mk_wrap _ _)
theorem d_quo {T U : TypeId} {X Y : Operand} {k : IntKind} {x y : Int} (hx : (TI k).val ρ (a.eval X) x) (hy : (TI k).val ρ (a.eval Y) y) (h0 : y ≠ 0) :
    Does P ρ w (.binOp .quo T X Y U) ty a ((TI k).sv (k.wrap (x.tdiv y))) :=
  does_same (run_bin_int (val_int hx).1 (val_int hy).1 (by simp [binOp, Op.intDiv, h0])) (mk_wrap _ _)
theorem tmod_rng {k : IntKind} {x y : Int} (hx : k.min ≤ x ∧ x ≤ k.max) (hy : k.min ≤ y ∧ y ≤ k.max) (h0 : y ≠ 0) : k.min ≤ x.tmod y ∧ x.tmod y ≤ k.max := by
  have h1 : (x.tmod y).natAbs ≤ x.natAbs := by rw [Int.natAbs_tmod]; exact Nat.mod_le _ _
  have h2 : 0 ≤ x → 0 ≤ x.tmod y := fun h => Int.tmod_nonneg _ h
  have h3 : x ≤ 0 → x.tmod y ≤ 0 := fun h => by
    have := Int.tmod_nonneg y (show 0 ≤ -x by omega)
    rw [Int.neg_tmod] at this; omega
  have hm : k.min ≤ 0 ∧ 0 ≤ k.max := by cases k <;> exact ⟨by decide, by decide⟩
  rcases Int.le_total 0 x with h | h
  · have := h2 h; omega
  · have := h3 h; omega
theorem d_rem {T U : TypeId} {X Y : Operand} {k : IntKind} {x y : Int} (hx : (TI k).val ρ (a.eval X) x) (hy : (TI k).val ρ (a.eval Y) y) (h0 : y ≠ 0) :
    Does P ρ w (.binOp .rem T X Y U) ty a ((TI k).sv (x.tmod y)) :=
  does_same (run_bin_int (val_int hx).1 (val_int hy).1 (by simp [binOp, Op.intDiv, h0])) (mk_int (tmod_rng (val_int hx).2 (val_int hy).2 h0).1 (tmod_rng (val_int hx).2 (val_int hy).2 h0).2)
theorem d_lss {T U : TypeId} {X Y : Operand} {k : IntKind} {x y : Int} (hx : (TI k).val ρ (a.eval X) x) (hy : (TI k).val ρ (a.eval Y) y) :
    Does P ρ w (.binOp .lss T X Y U) ty a (TB.sv (decide (x < y))) := does_same (run_bin_int (val_int hx).1 (val_int hy).1 (by simp [binOp, Op.intCmp])) (vB _)
theorem d_leq {T U : TypeId} {X Y : Operand} {k : IntKind} {x y : Int} (hx : (TI k).val ρ (a.eval X) x) (hy : (TI k).val ρ (a.eval Y) y) :
    Does P ρ w (.binOp .leq T X Y U) ty a (TB.sv (decide (x ≤ y))) := does_same (run_bin_int (val_int hx).1 (val_int hy).1 (by simp [binOp, Op.intCmp])) (vB _)
theorem d_gtr {T U : TypeId} {X Y : Operand} {k : IntKind} {x y : Int} (hx : (TI k).val ρ (a.eval X) x) (hy : (TI k).val ρ (a.eval Y) y) :
    Does P ρ w (.binOp .gtr T X Y U) ty a (TB.sv (decide (y < x))) := does_same (run_bin_int (val_int hx).1 (val_int hy).1 (by simp [binOp, Op.intCmp])) (vB _)
theorem d_geq {T U : TypeId} {X Y : Operand} {k : IntKind} {x y : Int} (hx : (TI k).val ρ (a.eval X) x) (hy : (TI k).val ρ (a.eval Y) y) :
    Does P ρ w (.binOp .geq T X Y U) ty a (TB.sv (decide (y ≤ x))) := does_same (run_bin_int (val_int hx).1 (val_int hy).1 (by simp [binOp, Op.intCmp])) (vB _)
theorem d_eql {T U : TypeId} {X Y : Operand} {k : IntKind} {x y : Int} (hx : (TI k).val ρ (a.eval X) x) (hy : (TI k).val ρ (a.eval Y) y) :
    Does P ρ w (.binOp .eql T X Y U) ty a (TB.sv (decide (x = y))) := does_same (run_bin_int (v := .bool (decide (x = y))) (val_int hx).1 (val_int hy).1 (by simp [binOp, Op.intCmp]; rfl)) (vB _)
theorem d_neq {T U : TypeId} {X Y : Operand} {k : IntKind} {x y : Int} (hx : (TI k).val ρ (a.eval X) x) (hy : (TI k).val ρ (a.eval Y) y) :
    Does P ρ w (.binOp .neq T X Y U) ty a (TB.sv (decide (x ≠ y))) := does_same (run_bin_int (v := .bool (decide (x ≠ y))) (val_int hx).1 (val_int hy).1 (by simp [binOp, Op.intCmp, bne]; by_cases h : x = y <;> simp [h])) (vB _)
theorem d_neqB {T U : TypeId} {X Y : Operand} {x y : Bool} (hu : P.underlying T = some .bool) (hx : TB.val ρ (a.eval X) x) (hy : TB.val ρ (a.eval Y) y) :
    Does P ρ w (.binOp .neq T X Y U) ty a (TB.sv (x != y)) := by
  refine does_same (v := .bool (x != y)) (fun _ _ _ _ => ?_) (vB _)
  simp only [execOp, val_bool hx, val_bool hy, Sem.run_bind]
  simp [eqGuard, binOp, run_equal_bool w T x y hu, Result.andThen, bne]
theorem d_eqlB {T U : TypeId} {X Y : Operand} {x y : Bool} (hu : P.underlying T = some .bool) (hx : TB.val ρ (a.eval X) x) (hy : TB.val ρ (a.eval Y) y) :
    Does P ρ w (.binOp .eql T X Y U) ty a (TB.sv (x == y)) := by
  refine does_same (v := .bool (x == y)) (fun _ _ _ _ => ?_) (vB _)
  simp only [execOp, val_bool hx, val_bool hy, Sem.run_bind]
  simp [eqGuard, binOp, run_equal_bool w T x y hu, Result.andThen]
theorem d_not {T : TypeId} {X : Operand} {x : Bool} (hx : TB.val ρ (a.eval X) x) : Does P ρ w (.unOp .not T X) ty a (TB.sv (!x)) :=
  does_same (v := .bool !x) (fun _ _ _ _ => by simp only [execOp, val_bool hx]; rfl) (vB _)
theorem d_neg {T : TypeId} {X : Operand} {k : IntKind} {x : Int} (hx : (TI k).val ρ (a.eval X) x) : Does P ρ w (.unOp .neg T X) ty a ((TI k).sv (k.wrap (0 - x))) :=
  does_same (v := .int k (k.wrap (0 - x))) (fun _ _ _ _ => by simp only [execOp, (val_int hx).1]; rfl) (mk_wrap _ _)
theorem d_shr {T U : TypeId} {X Y : Operand} {k j : IntKind} {x y : Int} (hx : (TI k).val ρ (a.eval X) x) (hy : (TI j).val ρ (a.eval Y) y) (h0 : 0 ≤ y) :
    Does P ρ w (.binOp .shr T X Y U) ty a ((TI k).sv (x.fdiv (2 ^ (min y.toNat k.bits)))) := by
  obtain ⟨hxv, hx1, hx2⟩ := val_int hx
  obtain ⟨hyv, _⟩ := val_int hy
  refine does_same (v := .int k (x.fdiv (2 ^ (min y.toNat k.bits)))) (fun _ _ _ _ => ?_) ?_
  · simp only [execOp, hxv, hyv, Sem.run_bind]
    simp [eqGuard, binOp, Op.shift, show ¬ y < 0 by omega, Result.andThen]
  · have hp : (0 : Int) < 2 ^ (min y.toNat k.bits) := Int.pow_pos (by omega)
    have h1 : x.fdiv (2 ^ (min y.toNat k.bits)) = x / 2 ^ (min y.toNat k.bits) := Int.fdiv_eq_ediv_of_nonneg _ (by omega)
    rw [h1]
    have hm : k.min ≤ 0 ∧ 0 ≤ k.max := by cases k <;> exact ⟨by decide, by decide⟩
    generalize (2 : Int) ^ (min y.toNat k.bits) = p at hp
    refine mk_int ?_ ?_
    · rcases Int.le_total 0 x with h | h
      · have := Int.ediv_nonneg h (show 0 ≤ p by omega); omega
      · have : x ≤ x / p := by
          have := Int.le_ediv_of_mul_le hp (show x * p ≤ x by
            have : x * p ≤ x * 1 := Int.mul_le_mul_of_nonpos_left h (by omega)
            omega)
          exact this
        omega
    · rcases Int.le_total 0 x with h | h
      · have := Int.ediv_le_self p h; omega
      · have : x / p ≤ 0 := by
          have := Int.ediv_nonpos_of_nonpos_of_neg h hp
          exact this
        omega
theorem d_shl {T U : TypeId} {X Y : Operand} {k j : IntKind} {x y : Int} (hx : (TI k).val ρ (a.eval X) x) (hy : (TI j).val ρ (a.eval Y) y) (h0 : 0 ≤ y) :
    Does P ρ w (.binOp .shl T X Y U) ty a ((TI k).sv (k.wrap (x * 2 ^ (min y.toNat k.bits)))) := by
  obtain ⟨hxv, _⟩ := val_int hx
  obtain ⟨hyv, _⟩ := val_int hy
  refine does_same (v := .int k (k.wrap (x * 2 ^ (min y.toNat k.bits)))) (fun _ _ _ _ => ?_) (mk_wrap _ _)
  simp only [execOp, hxv, hyv, Sem.run_bind]
  simp [eqGuard, binOp, Op.shift, show ¬ y < 0 by omega, Result.andThen]
theorem d_and {T U : TypeId} {X Y : Operand} {k : IntKind} {x y : Int} (hx : (TI k).val ρ (a.eval X) x) (hy : (TI k).val ρ (a.eval Y) y) :
    Does P ρ w (.binOp .and T X Y U) ty a ((TI k).sv (bitop .and k x y)) := does_same (run_bin_int (v := .int k (bitop .and k x y)) (val_int hx).1 (val_int hy).1 (by simp [binOp, Op.intBits, bitop])) (mk_wrap _ _)
theorem d_or {T U : TypeId} {X Y : Operand} {k : IntKind} {x y : Int} (hx : (TI k).val ρ (a.eval X) x) (hy : (TI k).val ρ (a.eval Y) y) :
    Does P ρ w (.binOp .or T X Y U) ty a ((TI k).sv (bitop .or k x y)) := does_same (run_bin_int (v := .int k (bitop .or k x y)) (val_int hx).1 (val_int hy).1 (by simp [binOp, Op.intBits, bitop])) (mk_wrap _ _)
theorem d_xor {T U : TypeId} {X Y : Operand} {k : IntKind} {x y : Int} (hx : (TI k).val ρ (a.eval X) x) (hy : (TI k).val ρ (a.eval Y) y) :
    Does P ρ w (.binOp .xor T X Y U) ty a ((TI k).sv (bitop .xor k x y)) := does_same (run_bin_int (v := .int k (bitop .xor k x y)) (val_int hx).1 (val_int hy).1 (by simp [binOp, Op.intBits, bitop])) (mk_wrap _ _)
theorem d_andNot {T U : TypeId} {X Y : Operand} {k : IntKind} {x y : Int} (hx : (TI k).val ρ (a.eval X) x) (hy : (TI k).val ρ (a.eval Y) y) :
    Does P ρ w (.binOp .andNot T X Y U) ty a ((TI k).sv (bitop .andNot k x y)) := does_same (run_bin_int (v := .int k (bitop .andNot k x y)) (val_int hx).1 (val_int hy).1 (by simp [binOp, Op.intBits, bitop])) (mk_wrap _ _)
/-- A conversion between kinds of whole numbers. -/
theorem d_conv {T U : TypeId} {X : Operand} {j k : IntKind} {x : Int} (hT : P.underlying T = some (.int j)) (hU : P.underlying U = some (.int k)) (hx : (TI j).val ρ (a.eval X) x) :
    Does P ρ w (.convert T U X) ty a ((TI k).sv (k.wrap x)) := by
  refine does_same (v := .int k (k.wrap x)) (fun _ _ _ _ => ?_) (mk_wrap _ _)
  simp only [execOp, (val_int hx).1, Sem.run_bind]
  simp [convert, run_underlying hT, run_underlying hU, Conv.intToInt, Result.andThen]
/-- To a kind that has all of them. -/
theorem d_widen {T U : TypeId} {X : Operand} {j k : IntKind} {x : Int} (hT : P.underlying T = some (.int j)) (hU : P.underlying U = some (.int k)) (hw : (decide (k.min ≤ j.min) && decide (j.max ≤ k.max)) = true)
    (hx : (TI j).val ρ (a.eval X) x) : Does P ρ w (.convert T U X) ty a ((TI k).sv x) := by
  have h := d_conv (ty := ty) (w := w) hT hU hx
  simp only [Bool.and_eq_true, decide_eq_true_eq] at hw
  obtain ⟨_, h1, h2⟩ := val_int hx
  rwa [wrap_id (show k.min ≤ x by omega) (show x ≤ k.max by omega)] at h

/-! #### Parts of values -/
theorem d_extract {X : Operand} {vs : Array Value} {i : Nat} {v : Value} (hx : a.eval X = .tuple vs) (hi : vs[i]? = some v) (hR : R.p ρ v) : Does P ρ w (.extract X i) ty a R :=
  does_same (v := v) (fun _ _ _ _ => by simp [execOp, hx, Instr.extract, hi]) hR
end
end Go.Proofs.Ytnpkhhfpgedkoaa
