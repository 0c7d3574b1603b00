/-
  Plain words: loops with a bound on their rounds, reading out of lists, floats as bits. No program, no memory.
-/
import GoSem.Core.Float
import GoSem.Core.View
set_option linter.unusedVariables false
namespace Go.Proofs.Ytnpkhhfpgedkoaa
open Go

/-- At most so many rounds. -/
@[irreducible] def rounds : Nat := 18446744073709551616
def loopN {σ τ : Type} : Nat → (σ → Option (σ ⊕ τ)) → σ → Option τ
  | 0, _, _ => none
  | k + 1, f, s => match f s with
    | some (.inl s') => loopN k f s'
    | some (.inr y) => some y
    | none => none
def nextN {σ τ : Type} (k : Nat) (f : σ → Option (σ ⊕ τ)) (y : τ) : σ ⊕ τ → Prop
  | .inl s' => loopN k f s' = some y
  | .inr y' => y' = y
theorem loopN_succ {σ τ : Type} {k : Nat} {f : σ → Option (σ ⊕ τ)} {s : σ} {y : τ} (h : loopN (k + 1) f s = some y) : ∃ u, f s = some u ∧ nextN k f y u := by
  unfold loopN at h
  cases hu : f s with
  | none => rw [hu] at h; cases h
  | some u =>
    rw [hu] at h
    refine ⟨u, rfl, ?_⟩
    cases u with
    | inl s' => exact h
    | inr y' => simpa [nextN] using h

theorem bindS {α β : Type} {o : Option α} {f : α → Option β} {r : β} (h : o.bind f = some r) : ∃ x, o = some x ∧ f x = some r := by
  cases o with
  | none => cases h
  | some x => exact ⟨x, rfl, h⟩

/-- An element, if there is one. -/
def idx {α : Type} (xs : List α) (i : Int) : Option α := if 0 ≤ i then xs[i.toNat]? else none
theorem idx_get {α : Type} {xs : List α} {i : Int} {x : α} (h : idx xs i = some x) : 0 ≤ i ∧ xs[i.toNat]? = some x := by
  unfold idx at h
  split at h
  · exact ⟨‹_›, h⟩
  · cases h
theorem idx_lt {α : Type} {xs : List α} {i : Int} {x : α} (h : idx xs i = some x) : 0 ≤ i ∧ i < xs.length := by
  obtain ⟨h0, h1⟩ := idx_get h
  have := (List.getElem?_eq_some_iff.1 h1).1
  omega
/-- An element of an array. -/
def nth {α : Type} [Inhabited α] (xs : List α) (i : Nat) : α := xs.getD i default
theorem nth_get {α : Type} [Inhabited α] {xs : List α} {i : Nat} (h : i < xs.length) : xs[i]? = some (nth xs i) := by
  simp [nth, List.getElem?_eq_getElem h]
/-- The most that a slice may hold here. -/
def most : Nat := 1073741824
/-- What appending makes. -/
def app {α : Type} (xs ys : List α) : Option (List α) := if xs.length + ys.length ≤ most then some (xs ++ ys) else none
theorem app_get {α : Type} {xs ys zs : List α} (h : app xs ys = some zs) : xs.length + ys.length ≤ most ∧ zs = xs ++ ys := by
  unfold app at h
  split at h
  · cases h; exact ⟨‹_›, rfl⟩
  · cases h
/-- Where a condition is asked for. -/
def need (b : Bool) : Option Unit := if b = true then some () else none
theorem need_get {b : Bool} {u : Unit} (h : need b = some u) : b = true := by
  unfold need at h
  split at h
  · assumption
  · cases h
def bitop (op : BinOp) (k : IntKind) (x y : Int) : Int :=
  let a := BitVec.ofInt k.bits x
  let b := BitVec.ofInt k.bits y
  match op with
  | .and => k.wrap (a &&& b).toNat
  | .or => k.wrap (a ||| b).toNat
  | .xor => k.wrap (a ^^^ b).toNat
  | _ => k.wrap (a &&& ~~~b).toNat

def isNaN (k : FloatKind) (b : Nat) : Bool := (k.decode b).isNaN
def qnan (k : FloatKind) : Nat := match k with | .f32 => 0x7fc00000 | .f64 => 0x7ff8000000000000
/-- A float as data: its bits, one for all that are no numbers. -/
def cn (k : FloatKind) (b : Nat) : Nat := if isNaN k b then qnan k else b
/-- What comes of floats, as data. -/
def fout (k : FloatKind) : Option Nat → Nat
  | some r => cn k r
  | none => qnan k
@[irreducible] def fadd (k : FloatKind) (x y : Nat) : Nat := fout k (k.format.add x y)
@[irreducible] def fsub (k : FloatKind) (x y : Nat) : Nat := fout k (k.format.sub x y)
@[irreducible] def fmul (k : FloatKind) (x y : Nat) : Nat := fout k (k.format.mul x y)
@[irreducible] def fdiv (k : FloatKind) (x y : Nat) : Nat := fout k (k.format.div x y)
@[irreducible] def fsqrt (k : FloatKind) (x : Nat) : Nat := fout k (k.format.sqrt x)
@[irreducible] def feql (k : FloatKind) (x y : Nat) : Bool := k.format.order x y == some .eq
@[irreducible] def fneq (k : FloatKind) (x y : Nat) : Bool := k.format.order x y != some .eq
@[irreducible] def flss (k : FloatKind) (x y : Nat) : Bool := k.format.order x y == some .lt
@[irreducible] def fleq (k : FloatKind) (x y : Nat) : Bool := k.format.order x y == some .lt || k.format.order x y == some .eq
@[irreducible] def fgtr (k : FloatKind) (x y : Nat) : Bool := k.format.order x y == some .gt
@[irreducible] def fgeq (k : FloatKind) (x y : Nat) : Bool := k.format.order x y == some .gt || k.format.order x y == some .eq
@[irreducible] def fneg (k : FloatKind) (x : Nat) : Nat := cn k (x ^^^ 2 ^ (k.format.exponentBits + k.format.fractionBits))
@[irreducible] def fofI (k : FloatKind) (n : Int) : Nat := cn k (k.nearest n)
/-- To another format, where it fits. -/
@[irreducible] def fconv (j k : FloatKind) (x : Nat) : Option Nat := match j.decode x with
  | .nan _ _ => some (qnan k)
  | .infinity s => some (cn k (k.encode (.infinity s)))
  | .number s m e => if (k.decode (k.encode (.number s m e))).isInfinity then none else some (cn k (k.encode (.number s m e)))
/-- To a whole number, where it fits. -/
@[irreducible] def ftoI (j : FloatKind) (k : IntKind) (x : Nat) : Option Int := match (j.decode x).toInt .zero with
  | some n => if k.min ≤ n ∧ n ≤ k.max then some n else none
  | none => none
/-- The whole number below. -/
@[irreducible] def ffloor (x : Nat) : Nat := match FloatKind.f64.decode x with
  | .nan _ _ => qnan .f64
  | d => cn .f64 (FloatKind.f64.encode (d.integral .down))
end Go.Proofs.Ytnpkhhfpgedkoaa
