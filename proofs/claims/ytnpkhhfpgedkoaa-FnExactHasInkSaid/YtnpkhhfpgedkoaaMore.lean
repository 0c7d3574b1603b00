/-
  What the printed walks lean on, beyond the steps.
-/
import Derived.Test.YtnpkhhfpgedkoaaStep
set_option linter.unusedVariables false
set_option linter.unusedSimpArgs false
namespace Go.Proofs.Ytnpkhhfpgedkoaa
open Go

/-! ### Control -/
section
variable {P : Program} {C : Ctx} {Γ : Nat → SRel} {H : Nat → Res} {Q : Exit → Act → World → Prop}
theorem T.joinD {ι : Type} {x : Code} (D : ι → Prop) {Γ' : ι → Nat → SRel} {H' : ι → Nat → Res} (k : ∀ p, D p → T C (Γ' p) (H' p) (Q .normal)) (h : (∀ p, D p → T C (Γ' p) (H' p) (Q .normal)) → T C Γ H (x.wp P Q)) : T C Γ H (x.wp P Q) := h k
theorem T.joinS {ι : Type} {x : Code} {Γ' : ι → Nat → SRel} {H' : ι → Nat → Res} (k : ∀ p, T C (Γ' p) (H' p) (Q .normal)) (h : (∀ p, T C (Γ' p) (H' p) (Q .normal)) → T C Γ H (x.wp P Q)) : T C Γ H (x.wp P Q) := h k
theorem T.passX {id : Nat} {n : Act → World → Prop} (h : T C Γ H (Q (.exit id))) : T C Γ H (Exit.then n Q (.exit id)) := h
theorem T.inX {i j : Nat} (hn : ¬ j = i) (h : T C Γ H (Q (.exit j))) : T C Γ H (Exit.inBlock i Q (.exit j)) := T.there (φ := fun a w => Q .normal a w) hn h
theorem T.hereX {i : Nat} (h : T C Γ H (Q .normal)) : T C Γ H (Exit.inBlock i Q (.exit i)) := T.here (ψ := fun a w => Q (.exit i) a w) rfl h
theorem T.fallX {i : Nat} (h : T C Γ H (Q .normal)) : T C Γ H (Exit.inBlock i Q .normal) := h
theorem T.toh {φ : Act → World → Prop} {l : List (Nat × SRel)} {hl : List (Nat × Res)} (h : T C (E l) (HL hl) φ) (k : Ents Γ l) (kh : HEnts H hl) : T C Γ H φ := T.to k kh h
theorem T.atEnd {fn : Func} {R : Ending → World → Prop} (h : T C Γ H (bodyPost P fn R .ret)) : T C Γ H (bodyPost P fn R .normal) := h
end

/-! ### Picks -/
section
variable {ρ : Heap} {v : Value} {b c x : Bool}
theorem pA (hc : c = true) (h : TB.val ρ v b) : (TB.sv (c && b)).p ρ v := by subst hc; exact h
theorem pAN (hc : c = false) : (TB.sv (c && b)).p ρ (.bool false) := by subst hc; exact vB _
theorem pO (hc : c = false) (h : TB.val ρ v b) : (TB.sv (c || b)).p ρ v := by subst hc; exact h
theorem pON (hc : c = true) : (TB.sv (c || b)).p ρ (.bool true) := by subst hc; exact vB _
theorem pE (e : b = x) (h : TB.val ρ v b) : (TB.sv x).p ρ v := by subst e; exact h
theorem pC (e : b = x) : (TB.sv x).p ρ (.bool b) := by subst e; exact vB _
theorem rng_nn {k : IntKind} {y : Int} (hk : decide (0 ≤ k.min) = true) (h : (TI k).val ρ v y) : 0 ≤ y := by
  have := (val_int h).2.1
  simp at hk
  omega
end

/-! ### Own memory, told in parts -/
section
variable {P : Program} {C : Ctx} {Γ : Nat → SRel} {H : Nat → Res} {ρ : Heap} {w : World} {a : Act} {ty : TypeId}
theorem d_nilCheckB {α : Type} {A : Ty α} {E : TypeId} {x : α} {X : Operand} {v : Value} (hs : Sat C H ρ w) (id : Nat) (hH : H id = boxR E A x v) (h : a.eval X = v) : Does P ρ w (.nilCheck X) ty a (SRel.eq v) := by
  have hk := hs.ok id
  rw [hH] at hk
  obtain ⟨b, cs, rfl, _⟩ := box_own hk
  exact d_nilCheckO (p := ⟨b, 0, none⟩) h
/-- A part of own memory, handed to a callee that only reads. -/
theorem part_ro {α β : Type} {A : Ty α} {B : Ty β} {E : TypeId} {x : α} {y : β} {put : β → α} {v u : Value} {o : Nat} (hs : Sat C H ρ w) (id : Nat) (hH : H id = boxR E A x v) (h : PtrTo v o u) (hat : At A x o B y put) : (TP B).val (snap w) u y := by
  have hk := hs.ok id
  rw [hH] at hk
  obtain ⟨b, cs, rfl, ho, hr, _⟩ := box_own hk
  have := ptr_to h
  subst this
  refine Ty.val_of_one rfl ⟨⟨b, o, none⟩, (cs.drop o).take B.n, rfl, fun i v hi => ?_, B.mono hs.le (hat.get ρ cs hr)⟩
  rw [add_at, cellAt_snap]
  rw [List.getElem?_take] at hi
  split at hi
  · rw [List.getElem?_drop] at hi
    simp [World.cell?, ho, hi]
  · cases hi
theorem loose_boxR {α : Type} {A : Ty α} {E : TypeId} {x : α} {v : Value} (h : A.Flat) : (boxR E A x v).Loose := fun ρ σ o hk => by
  obtain ⟨b, cs, h0, h1, h2⟩ := hk
  exact ⟨b, cs, h0, h1, h _ _ _ _ h2⟩
/-- What an own part of a result is, in the caller's words. -/
theorem hand_on' {w0 : World} {n : Nat} {r : Res} {bs : List Nat} (hs : Sat ⟨w0, [], n⟩ H ρ w) (id : Nat) (hH : H id = r) (hl : r.Loose) (hb : ∀ b, r.blk = some b → b ∈ bs) : r.holds (freshX w0 w bs) w ∧ ∀ b, r.blk = some b → w0.heap.size ≤ b :=
  hand_on hs id hH hl bs hb
end
end Go.Proofs.Ytnpkhhfpgedkoaa
