/-
  A row's reading, opened: what the statement reads of an argument is plain data. And what plain data are, as far as their kind tells.
-/
import Derived.Test.YtnpkhhfpgedkoaaMore
import Derived.OpenShut
import Derived.ChangeArms
import Derived.WideShapes
set_option linter.unusedVariables false
set_option linter.unusedSimpArgs false
namespace Go.Proofs.Ytnpkhhfpgedkoaa
open Go Go.RowKit

section
variable {H : Type} {enc : TypeId × Value → H} {P : Program} {W : World}
/-- What reads as this type is such data. -/
def Opens {α : Type} (enc : TypeId × Value → H) (P : Program) (W : World) (t : TypeId) (A : Ty α) : Prop :=
  ∀ fuel cs x, DataW.trod enc P W 0 (fun _ => true) true fuel t cs = some x → ∃ y, A.rep (snap W) cs y
theorem o_int {t : TypeId} {k : IntKind} (ht : P.underlying t = some (.int k)) : Opens enc P W t (TI k) := fun fuel cs x h => by
  obtain ⟨n, rfl, _, hw⟩ := DataW.trod_int ht h
  simp [Lit.wf] at hw
  exact ⟨n, rfl, hw⟩
theorem o_bool {t : TypeId} (ht : P.underlying t = some .bool) : Opens enc P W t TB := fun fuel cs x h => by
  obtain ⟨b, rfl, _⟩ := DataW.trod_bool ht h
  exact ⟨b, rfl⟩
theorem o_str {t : TypeId} (ht : P.underlying t = some .string) : Opens enc P W t TS := fun fuel cs x h => by
  obtain ⟨s, rfl, _, hs⟩ := DataW.trod_string ht h
  unfold maxLen at hs
  exact ⟨s, rfl, by omega⟩
theorem o_float {t : TypeId} {k : FloatKind} (ht : P.underlying t = some (.float k)) : Opens enc P W t (TF k) := fun fuel cs x h => by
  cases fuel with
  | zero => simp [DataW.trod] at h
  | succ m =>
    unfold DataW.trod at h
    rw [ht] at h
    split at h <;> simp_all
    obtain ⟨⟨rfl, hw⟩, _⟩ := h
    refine ⟨_, _, rfl, rfl, ?_⟩
    cases ‹FloatKind›
    · have e : (2 : Nat) ^ FloatKind.f32.format.width = 4294967296 := rfl
      rw [e]; simpa [Lit.wf] using hw
    · have e : (2 : Nat) ^ FloatKind.f64.format.width = 18446744073709551616 := rfl
      rw [e]; simpa [Lit.wf] using hw
theorem choose_list {β : Type} {p : Nat → β → Prop} : ∀ {m : Nat}, (∀ i, i < m → ∃ y, p i y) → ∃ ys : List β, ys.length = m ∧ ∀ i y, ys[i]? = some y → p i y
  | 0, _ => ⟨[], rfl, fun i y h => by simp at h⟩
  | m + 1, h => by
    obtain ⟨ys, hl, hy⟩ := choose_list (m := m) (fun i hi => h i (by omega))
    obtain ⟨y, hp⟩ := h m (by omega)
    refine ⟨ys ++ [y], by simp [hl], fun i z hz => ?_⟩
    rw [List.getElem?_append] at hz
    split at hz
    · exact hy i z hz
    · rename_i hn
      rw [List.getElem?_singleton] at hz
      split at hz
      · cases hz
        have : i = m := by omega
        subst this; exact hp
      · cases hz
theorem o_arr {α : Type} {A : Ty α} {t e : TypeId} {m : Nat} (ht : P.underlying t = some (.array m e)) (hc : P.cellsOf t = (TArr m A).n) (he : P.cellsOf e = A.n) (h : Opens enc P W e A) : Opens enc P W t (TArr m A) := fun fuel cs x hf => by
  obtain ⟨xs, k, rfl, _, hl, hx, hi⟩ := DataW.trod_array ht hf
  rw [he] at hi
  obtain ⟨ys, hy, hp⟩ := choose_list (p := fun i y => A.rep (snap W) (chunk A.n i cs) y) (m := m) (fun i him => by
    have := hi i him
    rw [List.getElem?_eq_getElem (show i < xs.length by omega)] at this
    exact h _ _ _ this)
  exact ⟨ys, by rw [hl, hc]; rfl, hy, hp⟩
theorem o_sl {α : Type} {A : Ty α} {t e : TypeId} (ht : P.underlying t = some (.slice e)) (he : P.cellsOf e = A.n) (h : Opens enc P W e A) : Opens enc P W t (TSl A) := fun fuel cs x hf => by
  rcases DataW.trod_slice ht hf with ⟨rfl, _⟩ | ⟨a, len, cap, elems, rest, n, _, rfl, rfl, hb, hl, hm, hlen, hel, hsp, hns⟩
  · exact ⟨[], none, 0, 0, rfl, rfl, ⟨Nat.le_refl _, by decide⟩, fun _ => rfl, fun a h => by cases h⟩
  · unfold maxLen at hm
    obtain ⟨ys, hy, hp⟩ := choose_list (p := fun i y => ∃ ds, Seg (snap W) (a.add (i * A.n)) ds ∧ A.rep (snap W) ds y) (m := len) (fun i hi => by
      have := hel i hi
      rw [List.getElem?_eq_getElem (show i < elems.length by omega), Option.bind_eq_some_iff] at this
      obtain ⟨ds, hds, htr⟩ := this
      obtain ⟨y, hy⟩ := h _ _ _ htr
      rw [he] at hds
      obtain ⟨_, h2, h3⟩ := World.cells?_some hds
      refine ⟨y, ds, fun j v hj => ?_, hy⟩
      rw [cellAt_snap, h3 j (by have := (List.getElem?_eq_some_iff.1 hj).1; omega)]; exact hj)
    exact ⟨ys, some a, len, cap, rfl, hy.symm, ⟨hl, by omega⟩, (fun h => by cases h), fun a' e i x hx => by cases e; exact hp i x hx⟩
/-- Fields, one behind the other. -/
def Parts (enc : TypeId × Value → H) (P : Program) (W : World) (l : List (TypeId × Nat × Nat)) (cs : List Value) : Prop :=
  ∀ e ∈ l, ∃ m x, DataW.trod enc P W 0 (fun _ => true) true m e.1 ((cs.drop e.2.1).take e.2.2) = some x
def OpensF {α : Type} (enc : TypeId × Value → H) (P : Program) (W : World) (l : List (TypeId × Nat × Nat)) (b : Nat) (A : Ty α) : Prop :=
  ∀ cs : List Value, cs.length = b + A.n → Parts enc P W l cs → ∃ y, A.rep (snap W) (cs.drop b) y
theorem of_last {α : Type} {A : Ty α} {t b : Nat} (h : Opens enc P W t A) : OpensF enc P W [(t, b, A.n)] b A := fun cs hl hp => by
  obtain ⟨m, x, hx⟩ := hp _ (List.mem_singleton.2 rfl)
  have : (cs.drop b).take A.n = cs.drop b := List.take_of_length_le (by simp; omega)
  simp only [this] at hx
  exact h _ _ _ hx
theorem of_cons {α β : Type} {A : Ty α} {B : Ty β} {t b b' : Nat} {l : List (TypeId × Nat × Nat)} (hb : b' = b + A.n) (h : Opens enc P W t A) (k : OpensF enc P W l b' B) : OpensF enc P W ((t, b, A.n) :: l) b (TPair A B) := fun cs hl hp => by
  subst hb
  obtain ⟨m, x, hx⟩ := hp _ (List.mem_cons_self)
  obtain ⟨y, hy⟩ := h _ _ _ hx
  obtain ⟨z, hz⟩ := k cs (by have : (TPair A B).n = A.n + B.n := rfl; omega) (fun e he => hp e (List.mem_cons_of_mem _ he))
  exact ⟨(y, z), hy, by rw [List.drop_drop]; exact hz⟩
theorem o_struct {α : Type} {A : Ty α} {t : TypeId} {fs : Array Field} {l : List (TypeId × Nat × Nat)} (ht : P.underlying t = some (.struct fs)) (hc : P.cellsOf t = A.n) (hl : (fs.toList.map fun f => (f.type, f.offset, P.cellsOf f.type)) = l) (h : OpensF enc P W l 0 A) : Opens enc P W t A := fun fuel cs x hf => by
  obtain ⟨xs, n, rfl, _, hlen, hx, hi⟩ := DataW.trod_struct ht hf
  have := h cs (by rw [hlen, hc]; omega) (fun e he => by
    rw [← hl, List.mem_map] at he
    obtain ⟨f, hf, rfl⟩ := he
    obtain ⟨i, hi'⟩ := List.getElem?_of_mem hf
    have hlt := (List.getElem?_eq_some_iff.1 hi').1
    have h2 := hi i f (by simpa using hi')
    rw [List.getElem?_eq_getElem (show i < xs.length by simp at hlt; omega)] at h2
    exact ⟨_, _, h2⟩)
  simpa using this
/-- An argument. -/
theorem open_agg {α : Type} {A : Ty α} {t : TypeId} {r : Reach} {b0 : Nat} {v : Value} {d : DataW H} {ps : List MemPlace} (h : Opens enc P W t A) (hg : A.agg = true) (hu : (match P.underlying t with | some (.struct _) | some (.array _ _) => true | _ => false) = true)
    (hval : Value.okWide P W r b0 t v) (hd : DataW.Trod enc P W 0 (fun _ => true) true t v d ps) : ∃ x, A.val (snap W) v x := by
  obtain ⟨fuel, hf⟩ := hd
  obtain ⟨y, hy⟩ := h _ _ _ hf
  unfold Value.okWide at hval
  split at hval
  · obtain ⟨cs, rfl, _⟩ := hval; exact ⟨y, cs.toList, hy, by simp [pack, hg]⟩
  · obtain ⟨cs, rfl, _⟩ := hval; exact ⟨y, cs.toList, hy, by simp [pack, hg]⟩
  · rename_i h1 h2
    split at hu
    · rename_i f e; exact absurd e (h1 f)
    · rename_i n e e'; exact absurd e' (h2 n e)
    · cases hu
theorem open_one {α : Type} {A : Ty α} {t : TypeId} {r : Reach} {b0 : Nat} {v : Value} {d : DataW H} {ps : List MemPlace} (h : Opens enc P W t A) (hg : A.agg = false) (hu : (match P.underlying t with | some (.struct _) | some (.array _ _) => true | _ => false) = false)
    (hval : Value.okWide P W r b0 t v) (hd : DataW.Trod enc P W 0 (fun _ => true) true t v d ps) : ∃ x, A.val (snap W) v x := by
  obtain ⟨fuel, hf⟩ := hd
  obtain ⟨y, hy⟩ := h _ _ _ hf
  have hc : v.cells = #[v] := by
    cases v <;> try rfl
    rename_i cs
    exfalso
    unfold Value.okWide at hval
    split at hval
    · rename_i e; rw [e] at hu; cases hu
    · rename_i e; rw [e] at hu; cases hu
    · unfold Cell.okWide at hval
      split at hval <;> first | (rename_i e; cases e; done) | skip
      all_goals first | (unfold Cell.ok at hval; split at hval <;> simp_all; done) | simp_all
  rw [hc] at hy
  exact ⟨y, [v], hy, by simp [pack, hg]⟩
end

/-! ### What plain data are -/
def Ok {α : Type} (A : Ty α) (G : α → Prop) : Prop := ∀ ρ cs x, A.rep ρ cs x → G x
theorem Ok.val {α : Type} {A : Ty α} {G : α → Prop} (h : Ok A G) {ρ : Heap} {v : Value} {x : α} (e : A.val ρ v x) : G x := let ⟨_, r, _⟩ := e; h _ _ _ r
theorem ok_TI (k : IntKind) : Ok (TI k) fun x => k.min ≤ x ∧ x ≤ k.max := fun _ _ _ h => h.2
theorem ok_TB : Ok TB fun _ => True := fun _ _ _ _ => trivial
theorem ok_TF (k : FloatKind) : Ok (TF k) fun x => ∃ b, x = cn k b ∧ b < 2 ^ k.format.width := fun _ _ _ ⟨b, _, h, hb⟩ => ⟨b, h.symm, hb⟩
theorem ok_TS : Ok TS fun x => x.size ≤ 9223372036854775807 := fun _ _ _ h => h.2
theorem ok_TArr {α : Type} {A : Ty α} {G : α → Prop} {m : Nat} (h : Ok A G) : Ok (TArr m A) fun xs => xs.length = m ∧ ∀ x ∈ xs, G x := fun _ _ _ ⟨_, h2, h3⟩ => ⟨h2, fun x hx => let ⟨i, hi⟩ := List.getElem?_of_mem hx; h _ _ _ (h3 i x hi)⟩
theorem ok_TPair {α β : Type} {A : Ty α} {B : Ty β} {G : α → Prop} {K : β → Prop} (h : Ok A G) (k : Ok B K) : Ok (TPair A B) fun p => G p.1 ∧ K p.2 := fun _ _ _ ⟨h1, h2⟩ => ⟨h _ _ _ h1, k _ _ _ h2⟩
theorem ok_TSl {α : Type} {A : Ty α} {G : α → Prop} (h : Ok A G) : Ok (TSl A) fun xs => xs.length ≤ 9223372036854775807 ∧ ∀ x ∈ xs, G x := fun _ _ _ ⟨a, l, c, h1, h2, h3, h4, h5⟩ => ⟨by omega, fun x hx => by
  obtain ⟨i, hi⟩ := List.getElem?_of_mem hx
  cases a with
  | none => have := h4 rfl; have := (List.getElem?_eq_some_iff.1 hi).1; omega
  | some a => obtain ⟨ds, _, hr⟩ := h5 a rfl i x hi; exact h _ _ _ hr⟩
end Go.Proofs.Ytnpkhhfpgedkoaa
