/-
  The base of this seat's proofs: how values in memory stand for plain data, what is known at a point of a walk, and the rules by which a walk goes on.
-/
import Derived.Test.YtnpkhhfpgedkoaaPure
import Derived.WalkKit
import Derived.Orders
import Derived.Below
set_option linter.unusedVariables false
set_option linter.unusedSimpArgs false
namespace Go.Proofs.Ytnpkhhfpgedkoaa
open Go

/-- What is known of memory: some blocks, just as they are. -/
abbrev Heap := Nat → Option Obj
def Heap.le (ρ σ : Heap) : Prop := ∀ b o, ρ b = some o → σ b = some o
theorem Heap.le_refl (ρ : Heap) : ρ.le ρ := fun _ _ h => h
theorem Heap.le_trans {ρ σ τ : Heap} (h : ρ.le σ) (k : σ.le τ) : ρ.le τ := fun b o e => k b o (h b o e)
def snap (w : World) : Heap := fun b => w.heap[b]?
def Heap.plus (ρ σ : Heap) : Heap := fun b => match ρ b with | some o => some o | none => σ b
theorem Heap.le_plus (ρ σ : Heap) : ρ.le (ρ.plus σ) := fun b o h => by simp [Heap.plus, h]
def fresh (w w' : World) : Heap := fun b => if b < w.heap.size then none else w'.heap[b]?
theorem fresh_le (w w' : World) : (fresh w w').le (snap w') := fun b o h => by
  unfold fresh at h
  split at h
  · cases h
  · exact h

def cellAt (ρ : Heap) (a : Addr) : Option Value :=
  match ρ a.block with
  | some (.cells c _ _) => if a.spot.isSome then none else c[a.off]?
  | _ => none
theorem cellAt_snap (w : World) (a : Addr) : cellAt (snap w) a = w.cell? a := rfl
theorem cellAt_mono {ρ σ : Heap} (h : ρ.le σ) {a : Addr} {v : Value} (e : cellAt ρ a = some v) : cellAt σ a = some v := by
  unfold cellAt at *
  split at e
  · rename_i c t f hb
    rw [h _ _ hb]; exact e
  · cases e

/-- The cells from an address on. -/
def Seg (ρ : Heap) (a : Addr) (cs : List Value) : Prop := ∀ i v, cs[i]? = some v → cellAt ρ (a.add i) = some v
theorem Seg.mono {ρ σ : Heap} (h : ρ.le σ) {a : Addr} {cs : List Value} (e : Seg ρ a cs) : Seg σ a cs := fun i v hi => cellAt_mono h (e i v hi)

theorem Addr.add_add (a : Addr) (m n : Nat) : (a.add m).add n = a.add (m + n) := by
  unfold Addr.add
  split
  · subst_vars; simp
  · split
    · subst_vars; rename_i h; simp [h]
    · rw [if_neg (by omega)]; simp [Nat.add_assoc]

theorem Seg.drop {ρ : Heap} {a : Addr} {cs : List Value} (e : Seg ρ a cs) (k : Nat) : Seg ρ (a.add k) (cs.drop k) := fun i v hi => by
  rw [Addr.add_add]; exact e _ _ (by simpa using hi)
theorem Seg.take {ρ : Heap} {a : Addr} {cs : List Value} (e : Seg ρ a cs) (k : Nat) : Seg ρ a (cs.take k) := fun i v hi => by
  refine e _ _ ?_
  rw [List.getElem?_take] at hi
  split at hi
  · exact hi
  · cases hi

/-- How some cells stand for plain data. -/
structure Ty (α : Type) where
  n : Nat
  agg : Bool
  rep : Heap → List Value → α → Prop
  len : ∀ {ρ cs x}, rep ρ cs x → cs.length = n
  one : agg = false → n = 1
  plain : ∀ {ρ cs x}, rep ρ cs x → ∀ c ∈ cs, c.oneCell' = true
  mono : ∀ {ρ σ cs x}, ρ.le σ → rep ρ cs x → rep σ cs x

def pack (agg : Bool) (cs : List Value) : Value := if agg then .agg cs.toArray else cs.headD undef
def Ty.val {α : Type} (T : Ty α) (ρ : Heap) (v : Value) (x : α) : Prop := ∃ cs, T.rep ρ cs x ∧ v = pack T.agg cs
theorem Ty.val_mono {α : Type} (T : Ty α) {ρ σ : Heap} {v : Value} {x : α} (h : ρ.le σ) (e : T.val ρ v x) : T.val σ v x :=
  let ⟨cs, r, q⟩ := e; ⟨cs, T.mono h r, q⟩
/-- Data without a way into memory. -/
def Ty.Flat {α : Type} (T : Ty α) : Prop := ∀ ρ σ cs x, T.rep ρ cs x → T.rep σ cs x
theorem Ty.Flat.val {α : Type} {T : Ty α} (h : T.Flat) {ρ : Heap} (σ : Heap) {v : Value} {x : α} (e : T.val ρ v x) : T.val σ v x :=
  let ⟨cs, r, q⟩ := e; ⟨cs, h _ _ _ _ r, q⟩
theorem Ty.val_one {α : Type} {T : Ty α} (hg : T.agg = false) {ρ : Heap} {v : Value} {x : α} (h : T.val ρ v x) : T.rep ρ [v] x := by
  obtain ⟨cs, r, q⟩ := h
  have hl := T.len r
  rw [T.one hg] at hl
  match cs, hl with
  | [c], _ => simp [pack, hg] at q; subst q; exact r
theorem Ty.val_of_one {α : Type} {T : Ty α} (hg : T.agg = false) {ρ : Heap} {v : Value} {x : α} (h : T.rep ρ [v] x) : T.val ρ v x := ⟨[v], h, by simp [pack, hg]⟩
theorem Ty.val_agg {α : Type} {T : Ty α} (hg : T.agg = true) {ρ : Heap} {v : Value} {x : α} (h : T.val ρ v x) : ∃ cs, T.rep ρ cs x ∧ v = .agg cs.toArray := by
  obtain ⟨cs, r, q⟩ := h
  exact ⟨cs, r, by simpa [pack, hg] using q⟩
theorem Ty.val_cells {α : Type} {T : Ty α} {ρ : Heap} {v : Value} {x : α} (h : T.val ρ v x) : T.rep ρ v.cells.toList x := by
  cases hg : T.agg with
  | true => obtain ⟨cs, r, rfl⟩ := Ty.val_agg hg h; simpa [Value.cells] using r
  | false =>
    have r := Ty.val_one hg h
    have := T.plain r v (by simp)
    have hc : v.cells = #[v] := by cases v <;> simp [Value.cells, Value.oneCell'] at *
    rw [hc]; exact r

/-! ### The kinds of data -/
def TI (k : IntKind) : Ty Int where
  n := 1
  agg := false
  rep := fun _ cs x => cs = [.int k x] ∧ k.min ≤ x ∧ x ≤ k.max
  len := by rintro _ _ _ ⟨rfl, _⟩; rfl
  one := fun _ => rfl
  plain := by rintro _ _ _ ⟨rfl, _⟩ c hc; simp at hc; subst hc; rfl
  mono := fun _ h => h
def TB : Ty Bool where
  n := 1
  agg := false
  rep := fun _ cs x => cs = [.bool x]
  len := by rintro _ _ _ rfl; rfl
  one := fun _ => rfl
  plain := by rintro _ _ _ rfl c hc; simp at hc; subst hc; rfl
  mono := fun _ h => h
def TF (k : FloatKind) : Ty Nat where
  n := 1
  agg := false
  rep := fun _ cs x => ∃ b, cs = [.float k b] ∧ cn k b = x ∧ b < 2 ^ k.format.width
  len := by rintro _ _ _ ⟨b, rfl, _⟩; rfl
  one := fun _ => rfl
  plain := by rintro _ _ _ ⟨b, rfl, _⟩ c hc; simp at hc; subst hc; rfl
  mono := fun _ h => h
def TS : Ty ByteArray where
  n := 1
  agg := false
  rep := fun _ cs x => cs = [.string x] ∧ x.size ≤ 9223372036854775807
  len := by rintro _ _ _ ⟨rfl, _⟩; rfl
  one := fun _ => rfl
  plain := by rintro _ _ _ ⟨rfl, _⟩ c hc; simp at hc; subst hc; rfl
  mono := fun _ h => h
def chunk (n i : Nat) (cs : List Value) : List Value := (cs.drop (i * n)).take n
theorem mem_chunks {n m : Nat} {cs : List Value} (h : cs.length = m * n) {c : Value} (hc : c ∈ cs) : ∃ i, i < m ∧ c ∈ chunk n i cs := by
  obtain ⟨j, hj, rfl⟩ := List.getElem_of_mem hc
  have hn : 0 < n := by
    rcases Nat.eq_zero_or_pos n with h0 | h0
    · subst h0; rw [Nat.mul_zero] at h; omega
    · exact h0
  refine ⟨j / n, Nat.div_lt_of_lt_mul (by rw [Nat.mul_comm n m, ← h]; exact hj), ?_⟩
  unfold chunk
  rw [List.mem_iff_getElem?]
  refine ⟨j % n, ?_⟩
  rw [List.getElem?_take, if_pos (Nat.mod_lt _ hn), List.getElem?_drop]
  have : j / n * n + j % n = j := Nat.div_add_mod' j n
  rw [this, List.getElem?_eq_getElem hj]
def TArr {α : Type} (m : Nat) (T : Ty α) : Ty (List α) where
  n := m * T.n
  agg := true
  rep := fun ρ cs xs => cs.length = m * T.n ∧ xs.length = m ∧ ∀ i x, xs[i]? = some x → T.rep ρ (chunk T.n i cs) x
  len := fun h => h.1
  one := fun h => by cases h
  plain := by
    rintro ρ cs xs ⟨h1, h2, h3⟩ c hc
    obtain ⟨i, hi, hm⟩ := mem_chunks h1 hc
    exact T.plain (h3 i _ (List.getElem?_eq_getElem (by omega))) c hm
  mono := fun h ⟨h1, h2, h3⟩ => ⟨h1, h2, fun i x e => T.mono h (h3 i x e)⟩
def TPair {α β : Type} (A : Ty α) (B : Ty β) : Ty (α × β) where
  n := A.n + B.n
  agg := true
  rep := fun ρ cs x => A.rep ρ (cs.take A.n) x.1 ∧ B.rep ρ (cs.drop A.n) x.2
  len := by
    rintro ρ cs x ⟨h1, h2⟩
    have a := A.len h1
    have b := B.len h2
    simp at a b
    omega
  one := fun h => by cases h
  plain := by
    rintro ρ cs x ⟨h1, h2⟩ c hc
    rw [← List.take_append_drop A.n cs] at hc
    rcases List.mem_append.1 hc with h | h
    · exact A.plain h1 c h
    · exact B.plain h2 c h
  mono := fun h ⟨h1, h2⟩ => ⟨A.mono h h1, B.mono h h2⟩
/-- A slice that is only read. -/
def TSl {α : Type} (T : Ty α) : Ty (List α) where
  n := 1
  agg := false
  rep := fun ρ cs xs => ∃ a len cap, cs = [.slice a len cap] ∧ len = xs.length ∧ (len ≤ cap ∧ cap ≤ 9223372036854775807) ∧ (a = none → cap = 0) ∧
    ∀ a', a = some a' → ∀ i x, xs[i]? = some x → ∃ ds, Seg ρ (a'.add (i * T.n)) ds ∧ T.rep ρ ds x
  len := by rintro _ _ _ ⟨a, l, c, rfl, _⟩; rfl
  one := fun _ => rfl
  plain := by rintro _ _ _ ⟨a, l, c, rfl, _⟩ d hd; simp at hd; subst hd; rfl
  mono := by
    rintro ρ σ cs xs h ⟨a, l, c, h1, h2, h3, h4, h5⟩
    exact ⟨a, l, c, h1, h2, h3, h4, fun a' e i x hx => let ⟨ds, s, r⟩ := h5 a' e i x hx; ⟨ds, s.mono h, T.mono h r⟩⟩
/-- A pointer to what is only read. -/
def TP {α : Type} (T : Ty α) : Ty α where
  n := 1
  agg := false
  rep := fun ρ cs x => ∃ a ds, cs = [.pointer (some a)] ∧ Seg ρ a ds ∧ T.rep ρ ds x
  len := by rintro _ _ _ ⟨a, ds, rfl, _⟩; rfl
  one := fun _ => rfl
  plain := by rintro _ _ _ ⟨a, ds, rfl, _⟩ d hd; simp at hd; subst hd; rfl
  mono := by
    rintro ρ σ cs x h ⟨a, ds, h1, h2, h3⟩
    exact ⟨a, ds, h1, h2.mono h, T.mono h h3⟩

theorem flat_TI (k : IntKind) : (TI k).Flat := fun _ _ _ _ h => h
theorem flat_TB : TB.Flat := fun _ _ _ _ h => h
theorem flat_TF (k : FloatKind) : (TF k).Flat := fun _ _ _ _ h => h
theorem flat_TS : TS.Flat := fun _ _ _ _ h => h
theorem flat_TArr {α : Type} {m : Nat} {T : Ty α} (h : T.Flat) : (TArr m T).Flat := fun _ _ _ _ ⟨h1, h2, h3⟩ => ⟨h1, h2, fun i x e => h _ _ _ _ (h3 i x e)⟩
theorem flat_TPair {α β : Type} {A : Ty α} {B : Ty β} (h : A.Flat) (k : B.Flat) : (TPair A B).Flat := fun _ _ _ _ ⟨h1, h2⟩ => ⟨h _ _ _ _ h1, k _ _ _ _ h2⟩

/-! ### What is known at a point of a walk -/
structure SRel where
  p : Heap → Value → Prop
  mono : ∀ {ρ σ v}, ρ.le σ → p ρ v → p σ v
def SRel.any : SRel := ⟨fun _ _ => True, fun _ _ => trivial⟩
def Ty.sv {α : Type} (T : Ty α) (x : α) : SRel := ⟨fun ρ v => T.val ρ v x, fun h => T.val_mono h⟩
def SRel.eq (u : Value) : SRel := ⟨fun _ v => v = u, fun _ h => h⟩
/-- A fact that hangs on no slot. -/
def SRel.fact (R : Heap → Prop) (h : ∀ {ρ σ : Heap}, ρ.le σ → R ρ → R σ) : SRel := ⟨fun ρ _ => R ρ, h⟩
def SRel.of {α : Type} (T : Ty α) (u : Value) (x : α) : SRel := ⟨fun ρ _ => T.val ρ u x, fun h => T.val_mono h⟩

/-- A block that the call alone knows. -/
structure Res where
  blk : Option Nat
  ok : Heap → Option Obj → Prop
  mono : ∀ {ρ σ o}, ρ.le σ → ok ρ o → ok σ o
def Res.none : Res := ⟨Option.none, fun _ _ => True, fun _ _ => trivial⟩
def Res.holds (r : Res) (ρ : Heap) (w : World) : Prop :=
  match r.blk with
  | Option.none => r.ok ρ Option.none
  | some b => ∃ o, w.heap[b]? = some o ∧ r.ok ρ (some o) ∧ ρ b = Option.none

structure BelowX (ex : List Nat) (w w' : World) : Prop where
  os : w'.os = w.os
  tape : w'.tape = w.tape
  output : w'.output = w.output
  size : w.heap.size ≤ w'.heap.size
  block : ∀ k, k < w.heap.size → k ∉ ex → w'.heap[k]? = w.heap[k]?
theorem BelowX.refl (ex : List Nat) (w : World) : BelowX ex w w := ⟨rfl, rfl, rfl, Nat.le_refl _, fun _ _ _ => rfl⟩
theorem BelowX.trans {ex : List Nat} {a b c : World} (h : BelowX ex a b) (k : BelowX ex b c) : BelowX ex a c :=
  ⟨k.os.trans h.os, k.tape.trans h.tape, k.output.trans h.output, Nat.le_trans h.size k.size, fun i hi hx => (k.block i (Nat.lt_of_lt_of_le hi h.size) hx).trans (h.block i hi hx)⟩
theorem BelowX.mono {ex ex' : List Nat} {a b : World} (h : BelowX ex a b) (hs : ∀ k, k < a.heap.size → k ∈ ex → k ∈ ex') : BelowX ex' a b :=
  ⟨h.os, h.tape, h.output, h.size, fun k hk hx => h.block k hk fun hm => hx (hs k hk hm)⟩
theorem BelowX.below {w w' : World} (h : BelowX [] w w') : RowKit.Below w.heap.size w w' := ⟨h.os, h.tape, h.output, h.size, fun k hk => h.block k hk (by simp)⟩
theorem BelowX.drawn (ex : List Nat) (w : World) (n : Nat) : BelowX ex w { w with drawn := n } := ⟨rfl, rfl, rfl, Nat.le_refl _, fun _ _ _ => rfl⟩
theorem BelowX.alloc (ex : List Nat) (w : World) (o : Obj) : BelowX ex w (w.alloc o) :=
  ⟨rfl, rfl, rfl, by simp, fun k hk _ => RowKit.Below.heap_alloc _ _ _ hk⟩

structure Ctx where
  w0 : World
  ex : List Nat
  n : Nat
  σ : Heap

structure Sat (C : Ctx) (H : Nat → Res) (ρ : Heap) (w : World) : Prop where
  le : ρ.le (snap w)
  ok : ∀ i, (H i).holds ρ w
  apart : ∀ i j b, i ≠ j → (H i).blk = some b → (H j).blk ≠ some b
  mine : ∀ i b, (H i).blk = some b → C.w0.heap.size ≤ b ∨ b ∈ C.ex
  fr : BelowX C.ex C.w0 w
  lim : ∀ b o, ρ b = some o → C.σ b = some o ∨ C.w0.heap.size ≤ b
  sle : C.σ.le (snap C.w0)

structure St (C : Ctx) (Γ : Nat → SRel) (H : Nat → Res) (ρ : Heap) (a : Act) (w : World) : Prop where
  defers : a.defers = []
  size : a.tmps.size = C.n
  env : ∀ t, (Γ t).p ρ (a.tmps.getD t undef)
  sat : Sat C H ρ w

/-- From whatever fits what is known, the claim holds. -/
def T (C : Ctx) (Γ : Nat → SRel) (H : Nat → Res) (φ : Act → World → Prop) : Prop := ∀ ρ a w, St C Γ H ρ a w → φ a w

/-- A few slots, of all others nothing is known. -/
def E : List (Nat × SRel) → Nat → SRel
  | [], _ => SRel.any
  | (s, R) :: l, t => match Nat.beq s t with | true => R | false => E l t
def HL : List (Nat × Res) → Nat → Res
  | [], _ => Res.none
  | (s, R) :: l, t => match Nat.beq s t with | true => R | false => HL l t
def upd (Γ : Nat → SRel) (d : Nat) (R : SRel) : Nat → SRel := fun t => match Nat.beq d t with | true => R | false => Γ t
def updH (H : Nat → Res) (d : Nat) (R : Res) : Nat → Res := fun t => match Nat.beq d t with | true => R | false => H t

def Ents (Γ : Nat → SRel) : List (Nat × SRel) → Prop
  | [] => True
  | (s, R) :: l => (∀ ρ v, (Γ s).p ρ v → R.p ρ v) ∧ Ents Γ l
def HEnts (H : Nat → Res) : List (Nat × Res) → Prop
  | [] => True
  | (s, R) :: l => H s = R ∧ HEnts H l
theorem Ents.get {Γ : Nat → SRel} {l : List (Nat × SRel)} (h : Ents Γ l) : ∀ t ρ v, (Γ t).p ρ v → (E l t).p ρ v := by
  intro t ρ v hv
  induction l with
  | nil => trivial
  | cons e l ih =>
    obtain ⟨s, R⟩ := e
    obtain ⟨h1, h2⟩ := h
    unfold E
    cases hb : Nat.beq s t with
    | true => have := Nat.eq_of_beq_eq_true hb; subst this; exact h1 _ _ hv
    | false => exact ih h2
theorem HEnts.get {H : Nat → Res} {l : List (Nat × Res)} (h : HEnts H l) : ∀ t, HL l t = H t ∨ HL l t = Res.none := by
  intro t
  induction l with
  | nil => exact .inr rfl
  | cons e l ih =>
    obtain ⟨s, R⟩ := e
    obtain ⟨h1, h2⟩ := h
    unfold HL
    cases hb : Nat.beq s t with
    | true => have := Nat.eq_of_beq_eq_true hb; subst this; exact .inl h1.symm
    | false => exact ih h2
theorem Sat.less {C : Ctx} {H H' : Nat → Res} {ρ : Heap} {w : World} (h : Sat C H ρ w) (k : ∀ t, H' t = H t ∨ H' t = Res.none) : Sat C H' ρ w where
  le := h.le
  ok := fun i => by
    rcases k i with e | e
    · rw [e]; exact h.ok i
    · rw [e]; exact trivial
  apart := fun i j b hij hi => by
    rcases k i with e | e
    · rw [e] at hi
      rcases k j with e' | e'
      · rw [e']; exact h.apart i j b hij hi
      · rw [e']; simp [Res.none]
    · rw [e] at hi; simp [Res.none] at hi
  mine := fun i b hi => by
    rcases k i with e | e
    · rw [e] at hi; exact h.mine i b hi
    · rw [e] at hi; simp [Res.none] at hi
  fr := h.fr
  lim := h.lim
  sle := h.sle
theorem St.to {C : Ctx} {Γ : Nat → SRel} {H : Nat → Res} {ρ : Heap} {a : Act} {w : World} (h : St C Γ H ρ a w) {l : List (Nat × SRel)} {hl : List (Nat × Res)} (k : Ents Γ l) (kh : HEnts H hl) :
    St C (E l) (HL hl) ρ a w := ⟨h.defers, h.size, fun t => k.get t _ _ (h.env t), h.sat.less kh.get⟩
theorem T.to {C : Ctx} {Γ : Nat → SRel} {H : Nat → Res} {φ : Act → World → Prop} {l : List (Nat × SRel)} {hl : List (Nat × Res)} (k : Ents Γ l) (kh : HEnts H hl)
    (h : T C (E l) (HL hl) φ) : T C Γ H φ := fun ρ a w s => h ρ a w (s.to k kh)
theorem T.conv {C : Ctx} {Γ : Nat → SRel} {H : Nat → Res} {φ ψ : Act → World → Prop} (h : T C Γ H φ) (k : ∀ a w, φ a w → ψ a w) : T C Γ H ψ := fun ρ a w s => k a w (h ρ a w s)

/-! ### Control -/
section
variable {P : Program} {C : Ctx} {Γ : Nat → SRel} {H : Nat → Res} {Q : Exit → Act → World → Prop}
theorem T.seq {x y : Code} (h : T C Γ H (x.wp P (Exit.then (y.wp P Q) Q))) : T C Γ H ((Code.seq x y).wp P Q) := h.conv fun _ _ => wp_seq
theorem T.skip (h : T C Γ H (Q .normal)) : T C Γ H (Code.skip.wp P Q) := h.conv fun _ _ => wp_skip
theorem T.exit {id : Nat} (h : T C Γ H (Q (.exit id))) : T C Γ H ((Code.exit id).wp P Q) := h.conv fun _ _ => wp_exit
theorem T.ret (h : T C Γ H (Q .ret)) : T C Γ H (Code.ret.wp P Q) := h.conv fun _ _ => wp_ret
theorem T.block {id : Nat} {x : Code} (h : T C Γ H (x.wp P (Exit.inBlock id Q))) : T C Γ H ((Code.block id x).wp P Q) := h.conv fun _ _ => wp_block
theorem T.norm {next : Act → World → Prop} (h : T C Γ H next) : T C Γ H (Exit.then next Q .normal) := h
theorem T.here {c : Prop} [Decidable c] {φ ψ : Act → World → Prop} (hc : c) (h : T C Γ H φ) : T C Γ H (fun a w => if c then φ a w else ψ a w) := h.conv fun _ _ k => by rw [if_pos hc]; exact k
theorem T.there {c : Prop} [Decidable c] {φ ψ : Act → World → Prop} (hc : ¬ c) (h : T C Γ H ψ) : T C Γ H (fun a w => if c then φ a w else ψ a w) := h.conv fun _ _ k => by rw [if_neg hc]; exact k
theorem T.cond {t : Nat} {x y : Code} {b : Bool} (hb : ∀ ρ v, (Γ t).p ρ v → TB.val ρ v b) (ht : b = true → T C Γ H (x.wp P Q)) (hf : b = false → T C Γ H (y.wp P Q)) :
    T C Γ H ((Code.cond (.tmp t) x y).wp P Q) := fun ρ a w s => by
  have hv := hb _ _ (s.env t)
  have hv := Ty.val_one rfl hv
  simp [TB] at hv
  exact wp_cond_split (t := b) (by simpa [Act.eval] using hv) (fun h => ht h ρ a w s) (fun h => hf h ρ a w s)
/-- What comes behind, proved once. -/
theorem T.join {Z : Type} {φ next : Act → World → Prop} {Γ' : Z → Nat → SRel} {H' : Z → Nat → Res} (k : ∀ z, T C (Γ' z) (H' z) next) (h : (∀ z, T C (Γ' z) (H' z) next) → T C Γ H φ) : T C Γ H φ := h k
end

/-! ### Loops -/
theorem wp_loop_fuel {P : Program} {c : Code} {Q : Exit → Act → World → Prop} (I : Nat → Act → World → Prop)
    (round : ∀ k a w, I k a w → ∃ k', c.wp P (Exit.then (fun a w => ∃ j, j < k ∧ I j a w) Q) a w ∧ k' = k) {k : Nat} {a : Act} {w : World} (h : I k a w) : (Code.loop c).wp P Q a w := by
  intro b kk cs
  have key : ∀ n a w, I n a w → ∃ e a' w', Q e a' w' ∧ Arrives P (lone (b.at a (.code c :: .inLoop c :: kk)) cs w) b kk cs e a' w' := by
    intro n
    induction n using Nat.strongRecOn with
    | _ n ih =>
      intro a w hI
      obtain ⟨_, hr, _⟩ := round n a w hI
      obtain ⟨e, a₁, w₁, hq, harr⟩ := hr b (.inLoop c :: kk) cs
      cases e with
      | normal =>
        obtain ⟨j, hlt, hI₁⟩ := hq
        obtain ⟨e₂, a₂, w₂, hq₂, harr₂⟩ := ih j hlt a₁ w₁ hI₁
        exact ⟨e₂, a₂, w₂, hq₂, .of_steps (Steps.trans harr (.one step_inLoop)) harr₂⟩
      | exit id => exact ⟨_, a₁, w₁, hq, .pass (x := .inLoop c) rfl (fun _ _ => .inl (by simp)) harr⟩
      | goto l => exact ⟨_, a₁, w₁, hq, .pass (x := .inLoop c) rfl (fun _ _ => .inl (by simp)) harr⟩
      | ret => exact ⟨_, a₁, w₁, hq, .pass (x := .inLoop c) rfl (fun _ _ => .inl (by simp)) harr⟩
      | panic ch => exact ⟨_, a₁, w₁, hq, .pass (x := .inLoop c) rfl (fun _ _ => .inl (by simp)) harr⟩
      | outgrown => exact ⟨_, a₁, w₁, hq, .pass (x := .inLoop c) rfl (fun _ _ => .inl (by simp)) harr⟩
  obtain ⟨e, a', w', hq, harr⟩ := key _ a w h
  exact ⟨e, a', w', hq, .of_steps (.one step_loop) harr⟩

/-- What the head of a loop is to find when a round is over. -/
def Head {σ Z τ : Type} (C : Ctx) (f : σ → Option (σ ⊕ τ)) (Γh : σ → Z → Nat → SRel) (Hh : σ → Z → Nat → Res) (y : τ) (k : Nat) (a : Act) (w : World) : Prop :=
  ∃ j s z ρ, j < k ∧ loopN j f s = some y ∧ St C (Γh s z) (Hh s z) ρ a w
theorem T.loop {P : Program} {C : Ctx} {Γ : Nat → SRel} {H : Nat → Res} {Q : Exit → Act → World → Prop} {body : Code} {σ Z τ : Type} {f : σ → Option (σ ⊕ τ)}
    (Γh : σ → Z → Nat → SRel) (Hh : σ → Z → Nat → Res) {n : Nat} {s : σ} {y : τ} (hF : loopN n f s = some y) (z : Z)
    (h0 : ∀ φ, T C (Γh s z) (Hh s z) φ → T C Γ H φ)
    (round : ∀ k s z u, f s = some u → nextN k f y u → T C (Γh s z) (Hh s z) (body.wp P (Exit.then (Head C f Γh Hh y (k + 1)) Q))) :
    T C Γ H ((Code.loop body).wp P Q) := by
  refine h0 _ fun ρ a w st => ?_
  refine wp_loop_fuel (fun k a w => ∃ s z ρ, loopN k f s = some y ∧ St C (Γh s z) (Hh s z) ρ a w) ?_ ⟨s, z, ρ, hF, st⟩
  rintro k a w ⟨s, z, ρ, hk, st⟩
  refine ⟨k, ?_, rfl⟩
  cases k with
  | zero => cases hk
  | succ k =>
    obtain ⟨u, hu, hn⟩ := loopN_succ hk
    refine Code.wp_mono ?_ (round k s z u hu hn ρ a w st)
    intro e a w q
    cases e <;> first | exact q | skip
    obtain ⟨j, s', z', ρ', hj, hl, st'⟩ := q
    exact ⟨j, hj, s', z', ρ', hl, st'⟩
theorem T.again {C : Ctx} {Γ : Nat → SRel} {H : Nat → Res} {σ Z τ : Type} {f : σ → Option (σ ⊕ τ)} {Γh : σ → Z → Nat → SRel} {Hh : σ → Z → Nat → Res} {k : Nat} {s : σ} {y : τ}
    (hF : loopN k f s = some y) (z : Z) (h0 : ∀ φ, T C (Γh s z) (Hh s z) φ → T C Γ H φ) : T C Γ H (Head C f Γh Hh y (k + 1)) :=
  h0 _ fun ρ a w st => ⟨k, s, z, ρ, Nat.lt_succ_self k, hF, st⟩

end Go.Proofs.Ytnpkhhfpgedkoaa
