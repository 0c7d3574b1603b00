/-
  New memory, writing, the end of a function.
-/
import Derived.Test.YtnpkhhfpgedkoaaMem
import Derived.Laws.AppendOwn
import Derived.Laws.Tables
import Derived.Laws.CopyRow
import Derived.Laws.AppendOwnNone
set_option linter.unusedVariables false
set_option linter.unusedSimpArgs false
namespace Go.Proofs.Ytnpkhhfpgedkoaa
open Go

/-! ### Zero values -/
def ZeroC {α : Type} (A : Ty α) (cs : List Value) (x : α) : Prop := ∀ ρ, A.rep ρ cs x
def ZeroIs (P : Program) (t : TypeId) (z : Value) : Prop := ∀ w, (zeroValue t).run P w = .ok z w
theorem z_TI (k : IntKind) : ZeroC (TI k) [.int k 0] 0 := fun _ => ⟨rfl, by cases k <;> decide, by cases k <;> decide⟩
theorem z_TB : ZeroC TB [.bool false] false := fun _ => rfl
theorem z_TF (k : FloatKind) : ZeroC (TF k) [.float k 0] 0 := fun _ => ⟨0, rfl, by cases k <;> decide, by cases k <;> decide⟩
theorem z_TS : ZeroC TS [.string .empty] .empty := fun _ => ⟨rfl, by decide⟩
theorem z_TSl {α : Type} (A : Ty α) : ZeroC (TSl A) [.slice none 0 0] [] := fun _ => ⟨none, 0, 0, rfl, rfl, ⟨Nat.le_refl _, by decide⟩, fun _ => rfl, fun a h => by cases h⟩
theorem z_pair {α β : Type} {A : Ty α} {B : Ty β} {cs ds : List Value} {x : α} {y : β} (h : ZeroC A cs x) (k : ZeroC B ds y) : ZeroC (TPair A B) (cs ++ ds) (x, y) := fun ρ => by
  have hl := A.len (h ρ)
  exact ⟨by rw [List.take_left' hl]; exact h ρ, by rw [List.drop_left' hl]; exact k ρ⟩
theorem chunk_replicate {cs : List Value} {m i : Nat} (hi : i < m) : chunk cs.length i (List.replicate m cs).flatten = cs := by
  induction m generalizing i with
  | zero => omega
  | succ m ih =>
    unfold chunk
    rw [List.replicate_succ, List.flatten_cons]
    cases i with
    | zero => simp
    | succ i =>
      rw [Nat.succ_mul, Nat.add_comm, ← List.drop_drop, List.drop_left]
      exact ih (by omega)
theorem z_arr {α : Type} {A : Ty α} {cs : List Value} {x : α} {m : Nat} (h : ZeroC A cs x) : ZeroC (TArr m A) (List.replicate m cs).flatten (List.replicate m x) := fun ρ => by
  have hl := A.len (h ρ)
  refine ⟨by simp [hl], by simp, fun i y hi => ?_⟩
  rw [List.getElem?_replicate] at hi
  split at hi
  · cases hi
    rename_i hm
    rw [← hl, chunk_replicate hm]; exact h ρ
  · cases hi

/-! ### Composite literals -/
theorem fold_set {l : List (Value × Nat)} {off : Nat} : ∀ (cs : Array Value), (l.foldl (fun cs (c, j) => cs.setIfInBounds (off + j) c) cs).size = cs.size := by
  induction l with
  | nil => intro cs; rfl
  | cons p l ih => intro cs; obtain ⟨c, j⟩ := p; simp only [List.foldl_cons]; rw [ih]; simp
theorem fold_splice (off : Nat) : ∀ (ds : List Value) (k : Nat) (cs : List Value), off + k + ds.length ≤ cs.length →
    ((ds.zipIdx k).foldl (fun cs (c, j) => cs.setIfInBounds (off + j) c) cs.toArray) = (cs.take (off + k) ++ ds ++ cs.drop (off + k + ds.length)).toArray
  | [], k, cs, h => by simp
  | d :: ds, k, cs, h => by
    simp only [List.length_cons] at h
    rw [List.zipIdx_cons, List.foldl_cons]
    have e : (cs.toArray.setIfInBounds (off + k) d) = (cs.set (off + k) d).toArray := by simp
    show List.foldl _ (cs.toArray.setIfInBounds (off + k) d) _ = _
    rw [e, fold_splice off ds (k + 1) _ (by simp; omega)]
    congr 1
    rw [show off + (k + 1) = off + k + 1 by omega]
    have h1 : (cs.set (off + k) d).take (off + k + 1) = cs.take (off + k) ++ [d] := by
      rw [List.take_add_one, List.getElem?_set_self (by omega), List.take_set]
      simp
      rw [List.set_eq_of_length_le (by simp; omega)]
    have h2 : (cs.set (off + k) d).drop (off + k + 1 + ds.length) = cs.drop (off + k + 1 + ds.length) := by
      rw [List.drop_set, if_pos (by omega)]
    rw [h1, h2]
    simp only [List.append_assoc, List.singleton_append, List.length_cons]
    rw [show off + k + 1 + ds.length = off + k + (ds.length + 1) by omega]
inductive Fills {α : Type} (ρ : Heap) (A : Ty α) (place : Nat → Option (Nat × Nat)) : List (Nat × Value) → α → α → Prop
  | done (x : α) : Fills ρ A place [] x x
  | part {β : Type} {B : Ty β} {i off : Nat} {v : Value} {y y0 : β} {x x' : α} {put : β → α} {l : List (Nat × Value)} (hp : place i = some (off, B.n)) (hv : B.val ρ v y) (hat : At A x off B y0 put) (h : Fills ρ A place l (put y) x') :
      Fills ρ A place ((i, v) :: l) x x'
theorem Fills.run {α : Type} {ρ : Heap} {A : Ty α} {place : Nat → Option (Nat × Nat)} {l : List (Nat × Value)} {x x' : α} (h : Fills ρ A place l x x') : ∀ cs, A.rep ρ cs x → ∃ cs', Instr.fill place cs.toArray l = some cs'.toArray ∧ A.rep ρ cs' x' := by
  induction h with
  | done x => intro cs r; exact ⟨cs, rfl, r⟩
  | @part β B i off v y y0 x x' put l hp hv hat h ih =>
    intro cs r
    have hl := A.len r
    have hf := hat.fits ρ cs r
    have hc := Ty.val_cells hv
    have hcl := B.len hc
    obtain ⟨cs', h1, h2⟩ := ih _ (hat.set ρ cs v.cells.toList y r hc)
    refine ⟨cs', ?_, h2⟩
    have hs : v.cells.size = B.n := by simpa using hcl
    unfold Instr.fill
    rw [hp]
    simp only [hs, ne_eq, not_true_eq_false, List.size_toArray, decide_false, Bool.false_or]
    rw [if_neg (by simp; omega)]
    have e := fold_splice off v.cells.toList 0 cs (by omega)
    have e2 : v.cells.zipIdx.foldl (fun cs (x : Value × Nat) => cs.setIfInBounds (off + x.2) x.1) cs.toArray = (v.cells.toList.zipIdx 0).foldl (fun cs (x : Value × Nat) => cs.setIfInBounds (off + x.2) x.1) cs.toArray := by
      rw [← Array.foldl_toList]; simp
    have e3 : (v.cells.toList.zipIdx 0).foldl (fun cs (x : Value × Nat) => cs.setIfInBounds (off + x.2) x.1) cs.toArray = (cs.take off ++ v.cells.toList ++ cs.drop (off + B.n)).toArray := by
      rw [← hcl]; simpa using e
    show Instr.fill place (v.cells.zipIdx.foldl _ cs.toArray) l = _
    rw [show (v.cells.zipIdx.foldl (fun cs (c, j) => cs.setIfInBounds (off + j) c) cs.toArray) = _ from e2.trans e3]
    exact h1

section
variable {P : Program} {ops : Array Oper} {ρ : Heap} {ds : List Nat} {w : World} {a : Act} {R : SRel} {op : Op} {ty : TypeId} {C : Ctx} {H : Nat → Res} {dst : Option Tmp} {pos : String} {after : Array Edge}
theorem run_build_struct {t : TypeId} {fields : Array Field} {places : Array (Nat × Nat)} {zc : List Value} {parts : Array (Nat × Value)} {cells : Array Value} (hu : P.underlying t = some (.struct fields)) (hz : ZeroIs P t (.agg zc.toArray))
    (hp : ∀ w, (fields.mapM (m := Sem) fun f => do pure (f.offset, ← sizeOf f.type)).run P w = .ok places w) (h : Instr.fill (places[·]?) zc.toArray parts.toList = some cells) : (Instr.build t parts).run P w = .ok (.agg cells) w := by
  simp only [Instr.build, Sem.run_bind, hz w, Result.andThen, Value.cells, run_underlying hu, hp w]
  rw [h]; rfl
theorem run_build_array {t e : TypeId} {m n : Nat} {g : Bool} {zc : List Value} {parts : Array (Nat × Value)} {cells : Array Value} (hu : P.underlying t = some (.array m e)) (he : TyIs P e n g) (hz : ZeroIs P t (.agg zc.toArray))
    (h : Instr.fill (fun i => some (i * n, n)) zc.toArray parts.toList = some cells) : (Instr.build t parts).run P w = .ok (.agg cells) w := by
  simp only [Instr.build, Sem.run_bind, hz w, Result.andThen, Value.cells, run_underlying hu, he.size]
  rw [h]; rfl
theorem d_build {α : Type} {A : Ty α} {t : TypeId} {fields : Array Field} {places : Array (Nat × Nat)} {zc : List Value} {parts : Array (Nat × Operand)} {x0 x : α} (hg : A.agg = true) (hu : P.underlying t = some (.struct fields)) (hz : ZeroIs P t (.agg zc.toArray))
    (hp : ∀ w, (fields.mapM (m := Sem) fun f => do pure (f.offset, ← sizeOf f.type)).run P w = .ok places w) (h0 : ZeroC A zc x0) (h : Fills ρ A (places[·]?) (parts.toList.map fun p => (p.1, a.eval p.2)) x0 x) : Does P ρ w (.build t parts) ty a (A.sv x) := by
  obtain ⟨cs', h1, h2⟩ := h.run zc (h0 ρ)
  refine does_same (v := .agg cs'.toArray) (fun _ _ _ _ => ?_) ⟨cs', h2, by simp [pack, hg]⟩
  have := run_build_struct (w := w) (parts := parts.map fun (i, x) => (i, a.eval x)) hu hz hp (by rw [Array.toList_map]; exact h1)
  simp only [execOp, Sem.run_bind, this, Result.andThen]
  rfl
theorem d_buildA {α : Type} {A : Ty α} {t e : TypeId} {m : Nat} {zc : List Value} {parts : Array (Nat × Operand)} {x0 x : List α} (hu : P.underlying t = some (.array m e)) (he : TyIs P e A.n A.agg) (hz : ZeroIs P t (.agg zc.toArray))
    (h0 : ZeroC (TArr m A) zc x0) (h : Fills ρ (TArr m A) (fun i => some (i * A.n, A.n)) (parts.toList.map fun p => (p.1, a.eval p.2)) x0 x) : Does P ρ w (.build t parts) ty a ((TArr m A).sv x) := by
  obtain ⟨cs', h1, h2⟩ := h.run zc (h0 ρ)
  refine does_same (v := .agg cs'.toArray) (fun _ _ _ _ => ?_) ⟨cs', h2, rfl⟩
  have := run_build_array (w := w) (parts := parts.map fun (i, x) => (i, a.eval x)) hu he hz (by rw [Array.toList_map]; exact h1)
  simp only [execOp, Sem.run_bind, this, Result.andThen]
  rfl

/-! ### New memory -/
theorem fresh_new (w : World) (o : Obj) : fresh w (w.alloc o) w.heap.size = some o := by
  unfold fresh
  rw [if_neg (Nat.lt_irrefl _)]
  exact heap_alloc_new w o
theorem plus_new (hle : ρ.le (snap w)) (o : Obj) : (ρ.plus (fresh w (w.alloc o))) w.heap.size = some o := by
  unfold Heap.plus
  rw [snap_none hle (Nat.le_refl _)]
  exact fresh_new w o
theorem run_box {E : TypeId} {X : Operand} : ∀ dst pos after guard, (execOp a.eval ⟨dst, .box E X, ty, pos, after, guard⟩).run P w = .ok (.value (ptr w.heap.size 0)) (w.alloc (.cells (a.eval X).cells E)) := by
  intro _ _ _ _
  simp only [execOp, Instr.box, newVar, newRow, Sem.run_bind, run_newObj, Result.andThen]
  rfl
/-- A variable that is never written again. -/
theorem d_box {α : Type} {A : Ty α} {E : TypeId} {X : Operand} {x : α} (hle : ρ.le (snap w)) (h : A.val ρ (a.eval X) x) : Does P ρ w (.box E X) ty a ((TP A).sv x) := by
  intro dst pos after guard Q K hK
  unfold Oper.wp
  rw [run_box]
  refine hK _ _ (BelowX.alloc _ _ _) (Ty.val_of_one rfl ⟨⟨w.heap.size, 0, none⟩, (a.eval X).cells.toList, rfl, fun i v hi => ?_, A.mono (Heap.le_plus _ _) (Ty.val_cells h)⟩)
  rw [add_at]
  unfold cellAt
  simp only [plus_new hle]
  simpa using hi
theorem holds_alloc {r : Res} {o : Obj} (hb : r.blk = some w.heap.size) (hle : ρ.le (snap w)) (ho : r.ok ρ (some o)) (bs : List Nat) (hbs : w.heap.size ∈ bs) : r.holds (ρ.plus (freshX w (w.alloc o) bs)) (w.alloc o) := by
  unfold Res.holds
  rw [hb]
  exact ⟨o, heap_alloc_new w o, r.mono (Heap.le_plus _ _) ho, plus_none (snap_none hle (Nat.le_refl _)) (by simp [freshX, hbs])⟩
theorem g_own {id : Nat} {r : Value → Res} {v : Value} {o : Obj} (hle : ρ.le (snap w)) (hrun : ∀ dst pos after guard, (execOp a.eval ⟨dst, op, ty, pos, after, guard⟩).run P w = .ok (.value v) (w.alloc o))
    (hb : (r v).blk = some w.heap.size) (ho : (r v).ok ρ (some o)) : Goal P ops ρ ds w (sO SRel.any [(id, r)]) ⟨dst, op, ty, pos, after, none⟩ a := by
  intro Q K hK
  simp only [Region.wanted, if_true]
  unfold Oper.wp
  rw [hrun]
  refine hK _ _ ⟨BelowX.alloc _ _ _, trivial, fun e he => ?_, List.pairwise_singleton _ _⟩ (fun j g e => by cases e)
  simp only [sO, List.mem_singleton] at he
  subst he
  refine ⟨holds_alloc hb hle ho _ ?_, fun b hb' => ?_⟩
  · simp [ASpec.blks, sO, hb]
  · rw [hb] at hb'; cases hb'; exact Nat.le_refl _
theorem g_box {α : Type} {A : Ty α} {E : TypeId} {X : Operand} {x : α} {id : Nat} (hle : ρ.le (snap w)) (h : A.val ρ (a.eval X) x) : Goal P ops ρ ds w (sO SRel.any [(id, boxR E A x)]) ⟨dst, .box E X, ty, pos, after, none⟩ a :=
  g_own hle run_box rfl ⟨w.heap.size, (a.eval X).cells.toList, rfl, by simp, Ty.val_cells h⟩
theorem g_alloc {α : Type} {A : Ty α} {E : TypeId} {zc : List Value} {x : α} {id : Nat} (hle : ρ.le (snap w)) (hz : ZeroIs P E (pack A.agg zc)) (h : ZeroC A zc x) : Goal P ops ρ ds w (sO SRel.any [(id, boxR E A x)]) ⟨dst, .alloc E, ty, pos, after, none⟩ a := by
  refine g_own (v := ptr w.heap.size 0) (o := .cells (pack A.agg zc).cells E) hle (fun _ _ _ _ => ?_) rfl ⟨w.heap.size, (pack A.agg zc).cells.toList, rfl, by simp, Ty.val_cells ⟨zc, h ρ, rfl⟩⟩
  simp only [execOp, Instr.alloc, Sem.run_bind, hz w, Result.andThen, newVar, newRow, run_newObj]
  rfl
/-- A slice's literal. -/
theorem run_buildSlice {α : Type} {A : Ty α} {t e : TypeId} {m : Nat} {zc : List Value} {parts : Array (Nat × Operand)} {x0 : α} {xs : List α} (hu : P.underlying t = some (.slice e)) (he : TyIs P e A.n A.agg) (hz : ZeroIs P e (pack A.agg zc)) (hm : m * A.n ≤ 16777216)
    (h0 : ZeroC A zc x0) (h : Fills ρ (TArr m A) (fun i => some (i * A.n, A.n)) (parts.toList.map fun p => (p.1, a.eval p.2)) (List.replicate m x0) xs) :
    ∃ cs, (TArr m A).rep ρ cs xs ∧ ∀ dst pos after guard, (execOp a.eval ⟨dst, .buildSlice t m parts, ty, pos, after, guard⟩).run P w = .ok (.value (.slice (some ⟨w.heap.size, 0, none⟩) m m)) (w.alloc (.cells cs.toArray e)) := by
  obtain ⟨cs, h1, h2⟩ := h.run _ (z_arr h0 ρ)
  refine ⟨cs, h2, fun _ _ _ _ => ?_⟩
  have hl := A.len (h0 ρ)
  have hzc : (pack A.agg zc).cells = zc.toArray := by
    have := Ty.val_cells (T := A) (v := pack A.agg zc) ⟨zc, h0 ρ, rfl⟩
    cases hg : A.agg with
    | true => simp [pack, Value.cells]
    | false =>
      have hn := A.one hg
      rw [hn] at hl
      match zc, hl with
      | [c], _ =>
        have hp := A.plain (h0 ρ) c (by simp)
        simp [pack]
        cases c <;> simp [Value.cells, Value.oneCell'] at *
  have hcells : ((Array.range (m * A.n)).map fun x => zc.toArray[x % zc.toArray.size]!) = ((List.replicate m zc).flatten).toArray := by
    apply Array.ext'
    simp only [Array.toList_map, Array.toList_range]
    apply List.ext_getElem?
    intro j
    rw [List.getElem?_map]
    by_cases hj : j < m * A.n
    · have hn : 0 < A.n := by rcases Nat.eq_zero_or_pos A.n with h | h
                              · rw [h] at hj; omega
                              · exact h
      have hq : j / A.n < m := Nat.div_lt_of_lt_mul (by rw [Nat.mul_comm]; exact hj)
      have hc := chunk_replicate (cs := zc) hq
      have hm : j % A.n < A.n := Nat.mod_lt _ hn
      have h3 : (chunk zc.length (j / A.n) (List.replicate m zc).flatten)[j % A.n]? = ((List.replicate m zc).flatten)[j]? := by
        unfold chunk
        rw [List.getElem?_take, if_pos (by omega), List.getElem?_drop, hl, Nat.div_add_mod' j A.n]
      rw [← h3, hc]
      simp [List.getElem?_range, hj, hl, getElem!_def, List.getElem?_eq_getElem (show j % A.n < zc.length by omega)]
    · rw [List.getElem?_eq_none (l := (List.replicate m zc).flatten) (by simp [hl]; omega)]
      simp [List.getElem?_range, hj]
  simp only [execOp, Instr.buildSlice, Sem.run_bind, run_underlying hu, Result.andThen, he.size]
  rw [if_neg (by omega)]
  by_cases h0' : m * A.n = 0
  · have hfl : (List.replicate m zc).flatten = [] := List.eq_nil_of_length_eq_zero (by simp [hl]; simpa using h0')
    rw [hfl] at h1
    have hr : Array.map (fun x : Nat => (#[] : Array Value)[x % (#[] : Array Value).size]!) (Array.range (m * A.n)) = ([] : List Value).toArray := by rw [h0']; simp
    simp only [h0', if_true, Sem.run_pure, Result.andThen, Sem.run_bind] at *
    rw [hr, Array.toList_map, h1]
    simp [newRow, Sem.run_bind, run_newObj, Result.andThen]
  · simp only [if_neg h0', Sem.run_bind, hz w, Result.andThen, Sem.run_pure, hzc]
    rw [hcells, Array.toList_map, h1]
    simp [newRow, Sem.run_bind, run_newObj, Result.andThen]
theorem run_eval_map (parts : Array (Nat × Operand)) : (parts.toList.map fun p => (p.1, a.eval p.2)) = (parts.map fun (i, x) => (i, a.eval x)).toList := by rw [Array.toList_map]
/-- A literal that is only read. -/
theorem d_buildSl {α : Type} {A : Ty α} {t e : TypeId} {m : Nat} {zc : List Value} {parts : Array (Nat × Operand)} {x0 : α} {xs : List α} (hle : ρ.le (snap w)) (hu : P.underlying t = some (.slice e)) (he : TyIs P e A.n A.agg) (hz : ZeroIs P e (pack A.agg zc)) (hm : m * A.n ≤ 16777216) (hm' : m ≤ 16777216)
    (h0 : ZeroC A zc x0) (h : Fills ρ (TArr m A) (fun i => some (i * A.n, A.n)) (parts.toList.map fun p => (p.1, a.eval p.2)) (List.replicate m x0) xs) : Does P ρ w (.buildSlice t m parts) ty a ((TSl A).sv xs) := by
  obtain ⟨cs, hr, hrun⟩ := run_buildSlice (ty := ty) (w := w) hu he hz hm h0 h
  intro dst pos after guard Q K hK
  unfold Oper.wp
  rw [hrun]
  refine hK _ _ (BelowX.alloc _ _ _) (Ty.val_of_one rfl ⟨some ⟨w.heap.size, 0, none⟩, m, m, rfl, hr.2.1.symm, ⟨Nat.le_refl _, by omega⟩, (fun h => by cases h), fun a' ha i x hx => ?_⟩)
  cases ha
  have hlt : i < m := by rw [← hr.2.1]; exact (List.getElem?_eq_some_iff.1 hx).1
  refine ⟨chunk A.n i cs, fun j v hj => ?_, A.mono (Heap.le_plus _ _) (hr.2.2 i x hx)⟩
  rw [add_at, add_at]
  unfold cellAt
  simp only [plus_new hle]
  unfold chunk at hj
  rw [List.getElem?_take] at hj
  split at hj
  · rw [List.getElem?_drop] at hj
    simpa [Nat.add_assoc] using hj
  · cases hj
/-- A literal that the call owns. -/
theorem g_buildSl {α : Type} {A : Ty α} {t e : TypeId} {m : Nat} {zc : List Value} {parts : Array (Nat × Operand)} {x0 : α} {xs : List α} {id : Nat} (hle : ρ.le (snap w)) (hu : P.underlying t = some (.slice e)) (he : TyIs P e A.n A.agg) (hz : ZeroIs P e (pack A.agg zc)) (hm : m * A.n ≤ 16777216) (hm' : m ≤ 16777216)
    (h0 : ZeroC A zc x0) (h : Fills ρ (TArr m A) (fun i => some (i * A.n, A.n)) (parts.toList.map fun p => (p.1, a.eval p.2)) (List.replicate m x0) xs) : Goal P ops ρ ds w (sO SRel.any [(id, slR e A xs)]) ⟨dst, .buildSlice t m parts, ty, pos, after, none⟩ a := by
  obtain ⟨cs, hr, hrun⟩ := run_buildSlice (ty := ty) (w := w) hu he hz hm h0 h
  refine g_own hle hrun rfl ⟨cs, by rw [hr.1, hr.2.1], hr.2.2, .inr ⟨w.heap.size, m, cs.toArray, by rw [hr.2.1], rfl, by rw [hr.2.1]; exact Nat.le_refl _, by unfold maxLen; omega, by simpa using hr.1, by rw [hr.2.1, List.take_of_length_le]; simpa using Nat.le_of_eq hr.1⟩⟩
end

/-! ### One operation behind the other -/
section
variable {P : Program} {C : Ctx} {Γ : Nat → SRel} {H : Nat → Res} {Q : Exit → Act → World → Prop} {ops : Array Oper} {rest : List Oper} {op : Op} {ty : TypeId} {pos : String} {after : Array Edge} {d : Nat}
theorem T.nil (h : T C Γ H (Q .normal)) : T C Γ H (wpList P ops Q []) := h
theorem slot_put {a : Act} {v : Value} (hd : d < a.tmps.size) (t : Nat) : slot (a.put (some d) v) t = if d = t then v else slot a t := by
  by_cases h : d = t
  · subst h; rw [if_pos rfl]; exact slot_put_same hd
  · rw [if_neg h]; exact slot_put_other h
/-- An operation in its turn. -/
theorem T.goal {s : ASpec} (hd : (decide (d < C.n) && nodupB (s.owns.map (·.1)) && s.al.isNone && s.tn.isNone) = true) (h : ∀ ρ a w, St C Γ H ρ a w → Goal P #[] ρ [] w s ⟨some d, op, ty, pos, after, none⟩ a)
    (k : ∀ v, T C (upd Γ d (s.at [] (fun _ => v) 0)) (haftO H v s.owns) (wpList P ops Q rest)) : T C Γ H (wpList P ops Q (⟨some d, op, ty, pos, after, none⟩ :: rest)) := by
  intro ρ a w st
  simp only [Bool.and_eq_true, decide_eq_true_eq, Option.isNone_iff_eq_none] at hd
  obtain ⟨⟨⟨hdn, hnd⟩, hal⟩, htn⟩ := hd
  have hrel : s.rel = s.R := by unfold ASpec.rel; rw [htn]
  refine wpList_plain rfl fun K hK => ?_
  have g := h ρ a w st Q K (fun v w' m _ => by
    refine hK _ _ (k v (ρ.plus (freshX w w' (s.blks v))) _ _ ⟨?_, ?_, fun t => ?_, ?_⟩)
    · simpa [Act.put] using st.defers
    · simpa [Act.put] using st.size
    · show (upd Γ d (s.at [] (fun _ => v) 0) t).p _ (slot _ t)
      rw [slot_put (by rw [st.size]; exact hdn)]
      unfold upd
      cases hb : Nat.beq d t with
      | true =>
        have := Nat.eq_of_beq_eq_true hb
        rw [if_pos this]
        simp only [ASpec.at, hal]
        split
        · rw [hrel]; exact m.rel
        · exact ⟨rfl, by rw [hrel]; exact m.rel⟩
      | false =>
        rw [if_neg (Nat.ne_of_beq_eq_false hb)]
        exact (Γ t).mono (Heap.le_plus _ _) (st.env t)
    · have hs := st.sat.made m (nodupB_get hnd)
      have : grow H v s.owns = haftO H v s.owns := by
        have hn := nodupB_get hnd
        funext t
        rcases haftO_cases (H := H) (u := v) (l := s.owns) (t := t) with ⟨e, h1, h2, h3⟩ | ⟨h1, h2⟩
        · rw [h3, ← h2]; exact grow_in hn h1
        · rw [h2]; exact grow_not h1
      rw [← this]; exact hs)
  simpa [Region.wanted] using g
/-- The same for what hands on a plain value. -/
theorem T.does {R : SRel} (hd : decide (d < C.n) = true) (h : ∀ ρ a w, St C Γ H ρ a w → Does P ρ w op ty a R) (k : T C (upd Γ d R) H (wpList P ops Q rest)) : T C Γ H (wpList P ops Q (⟨some d, op, ty, pos, after, none⟩ :: rest)) :=
  T.goal (s := sp R) (by simpa [sp, nodupB] using hd) (fun ρ a w st => gp (h ρ a w st)) (fun v => k)

theorem grown_row (w : World) (b : Nat) (cs : Array Value) : w.grownBy (w.setRow b cs) (some b) :=
  ⟨rfl, rfl, rfl, by simp [World.setRow], fun k _ hk => setRow_other w b k cs (fun e => hk (by rw [e]))⟩
theorem run_store {t : TypeId} {n : Nat} {g : Bool} {E : TypeId} {cur : Array Value} {b o : Nat} {v : Value} {w : World} (ht : TyIs P t n g) (hg : w.heap[b]? = some (.cells cur E (0, 0))) (hn : v.cells.size = n) (hf : o + n ≤ cur.size) (h1 : ∀ c ∈ v.cells.toList, c.oneCell' = true) :
    (Instr.storeAt t (ptr b o) v).run P w = .ok () (w.setRow b (cur.toList.take o ++ v.cells.toList ++ cur.toList.drop (o + n)).toArray) := by
  have := run_storeCells_at P b o E v.cells.toList 0 cur w hg (by simp; omega) h1
  simp only [Nat.add_zero] at this
  rw [show v.cells.toList.length = n by simpa using hn] at this
  simp [Instr.storeAt, Instr.sureAddr, ptr, storeVar, Sem.run_bind, ht.size, hn, Result.andThen, this]
/-- A store into a variable of the call's own. -/
theorem store_core {α β : Type} {A : Ty α} {B : Ty β} {t E : TypeId} {X V : Value} {x : α} {y z : β} {put : β → α} {v : Value} {o : Nat} {ρ : Heap} {w : World} (ht : TyIs P t B.n B.agg) (hk : (boxR E A x v).holds ρ w) (hp : PtrTo v o X) (hv : B.val ρ V z) (hat : At A x o B y put) :
    ∃ w', (Instr.storeAt t X V).run P w = .ok () w' ∧ w.grownBy w' (blkOf v) ∧ (boxR E A (put z) v).holds ρ w' := by
  obtain ⟨b, cs, rfl, ho, hr, hn⟩ := box_own hk
  have hc := Ty.val_cells hv
  have hl := B.len hc
  have hA := A.len hr
  have hf := hat.fits _ _ hr
  have hrun := run_store (v := V) (w := w) ht ho (by simpa using hl) (show o + B.n ≤ cs.toArray.size by simp; omega) (B.plain hc)
  have hset := hat.set ρ cs _ z hr hc
  refine ⟨_, by rw [ptr_to hp]; exact hrun, grown_row w b _, ?_⟩
  unfold Res.holds
  show ∃ ob, _ ∧ _ ∧ _
  exact ⟨_, setRow_heap w b _ _ E _ ho, ⟨b, _, rfl, rfl, hset⟩, hn⟩
theorem storeS_core {α β : Type} {A : Ty α} {B : Ty β} {t E : TypeId} {X V : Value} {xs : List α} {i : Nat} {x : α} {y z : β} {put : β → α} {v : Value} {o : Nat} {ρ : Heap} {w : World} (ht : TyIs P t B.n B.agg) (hk : (slR E A xs v).holds ρ w) (hi : xs[i]? = some x)
    (hp : X = at_ v (i * A.n + o)) (hv : B.val ρ V z) (hat : At A x o B y put) : ∃ w', (Instr.storeAt t X V).run P w = .ok () w' ∧ w.grownBy w' (blkOf v) ∧ (slR E A (xs.set i (put z)) v).holds ρ w' := by
  have hil := (List.getElem?_eq_some_iff.1 hi).1
  obtain ⟨cs, h0, h1, ⟨_, hx⟩ | ⟨b, cap, cur, rfl, ho, hle, hcm, hcs, htk, hn⟩⟩ := sl_own hk
  · subst hx; simp at hi
  · have hc := Ty.val_cells hv
    have hl := B.len hc
    have hf := hat.fits _ _ (h1 i x hi)
    have hlen : i * A.n + A.n ≤ xs.length * A.n := by have := Nat.mul_le_mul_right A.n (show i + 1 ≤ xs.length from hil); rw [Nat.succ_mul] at this; exact this
    have hcl : xs.length * A.n ≤ cap * A.n := Nat.mul_le_mul_right _ hle
    have hX : X = ptr b (i * A.n + o) := by rw [hp]; simp [at_, ptr, add_at]
    have hrun := run_store (v := V) (w := w) ht ho (by simpa using hl) (show (i * A.n + o) + B.n ≤ cur.size by omega) (B.plain hc)
    -- the whole list of cells, as one array's
    have hrep : (TArr xs.length A).rep ρ cs xs := ⟨h0, rfl, h1⟩
    have hat' : At (TArr xs.length A) xs (i * A.n + o) B y (fun z => xs.set i (put z)) := by
      have e := At.elem (At.refl (TArr xs.length A) xs) hi
      refine ⟨fun _ _ _ => by simp only [TArr]; omega, fun ρ cs r => ?_, fun ρ cs ds z r k => ?_⟩
      · have hg := e.get ρ cs r
        have hg2 := hat.get ρ _ hg
        rw [List.drop_take, List.drop_drop, List.take_take, Nat.min_eq_left (by omega)] at hg2
        rw [show 0 + i * A.n + o = i * A.n + o by omega] at hg2
        exact hg2
      · have hg := e.get ρ cs r
        have hs := hat.set ρ _ ds z hg k
        have := e.set ρ cs _ _ r hs
        have hdl := B.len k
        have hrl : cs.length = xs.length * A.n := r.1
        have eq : cs.take (0 + i * A.n) ++ (((cs.drop (0 + i * A.n)).take A.n).take o ++ ds ++ ((cs.drop (0 + i * A.n)).take A.n).drop (o + B.n)) ++ cs.drop (0 + i * A.n + A.n) = cs.take (i * A.n + o) ++ ds ++ cs.drop (i * A.n + o + B.n) := by
          have hLl : (cs.drop (i * A.n)).length = xs.length * A.n - i * A.n := by rw [List.length_drop, hrl]
          have eA : cs.take (i * A.n + o) = cs.take (i * A.n) ++ (cs.drop (i * A.n)).take o := List.take_add
          have eB : ((cs.drop (i * A.n)).take A.n).drop (o + B.n) ++ cs.drop (i * A.n + A.n) = cs.drop (i * A.n + o + B.n) := by
            have e2 : cs.drop (i * A.n + A.n) = (cs.drop (i * A.n)).drop A.n := by rw [List.drop_drop]
            rw [e2, ← List.drop_append_of_le_length (by rw [List.length_take]; omega), List.take_append_drop, List.drop_drop, Nat.add_assoc]
          rw [Nat.zero_add, List.take_take, Nat.min_eq_left (by omega), eA, ← eB]
          simp only [List.append_assoc]
        rw [eq] at this
        exact this
    have hset := hat'.set ρ cs _ z hrep hc
    refine ⟨_, by rw [hX]; exact hrun, grown_row w b _, ?_⟩
    unfold Res.holds
    show ∃ ob, _ ∧ _ ∧ _
    refine ⟨_, setRow_heap w b _ _ E _ ho, ⟨_, by simpa using hset.1, hset.2.2, .inr ⟨b, cap, _, by rw [List.length_set], rfl, by simpa using hle, hcm, ?_, ?_⟩⟩, hn⟩
    · simp only [List.size_toArray, List.length_append, List.length_take, List.length_drop, Array.length_toList, hcs]
      have : V.cells.size = B.n := by simpa using hl
      rw [this]
      omega
    · rw [List.length_set]
      have hcul : cur.toList.length = cap * A.n := by simpa using hcs
      have hV : V.cells.toList.length = B.n := hl
      rw [← htk]
      show List.take _ (cur.toList.take (i * A.n + o) ++ V.cells.toList ++ cur.toList.drop (i * A.n + o + B.n)) = _
      rw [List.take_append, List.take_of_length_le (by rw [List.length_append, List.length_take]; omega)]
      rw [List.length_append, List.length_take, hcul, hV, Nat.min_eq_left (by omega)]
      rw [List.take_take, Nat.min_eq_left (by omega)]
      congr 1
      rw [List.drop_take]

theorem T.store {α β : Type} {A : Ty α} {B : Ty β} {t E : TypeId} {X V : Operand} {x : α} {y z : β} {put : β → α} {v : Value} {o : Nat} (id : Nat) (ht : TyIs P t B.n B.agg) (hH : H id = boxR E A x v)
    (h : ∀ ρ a w, St C Γ H ρ a w → PtrTo v o (a.eval X) ∧ B.val ρ (a.eval V) z) (hat : At A x o B y put) (k : T C Γ (updH H id (boxR E A (put z) v)) (wpList P ops Q rest)) :
    T C Γ H (wpList P ops Q (⟨none, .store t X V, ty, pos, after, none⟩ :: rest)) := by
  intro ρ a w st
  refine wpList_plain rfl fun K hK => ?_
  obtain ⟨hp, hv⟩ := h ρ a w st
  have hk := st.sat.ok id
  rw [hH] at hk
  obtain ⟨w', hrun, hg, hh⟩ := store_core ht hk hp hv hat
  have hbk : (H id).blk = blkOf v := by rw [hH]; rfl
  unfold Oper.wp
  simp only [execOp, Sem.run_bind, hrun, Result.andThen]
  exact hK _ _ (k ρ _ _ ⟨st.defers, st.size, st.env, st.sat.turn id (by rw [hbk]; exact hg) hh (fun b' hb' => .inr (by rw [hbk]; exact hb'))⟩)
/-- A store into a slice of the call's own. -/
theorem T.storeS {α β : Type} {A : Ty α} {B : Ty β} {t E : TypeId} {X V : Operand} {xs : List α} {i : Nat} {x : α} {y z : β} {put : β → α} {v : Value} {o : Nat} (id : Nat) (ht : TyIs P t B.n B.agg) (hH : H id = slR E A xs v) (hi : xs[i]? = some x)
    (h : ∀ ρ a w, St C Γ H ρ a w → a.eval X = at_ v (i * A.n + o) ∧ B.val ρ (a.eval V) z) (hat : At A x o B y put) (k : T C Γ (updH H id (slR E A (xs.set i (put z)) v)) (wpList P ops Q rest)) :
    T C Γ H (wpList P ops Q (⟨none, .store t X V, ty, pos, after, none⟩ :: rest)) := by
  intro ρ a w st
  refine wpList_plain rfl fun K hK => ?_
  obtain ⟨hp, hv⟩ := h ρ a w st
  have hk := st.sat.ok id
  rw [hH] at hk
  obtain ⟨w', hrun, hg, hh⟩ := storeS_core ht hk hi hp hv hat
  have hbk : (H id).blk = blkOf v := by rw [hH]; rfl
  unfold Oper.wp
  simp only [execOp, Sem.run_bind, hrun, Result.andThen]
  exact hK _ _ (k ρ _ _ ⟨st.defers, st.size, st.env, st.sat.turn id (by rw [hbk]; exact hg) hh (fun b' hb' => .inr (by rw [hbk]; exact hb'))⟩)
/-- The same stores within a region that leaves their order open. -/
theorem gt_store {α β : Type} {A : Ty α} {B : Ty β} {t E : TypeId} {X V : Operand} {x : α} {y z : β} {put : β → α} {v : Value} {o : Nat} {ρ : Heap} {w : World} {a : Act} {r0 : Res} {f : Value → Res} (hs : Sat C H ρ w) (id : Nat) (ht : TyIs P t B.n B.agg) (hH : H id = boxR E A x v) (hp : PtrTo v o (a.eval X)) (hv : B.val ρ (a.eval V) z) (hat : At A x o B y put)
    (hr0 : r0 = boxR E A x v) (hf0 : f = fun _ => boxR E A (put z) v) : GoalT P w r0 f ρ ⟨none, .store t X V, ty, pos, after, none⟩ a := by
  subst hr0 hf0
  refine ⟨fun _ _ => rfl, fun Q K hK => ?_⟩
  have hk := hs.ok id
  rw [hH] at hk
  obtain ⟨w', hrun, hg, hh⟩ := store_core ht hk hp hv hat
  unfold Oper.wp
  simp only [execOp, Sem.run_bind, hrun, Result.andThen]
  exact hK _ _ hg hh (fun b' hb' => .inr hb')
theorem gt_storeS {α β : Type} {A : Ty α} {B : Ty β} {t E : TypeId} {X V : Operand} {xs : List α} {i : Nat} {x : α} {y z : β} {put : β → α} {v : Value} {o : Nat} {ρ : Heap} {w : World} {a : Act} {r0 : Res} {f : Value → Res} (hs : Sat C H ρ w) (id : Nat) (ht : TyIs P t B.n B.agg) (hH : H id = slR E A xs v) (hi : xs[i]? = some x) (hp : a.eval X = at_ v (i * A.n + o)) (hv : B.val ρ (a.eval V) z) (hat : At A x o B y put)
    (hr0 : r0 = slR E A xs v) (hf0 : f = fun _ => slR E A (xs.set i (put z)) v) : GoalT P w r0 f ρ ⟨none, .store t X V, ty, pos, after, none⟩ a := by
  subst hr0 hf0
  refine ⟨fun _ _ => rfl, fun Q K hK => ?_⟩
  have hk := hs.ok id
  rw [hH] at hk
  obtain ⟨w', hrun, hg, hh⟩ := storeS_core ht hk hi hp hv hat
  unfold Oper.wp
  simp only [execOp, Sem.run_bind, hrun, Result.andThen]
  exact hK _ _ hg hh (fun b' hb' => .inr hb')
end

/-! ### Appending -/
def SlCells {α : Type} (A : Ty α) (ρ : Heap) (w : World) (u : Value) (ys : List α) : Prop :=
  ∃ p c news, u = .slice p ys.length c ∧ (p = none → ys.length = 0) ∧ news.length = ys.length * A.n ∧ (∀ c ∈ news, c.oneCell' = true) ∧
    (∀ a', p = some a' → ∀ j q, news[j]? = some q → w.cell? (a'.add j) = some q) ∧ ∀ i x, ys[i]? = some x → A.rep ρ (chunk A.n i news) x
theorem flat_chunks {α : Type} {A : Ty α} {ρ : Heap} : ∀ {ys : List α} {f : Nat → List Value}, (∀ i x, ys[i]? = some x → A.rep ρ (f i) x) →
    ((List.range ys.length).flatMap f).length = ys.length * A.n ∧ ∀ i, i < ys.length → chunk A.n i ((List.range ys.length).flatMap f) = f i := by
  intro ys f h
  have hl : ∀ i, i < ys.length → (f i).length = A.n := fun i hi => A.len (h i _ (List.getElem?_eq_getElem hi))
  have key : ∀ m, m ≤ ys.length → ((List.range m).flatMap f).length = m * A.n ∧ ∀ i, i < m → chunk A.n i ((List.range m).flatMap f) = f i := by
    intro m
    induction m with
    | zero => intro _; exact ⟨by simp, fun i hi => by omega⟩
    | succ m ih =>
      intro hm
      obtain ⟨h1, h2⟩ := ih (by omega)
      rw [List.range_succ, List.flatMap_append]
      simp only [List.flatMap_cons, List.flatMap_nil, List.append_nil]
      have hfm := hl m (by omega)
      refine ⟨by rw [List.length_append, h1, hfm, Nat.succ_mul], fun i hi => ?_⟩
      unfold chunk
      by_cases him : i = m
      · subst him
        rw [List.drop_append_of_le_length (by omega), List.drop_of_length_le (by omega), List.nil_append, List.take_of_length_le (by omega)]
      · have hlt : i < m := by omega
        have : (i + 1) * A.n ≤ m * A.n := Nat.mul_le_mul_right _ hlt
        rw [Nat.succ_mul] at this
        rw [List.drop_append_of_le_length (by omega), List.take_append_of_le_length (by rw [List.length_drop]; omega)]
        exact h2 i hlt
  exact key _ (Nat.le_refl _)
theorem cells_ro {α : Type} {A : Ty α} {ρ : Heap} {w : World} {u : Value} {ys : List α} (hn : 0 < A.n) (hle : ρ.le (snap w)) (h : (TSl A).val ρ u ys) : SlCells A ρ w u ys := by
  obtain ⟨p, l, c, h1, h2, h3, h4, h5⟩ := Ty.val_one rfl h
  have h1 : u = .slice p l c := by simpa using h1
  subst h2
  cases p with
  | none =>
    have := h4 rfl
    have hy : ys = [] := List.eq_nil_of_length_eq_zero (by omega)
    subst hy
    exact ⟨none, c, [], h1, (fun _ => rfl), by simp, by simp, (fun a' e => by cases e), (fun i x hi => by simp at hi)⟩
  | some a' =>
    have hex : ∀ i, ∃ ds, ∀ x, ys[i]? = some x → Seg ρ (a'.add (i * A.n)) ds ∧ A.rep ρ ds x := by
      intro i
      cases hy : ys[i]? with
      | none => exact ⟨[], fun x hx => by cases hx⟩
      | some y => obtain ⟨ds, h⟩ := h5 a' rfl i y hy; exact ⟨ds, fun x hx => by cases hx; exact h⟩
    obtain ⟨f, hf⟩ := Classical.axiomOfChoice hex
    obtain ⟨k1, k2⟩ := flat_chunks (ys := ys) (f := f) (fun i x hi => (hf i x hi).2)
    refine ⟨some a', c, (List.range ys.length).flatMap f, h1, (fun e => by cases e), k1, fun q hq => ?_, fun a'' e j q hj => ?_, fun i x hi => ?_⟩
    · obtain ⟨i, hi, hm⟩ := List.mem_flatMap.1 hq
      exact A.plain (hf i _ (List.getElem?_eq_getElem (List.mem_range.1 hi))).2 q hm
    · cases e
      have hjl := (List.getElem?_eq_some_iff.1 hj).1
      rw [k1] at hjl
      have hi : j / A.n < ys.length := Nat.div_lt_of_lt_mul (by rw [Nat.mul_comm]; exact hjl)
      have hk := k2 _ hi
      have hs := (hf (j / A.n) _ (List.getElem?_eq_getElem hi)).1
      have hm : (f (j / A.n))[j % A.n]? = some q := by
        rw [← hk]
        unfold chunk
        rw [List.getElem?_take, if_pos (Nat.mod_lt _ hn), List.getElem?_drop, Nat.div_add_mod' j A.n]
        exact hj
      have := cellAt_mono hle (hs _ _ hm)
      rw [Addr.add_add, Nat.div_add_mod' j A.n] at this
      exact this
    · rw [k2 i (List.getElem?_eq_some_iff.1 hi).1]; exact (hf i x hi).2
theorem cells_own {α : Type} {A : Ty α} {C : Ctx} {H : Nat → Res} {ρ : Heap} {w : World} {E : TypeId} {v : Value} {ys : List α} (hs : Sat C H ρ w) (id : Nat) (hH : H id = slR E A ys v) : SlCells A ρ w v ys := by
  have hk := hs.ok id
  rw [hH] at hk
  obtain ⟨cs, h0, h1, ⟨hv, hx⟩ | ⟨b, cap, cur, rfl, ho, hle, hcm, hcs, htk, hn⟩⟩ := sl_own hk
  · subst hx; exact ⟨none, 0, [], hv, (fun _ => rfl), by simp, by simp, (fun a' e => by cases e), (fun i x hi => by simp at hi)⟩
  · refine ⟨some ⟨b, 0, none⟩, cap, cs, rfl, (fun e => by cases e), h0, fun q hq => ?_, fun a' e j q hj => ?_, h1⟩
    · obtain ⟨i, hi, hm⟩ := mem_chunks h0 hq
      exact A.plain (h1 i _ (List.getElem?_eq_getElem hi)) q hm
    · cases e
      rw [add_at]
      have := take_cell htk hj
      simp [World.cell?, ho, this]
theorem info_get {P : Program} {e : TypeId} {z : Value} {n by_ : Nat} (h : (P.info? e).map (fun i => (i.zero, i.size, i.bytes)) = some (some z, n, by_)) : ∃ i, P.info? e = some i ∧ i.zero = some z ∧ i.size = n ∧ i.bytes = by_ := by
  cases hi : P.info? e with
  | none => rw [hi] at h; cases h
  | some i => rw [hi] at h; simp only [Option.map_some, Option.some.injEq, Prod.mk.injEq] at h; exact ⟨i, rfl, h.1, h.2.1, h.2.2⟩
section
variable {P : Program} {C : Ctx} {Γ : Nat → SRel} {H : Nat → Res} {Q : Exit → Act → World → Prop} {ops : Array Oper} {rest : List Oper} {op : Op} {ty : TypeId} {pos : String} {after : Array Edge} {d : Nat}
theorem run_append {α : Type} {A : Ty α} {t e : TypeId} {z v u : Value} {xs ys : List α} {by_ : Nat} {ρ : Heap} {w : World} (hu : P.underlying t = some (.slice e)) (hi : (P.info? e).map (fun i => (i.zero, i.size, i.bytes)) = some (some z, A.n, by_)) (hz : z.cells.size = A.n) (hn : 0 < A.n) (hby : by_ ≤ 65536)
    (hle : ρ.le (snap w)) (hk : (slR e A xs v).holds ρ w) (hy : SlCells A ρ w u ys) (hm : xs.length + ys.length ≤ most) :
    ∃ v' w', (Builtin.append_ #[t, t] ty #[v, u]).run P w = .ok v' w' ∧ (slR e A (xs ++ ys) v').holds ρ w' ∧ w.grownBy w' (blkOf v) ∧ (∀ b, blkOf v' = some b → w.heap.size ≤ b ∨ blkOf v = some b) := by
  obtain ⟨i, h1, h2, h3, h4⟩ := info_get hi
  obtain ⟨cs, k0, k1, k2⟩ := sl_own hk
  obtain ⟨p, c, news, rfl, y1, y2, y3, y4, y5⟩ := hy
  have hbytes : (xs.length + ys.length) * by_ ≤ 140737488355328 := by
    have := Nat.mul_le_mul hm hby
    unfold most at this
    omega
  have h63 : xs.length + ys.length ≤ maxLen := by unfold maxLen; unfold most at hm; omega
  have reps : ∀ j x, (xs ++ ys)[j]? = some x → A.rep ρ (chunk A.n j (cs ++ news)) x := by
    intro j x hj
    unfold chunk
    by_cases hjl : j < xs.length
    · rw [List.getElem?_append_left hjl] at hj
      have := k1 j x hj
      unfold chunk at this
      have h5 : (j + 1) * A.n ≤ xs.length * A.n := Nat.mul_le_mul_right _ hjl
      rw [Nat.succ_mul] at h5
      rw [List.drop_append_of_le_length (by omega), List.take_append_of_le_length (by rw [List.length_drop]; omega)]
      exact this
    · rw [List.getElem?_append_right (by omega)] at hj
      have := y5 _ x hj
      unfold chunk at this
      have h5 : xs.length * A.n ≤ j * A.n := Nat.mul_le_mul_right _ (by omega)
      have h6 : (cs ++ news).drop (j * A.n) = news.drop ((j - xs.length) * A.n) := by
        rw [List.drop_append, List.drop_of_length_le (by omega), List.nil_append, k0, Nat.sub_mul]
      rw [h6]; exact this
  have fin : ∀ (b cap : Nat) (cur : Array Value) (w' : World), w'.heap[b]? = some (.cells cur e (0, 0)) → xs.length + ys.length ≤ cap → cap ≤ maxLen → cur.size = cap * A.n → cur.toList.take ((xs.length + ys.length) * A.n) = cs ++ news → ρ b = none →
      (slR e A (xs ++ ys) (.slice (some ⟨b, 0, none⟩) (xs.length + ys.length) cap)).holds ρ w' := by
    intro b cap cur w' ho hle hcm hcs htk hρ'
    unfold Res.holds
    show ∃ ob, _ ∧ _ ∧ _
    exact ⟨_, ho, ⟨cs ++ news, by rw [List.length_append, List.length_append, k0, y2, Nat.add_mul], reps, .inr ⟨b, cap, cur, by rw [List.length_append], rfl, by rw [List.length_append]; exact hle, hcm, hcs, by rw [List.length_append]; exact htk⟩⟩, hρ'⟩
  have hlen : (cs ++ news).length = (xs.length + ys.length) * A.n := by rw [List.length_append, k0, y2, Nat.add_mul]
  -- a new block
  have grown : ∀ old, old < xs.length + ys.length → (slR e A (xs ++ ys) (.slice (some ⟨w.heap.size, 0, none⟩) (xs.length + ys.length) (grownCap w (xs.length + ys.length) old e))).holds ρ
      (w.drew.alloc (.cells (cs.toArray ++ news.toArray ++ Builtin.zeroCells z.cells (grownCap w (xs.length + ys.length) old e - (xs.length + ys.length))) e)) := by
    intro old ho
    have hge := grownCap_ge w (xs.length + ys.length) old e
    have hcm := grownCap_le_maxLen w (xs.length + ys.length) old e h63
    refine fin _ _ _ _ (heap_alloc_new w.drew _) hge hcm ?_ ?_ (snap_none hle (Nat.le_refl _))
    · simp only [Array.size_append, List.size_toArray, size_zeroCells, hz, k0, y2, ← Nat.add_mul]
      congr 1
      omega
    · simp only [Array.toList_append]
      rw [← hlen]
      exact List.take_left
  have gby : ∀ o row, w.grownBy (w.drew.alloc o) row := fun o row => ⟨rfl, rfl, rfl, by simp, fun k hk _ => RowKit.Below.heap_alloc _ _ _ hk⟩
  have y2' : news.length = ys.length * i.size := by rw [h3]; exact y2
  have k0' : cs.length = xs.length * i.size := by rw [h3]; exact k0
  subst h4
  cases p with
  | none =>
    have hy0 := y1 rfl
    have hy : ys = [] := List.eq_nil_of_length_eq_zero hy0
    subst hy
    refine ⟨v, w, ?_, by simpa using hk, ⟨rfl, rfl, rfl, Nat.le_refl _, fun _ _ _ => rfl⟩, fun b hb => .inr hb⟩
    rcases k2 with ⟨rfl, _⟩ | ⟨b, cap, cur, rfl, ho, hle', _⟩
    · simp [Builtin.append_, run_underlying hu, sizeOf, typeInfo, h1, Builtin.lenOf, Builtin.firstCells, loadCells, loadCellsFrom]
    · simp [Builtin.append_, run_underlying hu, sizeOf, typeInfo, h1, Builtin.lenOf, Builtin.firstCells, storeCells, hle']
  | some a' =>
    have hnews := y4 a' rfl
    rcases k2 with ⟨rfl, rfl⟩ | ⟨b, cap, cur, rfl, ho, hle', hcm, hcs, htk, hρb⟩
    · have hc0 : cs = [] := List.eq_nil_of_length_eq_zero (by simpa using k0)
      subst hc0
      by_cases hy0 : ys.length = 0
      · have hy : ys = [] := List.eq_nil_of_length_eq_zero hy0
        subst hy
        have hn0 : news = [] := List.eq_nil_of_length_eq_zero (by simpa using y2)
        refine ⟨.slice none 0 0, w, ?_, by simpa using hk, ⟨rfl, rfl, rfl, Nat.le_refl _, fun _ _ _ => rfl⟩, fun b hb => .inr hb⟩
        simp [Builtin.append_, run_underlying hu, sizeOf, typeInfo, h1, Builtin.lenOf, Builtin.firstCells, loadCells, loadCellsFrom]
      · have hr := run_append_nil (P := P) w t ty e i z hu h1 h2 a' ys.length c news y2' hnews (by omega) (by unfold most at hm; simp at hm; omega) (by simp at hbytes; omega)
        have g := grown 0 (by simp; omega)
        simp only [List.length_nil, Nat.zero_add, List.nil_append, Array.empty_append] at g
        exact ⟨_, _, hr, g, gby _ _, fun b hb => .inl (by simp [blkOf] at hb; omega)⟩
    · by_cases hroom : xs.length + ys.length ≤ cap
      · have hfit : xs.length * i.size + news.length ≤ cur.size := by rw [h3, y2, hcs, ← Nat.add_mul]; exact Nat.mul_le_mul_right _ hroom
        have hr := run_append_room (P := P) w t ty e i hu h1 b xs.length cap cur ho a' ys.length c news y2' hnews y3 hroom hfit
        refine ⟨_, _, hr, fin b cap _ _ (setRow_heap w b cur _ e _ ho) hroom hcm ?_ ?_ hρb, grown_row w b _, fun b' hb => .inr hb⟩
        · simp only [List.size_toArray, List.length_append, List.length_take, List.length_drop, Array.length_toList]
          omega
        · rw [h3, htk, ← hlen]
          exact List.take_left
      · have holds : ∀ j u, cs[j]? = some u → w.cell? ((⟨b, 0, none⟩ : Addr).add j) = some u := fun j u hj => by
          rw [add_at]
          have := take_cell htk hj
          simp [World.cell?, ho, this]
        have hr := run_append_grow (P := P) w t ty e i z hu h1 h2 ⟨b, 0, none⟩ xs.length cap cs k0' holds a' ys.length c news y2' hnews (by omega) (by unfold most at hm; omega) (growslice_fits (by omega) hbytes)
        exact ⟨_, _, hr, grown cap (by omega), gby _ _, fun b' hb => .inl (by simp [blkOf] at hb; omega)⟩
/-- Appending to a slice of the call's own. -/
theorem T.append {α : Type} {A : Ty α} {t e : TypeId} {X Y : Operand} {z v : Value} {xs ys : List α} {by_ : Nat} (id : Nat) (hd : decide (d < C.n) = true) (hu : P.underlying t = some (.slice e)) (hi : (P.info? e).map (fun i => (i.zero, i.size, i.bytes)) = some (some z, A.n, by_))
    (hz : (decide (z.cells.size = A.n) && decide (0 < A.n) && decide (by_ ≤ 65536)) = true) (hH : H id = slR e A xs v) (h : ∀ ρ a w, St C Γ H ρ a w → a.eval X = v ∧ SlCells A ρ w (a.eval Y) ys) (hm : xs.length + ys.length ≤ most)
    (k : ∀ v', T C (upd Γ d (SRel.eq v')) (updH H id (slR e A (xs ++ ys) v')) (wpList P ops Q rest)) :
    T C Γ H (wpList P ops Q (⟨some d, .call { callee := .builtin .append, args := #[X, Y], argTypes := #[t, t] }, ty, pos, after, none⟩ :: rest)) := by
  intro ρ a w st
  refine wpList_plain rfl fun K hK => ?_
  simp only [Bool.and_eq_true, decide_eq_true_eq] at hz hd
  obtain ⟨hX, hY⟩ := h ρ a w st
  have hk := st.sat.ok id
  rw [hH] at hk
  obtain ⟨v', w', hrun, hh, hg, hb⟩ := run_append (ty := ty) hu hi hz.1.1 hz.1.2 hz.2 st.sat.le hk hY hm
  have hbk : (H id).blk = blkOf v := by rw [hH]; rfl
  unfold Oper.wp
  rw [run_builtin (v := v') (w' := w') (fun cs => by
    have : (#[X, Y].map a.eval) = #[v, a.eval Y] := by simp [hX]
    rw [this]
    simp [builtin, hrun, Result.andThen])]
  refine hK _ _ (k v' ρ _ w' ⟨by simpa [Act.put] using st.defers, by simpa [Act.put] using st.size, fun t => ?_, st.sat.turn id (by rw [hbk]; exact hg) hh (fun b hb' => by rw [hbk]; exact hb b hb')⟩)
  show (upd Γ d (SRel.eq v') t).p _ (slot _ t)
  rw [slot_put (by rw [st.size]; exact hd)]
  unfold upd
  cases hbq : Nat.beq d t with
  | true => rw [if_pos (Nat.eq_of_beq_eq_true hbq)]; rfl
  | false => rw [if_neg (Nat.ne_of_beq_eq_false hbq)]; exact st.env t
end

section
variable {P : Program} {C : Ctx} {H : Nat → Res} {ty : TypeId} {pos : String} {after : Array Edge} {d : Nat}
theorem gt_append {α : Type} {A : Ty α} {t e : TypeId} {X Y : Operand} {z v : Value} {xs ys : List α} {by_ : Nat} {ρ : Heap} {w : World} {a : Act} {r0 : Res} {f : Value → Res} (hs : Sat C H ρ w) (id : Nat) (hu : P.underlying t = some (.slice e)) (hi : (P.info? e).map (fun i => (i.zero, i.size, i.bytes)) = some (some z, A.n, by_))
    (hz : (decide (z.cells.size = A.n) && decide (0 < A.n) && decide (by_ ≤ 65536)) = true) (hH : H id = slR e A xs v) (hX : a.eval X = v) (hY : SlCells A ρ w (a.eval Y) ys) (hm : xs.length + ys.length ≤ most)
    (hr0 : r0 = slR e A xs v) (hf0 : f = fun v' => slR e A (xs ++ ys) v') : GoalT P w r0 f ρ ⟨some d, .call { callee := .builtin .append, args := #[X, Y], argTypes := #[t, t] }, ty, pos, after, none⟩ a := by
  subst hr0 hf0
  refine ⟨(fun h => by cases h), fun Q K hK => ?_⟩
  simp only [Bool.and_eq_true, decide_eq_true_eq] at hz
  have hk := hs.ok id
  rw [hH] at hk
  obtain ⟨v', w', hrun, hh, hg, hb⟩ := run_append (ty := ty) hu hi hz.1.1 hz.1.2 hz.2 hs.le hk hY hm
  unfold Oper.wp
  rw [run_builtin (v := v') (w' := w') (fun cs => by
    have : (#[X, Y].map a.eval) = #[v, a.eval Y] := by simp [hX]
    rw [this]
    simp [builtin, hrun, Result.andThen])]
  exact hK v' w' hg hh hb
end

/-! ### The end of a function -/
def SRel.tup2 (A B : SRel) : SRel := ⟨fun ρ v => ∃ x y, v = .tuple #[x, y] ∧ A.p ρ x ∧ B.p ρ y, fun h ⟨x, y, e, p, q⟩ => ⟨x, y, e, A.mono h p, B.mono h q⟩⟩
def SRel.tup3 (A B C : SRel) : SRel := ⟨fun ρ v => ∃ x y z, v = .tuple #[x, y, z] ∧ A.p ρ x ∧ B.p ρ y ∧ C.p ρ z, fun h ⟨x, y, z, e, p, q, r⟩ => ⟨x, y, z, e, A.mono h p, B.mono h q, C.mono h r⟩⟩
def SRel.tup4 (A B C D : SRel) : SRel := ⟨fun ρ v => ∃ x y z u, v = .tuple #[x, y, z, u] ∧ A.p ρ x ∧ B.p ρ y ∧ C.p ρ z ∧ D.p ρ u, fun h ⟨x, y, z, u, e, p, q, r, s⟩ => ⟨x, y, z, u, e, A.mono h p, B.mono h q, C.mono h r, D.mono h s⟩⟩
def ResVal (P : Program) (a : Act) (w : World) : ResultVar → Value → Prop
  | .tmp t, v => slot a t = v
  | .cell t T, v => ∃ p, slot a t = .pointer (some p) ∧ (loadVar T p).run P w = .ok v w
section
variable {P : Program} {C : Ctx} {Γ : Nat → SRel} {H : Nat → Res} {a : Act} {w : World} {ρ : Heap}
def resG (a : Act) (r : ResultVar) : Sem Value := match r with
  | .tmp t => pure (a.tmps.getD t undef)
  | .cell b t => do loadVar t (← asAddr (a.tmps.getD b undef))
theorem run_resvar {r : ResultVar} {v : Value} (h : ResVal P a w r v) : (resG a r).run P w = .ok v w := by
  cases r with
  | tmp t => unfold ResVal slot at h; simp only [resG, h]; rfl
  | cell t T =>
    obtain ⟨p, h1, h2⟩ := h
    unfold slot at h1
    simp only [resG, h1, asAddr, Sem.run_bind]
    exact h2
theorem results_eq (fn : Func) : results fn a.tmps = (do let vs ← fn.results.mapM (resG a); pure (if h : vs.size = 1 then vs[0] else .tuple vs)) := by
  unfold results
  rfl
theorem results_one {fn : Func} {r : ResultVar} {v : Value} (hf : fn.results = #[r]) (h : ResVal P a w r v) : (results fn a.tmps).run P w = .ok v w := by
  rw [results_eq, hf]
  simp [Sem.run_bind, run_resvar h, Result.andThen]
theorem results_two {fn : Func} {r s : ResultVar} {v u : Value} (hf : fn.results = #[r, s]) (h : ResVal P a w r v) (k : ResVal P a w s u) : (results fn a.tmps).run P w = .ok (.tuple #[v, u]) w := by
  rw [results_eq, hf]
  simp [Sem.run_bind, run_resvar h, run_resvar k, Result.andThen]
theorem results_three {fn : Func} {r s q : ResultVar} {v u x : Value} (hf : fn.results = #[r, s, q]) (h : ResVal P a w r v) (k : ResVal P a w s u) (l : ResVal P a w q x) : (results fn a.tmps).run P w = .ok (.tuple #[v, u, x]) w := by
  rw [results_eq, hf]
  simp [Sem.run_bind, run_resvar h, run_resvar k, run_resvar l, Result.andThen]
theorem results_four {fn : Func} {r s q o : ResultVar} {v u x y : Value} (hf : fn.results = #[r, s, q, o]) (h : ResVal P a w r v) (k : ResVal P a w s u) (l : ResVal P a w q x) (m : ResVal P a w o y) : (results fn a.tmps).run P w = .ok (.tuple #[v, u, x, y]) w := by
  rw [results_eq, hf]
  simp [Sem.run_bind, run_resvar h, run_resvar k, run_resvar l, run_resvar m, Result.andThen]
theorem results_no {fn : Func} (hf : fn.results = #[]) : (results fn a.tmps).run P w = .ok (.tuple #[]) w := by simp [results, hf]
/-- A result's variable in memory. -/
theorem rv_cell {α : Type} {A : Ty α} {t : Nat} {T E : TypeId} {x : α} {v : Value} (ht : TyIs P T A.n A.agg) (hs : Sat C H ρ w) (id : Nat) (hH : H id = boxR E A x v) (h : slot a t = v) : ∃ u, ResVal P a w (.cell t T) u ∧ A.val ρ u x := by
  have hk := hs.ok id
  rw [hH] at hk
  obtain ⟨b, cs, rfl, ho, hr, _⟩ := box_own hk
  refine ⟨pack A.agg cs, ⟨_, h, ?_⟩, cs, hr, rfl⟩
  have := run_load_seg (P := P) (w := w) (p := ⟨b, 0, none⟩) ht (fun j v hj => by
    rw [add_at]
    simp [World.cell?, ho, hj]) hr
  simpa [Instr.loadAt, Instr.sureAddr] using this
theorem rv_cellP {α : Type} {A : Ty α} {t : Nat} {T : TypeId} {x : α} (ht : TyIs P T A.n A.agg) (hle : ρ.le (snap w)) (h : (TP A).val ρ (slot a t) x) : ∃ u, ResVal P a w (.cell t T) u ∧ A.val ρ u x := by
  obtain ⟨p, cs, h1, h2, h3⟩ := Ty.val_one rfl h
  have h1 : slot a t = .pointer (some p) := by simpa using h1
  refine ⟨pack A.agg cs, ⟨p, h1, ?_⟩, cs, h3, rfl⟩
  have := run_load_seg (P := P) (w := w) ht (fun j v hj => cellAt_mono hle (h2 j v hj)) h3
  simpa [Instr.loadAt, Instr.sureAddr] using this
/-- What is known at the end lies in what was known at the beginning, or is new. -/
theorem Sat.within {w0 : World} {n : Nat} {ex : List Nat} {σ : Heap} (hs : Sat ⟨w0, ex, n, σ⟩ H ρ w) (bs : List Nat) (hb : ∀ b, b ∈ bs → ρ b = none) : ρ.le (σ.plus (freshX w0 w bs)) := fun b o e => by
  unfold Heap.plus
  rcases hs.lim b o e with h | h
  · have h : σ b = some o := h
    rw [h]
  · have h : w0.heap.size ≤ b := h
    have hn : σ b = none := snap_none hs.sle h
    rw [hn]
    have : b ∉ bs := fun hm => by rw [hb b hm] at e; cases e
    simp only [freshX]
    rw [if_neg (by omega), if_neg (by simpa using this)]
    exact hs.le b o e
theorem Sat.off (hs : Sat C H ρ w) (id : Nat) {b : Nat} (hb : (H id).blk = some b) : ρ b = none := by
  have := hs.ok id
  unfold Res.holds at this
  rw [hb] at this
  obtain ⟨_, _, _, hn⟩ := this
  exact hn
/-- The end: the value's facts at what is known there; what is handed on is told by its names. -/
theorem T.fin {fn : Func} {w0 : World} {n : Nat} {σ : Heap} {R : SRel} {rs : List (Value → Res)} (h : ∀ ρ a w, St ⟨w0, [], n, σ⟩ Γ H ρ a w → ∃ v, (results fn a.tmps).run P w = .ok v w ∧ R.p ρ v ∧
      (∀ r, r ∈ rs → ∃ id, H id = r v) ∧ rs.Pairwise fun r q => ∃ i j, i ≠ j ∧ H i = r v ∧ H j = q v) :
    T ⟨w0, [], n, σ⟩ Γ H (bodyPost P fn (Ret [] w0 σ R rs) .ret) := fun ρ a w st => by
  obtain ⟨v, h1, h2, h3, h4⟩ := h ρ a w st
  have hoff : ∀ b, b ∈ (rs.filterMap fun r => (r v).blk) → ρ b = none := fun b hb => by
    obtain ⟨r, hr, hrb⟩ := List.mem_filterMap.1 hb
    obtain ⟨id, hid⟩ := h3 r hr
    exact st.sat.off id (by rw [hid]; exact hrb)
  have hw := st.sat.within _ hoff
  refine ⟨st.defers, v, h1, ⟨st.sat.fr, R.mono hw h2, fun r hr => ?_, h4.imp fun ⟨i, j, hij, hi, hj⟩ b hb => ?_⟩⟩
  · obtain ⟨id, hid⟩ := h3 r hr
    have hm : ∀ b, (r v).blk = some b → w0.heap.size ≤ b := fun b hb => (st.sat.mine id b (by rw [hid]; exact hb)).resolve_right (by simp)
    refine ⟨?_, hm⟩
    have hk := st.sat.ok id
    rw [hid] at hk
    unfold Res.holds at hk ⊢
    cases hx : (r v).blk with
    | none => rw [hx] at hk; exact (r v).mono hw hk
    | some b =>
      rw [hx] at hk
      obtain ⟨o, ho, hok, _⟩ := hk
      refine ⟨o, ho, (r v).mono hw hok, ?_⟩
      have hbs : b ∈ (rs.filterMap fun r => (r v).blk) := List.mem_filterMap.2 ⟨r, hr, hx⟩
      have hn : σ b = none := snap_none st.sat.sle (hm b hx)
      unfold Heap.plus
      rw [hn]
      simp only [freshX]
      split
      · rfl
      · first | rfl | rw [if_pos (by simpa using hbs)]
  · rw [← hi] at hb
    rw [← hj]
    exact st.sat.apart i j b hij hb
/-- Nothing is owned. -/
theorem T.fin0 {fn : Func} {w0 : World} {n : Nat} {σ : Heap} {R : SRel} (h : ∀ ρ a w, St ⟨w0, [], n, σ⟩ Γ H ρ a w → ∃ v, (results fn a.tmps).run P w = .ok v w ∧ R.p ρ v) :
    T ⟨w0, [], n, σ⟩ Γ H (bodyPost P fn (Ret [] w0 σ R []) .ret) := T.fin fun ρ a w st => let ⟨v, h1, h2⟩ := h ρ a w st; ⟨v, h1, h2, (fun r hr => by cases hr), List.Pairwise.nil⟩
theorem loose_slR {α : Type} {A : Ty α} {E : TypeId} {xs : List α} {v : Value} (h : A.Flat) : (slR E A xs v).Loose := fun ρ σ o ⟨cs, h0, h1, h2⟩ => ⟨cs, h0, fun i x hi => h _ _ _ _ (h1 i x hi), h2⟩
theorem loose_sv {α : Type} {A : Ty α} {x : α} (h : A.Flat) : (A.sv x).Loose := fun ρ σ v => h.val σ
theorem loose_any : SRel.any.Loose := fun _ _ _ _ => trivial
theorem loose_tup2 {A B : SRel} (h : A.Loose) (k : B.Loose) : (SRel.tup2 A B).Loose := fun ρ σ v ⟨x, y, e, p, q⟩ => ⟨x, y, e, h _ _ _ p, k _ _ _ q⟩
theorem loose_tup3 {A B C : SRel} (h : A.Loose) (k : B.Loose) (l : C.Loose) : (SRel.tup3 A B C).Loose := fun ρ σ v ⟨x, y, z, e, p, q, r⟩ => ⟨x, y, z, e, h _ _ _ p, k _ _ _ q, l _ _ _ r⟩
theorem loose_tup4 {A B C D : SRel} (h : A.Loose) (k : B.Loose) (l : C.Loose) (m : D.Loose) : (SRel.tup4 A B C D).Loose := fun ρ σ v ⟨x, y, z, u, e, p, q, r, s⟩ => ⟨x, y, z, u, e, h _ _ _ p, k _ _ _ q, l _ _ _ r, m _ _ _ s⟩
/-- Own memory that will not be written any more is memory like any other. -/
theorem T.freeze {φ : Act → World → Prop} {w0 : World} {n : Nat} {σ : Heap} {α : Type} {A : Ty α} {E : TypeId} {xs : List α} {v : Value} (id d : Nat) (hH : H id = slR E A xs v) (hd : ∀ ρ u, (Γ d).p ρ u → u = v)
    (k : T ⟨w0, [], n, σ⟩ (upd Γ d ((TSl A).sv xs)) (updH H id Res.none) φ) : T ⟨w0, [], n, σ⟩ Γ H φ := fun ρ a w st => by
  have hm : ∀ b, (H id).blk = some b → w0.heap.size ≤ b := fun b hb => (st.sat.mine id b hb).resolve_right (by simp)
  have hs := st.sat
  have hoth : ∀ t, updH H id Res.none t = H t ∧ t ≠ id ∨ updH H id Res.none t = Res.none := fun t => by
    unfold updH
    cases hb : Nat.beq id t with
    | true => exact .inr rfl
    | false => exact .inl ⟨rfl, fun e => Nat.ne_of_beq_eq_false hb e.symm⟩
  -- what is known from now on
  let ρ' : Heap := fun b => if (H id).blk = some b then w.heap[b]? else ρ b
  have hle : ρ.le ρ' := fun b o e => by
    show (if (H id).blk = some b then w.heap[b]? else ρ b) = some o
    split
    · rename_i hb; rw [hs.off id hb] at e; cases e
    · exact e
  have hle' : ρ'.le (snap w) := fun b o e => by
    change (if (H id).blk = some b then w.heap[b]? else ρ b) = some o at e
    split at e
    · exact e
    · exact hs.le b o e
  refine k ρ' a w ⟨st.defers, st.size, fun t => ?_, ⟨hle', fun i => ?_, fun i j b hij hi => ?_, fun i b hi => ?_, hs.fr, fun b o e => ?_, hs.sle⟩⟩
  · unfold upd
    cases hb : Nat.beq d t with
    | false => exact (Γ t).mono hle (st.env t)
    | true =>
      have hdt := Nat.eq_of_beq_eq_true hb
      subst hdt
      have hv := hd _ _ (st.env d)
      show (TSl A).val ρ' (a.tmps.getD d undef) xs
      rw [hv]
      have hk := hs.ok id
      rw [hH] at hk
      obtain ⟨cs, h0, h1, ⟨rfl, rfl⟩ | ⟨b, cap, cur, rfl, ho, hlc, hcm, hcs, htk, _⟩⟩ := sl_own hk
      · exact Ty.val_of_one rfl ⟨none, 0, 0, rfl, rfl, by simp, fun _ => rfl, fun a h => by cases h⟩
      · refine Ty.val_of_one rfl ⟨some ⟨b, 0, none⟩, xs.length, cap, rfl, rfl, ⟨hlc, by unfold maxLen at hcm; omega⟩, (fun h => by cases h), fun a' e i x hi => ?_⟩
        cases e
        refine ⟨chunk A.n i cs, fun j u hj => ?_, A.mono hle (h1 i x hi)⟩
        have hbk : (H id).blk = some b := by rw [hH]; rfl
        have hρ' : ρ' b = w.heap[b]? := by show (if (H id).blk = some b then w.heap[b]? else ρ b) = _; rw [if_pos hbk]
        rw [add_at, add_at]
        unfold chunk at hj
        rw [List.getElem?_take] at hj
        split at hj
        · rw [List.getElem?_drop] at hj
          have := take_cell htk hj
          unfold cellAt
          simp [hρ', ho, this]
        · cases hj
  · rcases hoth i with ⟨e, hne⟩ | e
    · rw [e]
      have hk := hs.ok i
      unfold Res.holds at hk ⊢
      cases hx : (H i).blk with
      | none => rw [hx] at hk; exact (H i).mono hle hk
      | some b =>
        rw [hx] at hk
        obtain ⟨o, ho, hok, hn⟩ := hk
        refine ⟨o, ho, (H i).mono hle hok, ?_⟩
        show (if (H id).blk = some b then w.heap[b]? else ρ b) = none
        rw [if_neg (hs.apart i id b hne hx)]; exact hn
    · rw [e]; exact trivial
  · rcases hoth i with ⟨e, hne⟩ | e
    · rw [e] at hi
      rcases hoth j with ⟨e', _⟩ | e'
      · rw [e']; exact hs.apart i j b hij hi
      · rw [e']; simp [Res.none]
    · rw [e] at hi; simp [Res.none] at hi
  · rcases hoth i with ⟨e, hne⟩ | e
    · rw [e] at hi; exact hs.mine i b hi
    · rw [e] at hi; simp [Res.none] at hi
  · change (if (H id).blk = some b then w.heap[b]? else ρ b) = some o at e
    split at e
    · rename_i hb; exact .inr (hm b hb)
    · exact hs.lim b o e
end

/-! ### A call that turns blocks of the caller's own -/
section
variable {P : Program} {C : Ctx} {Γ : Nat → SRel} {H : Nat → Res} {Q : Exit → Act → World → Prop} {ops : Array Oper} {rest : List Oper} {op : Op} {ty : TypeId} {pos : String} {after : Array Edge} {d : Nat}
/-- What the call may not turn. -/
def snapX (ex : List Nat) (w : World) : Heap := fun b => if b ∈ ex then none else w.heap[b]?
theorem snapX_le (ex : List Nat) (w : World) : (snapX ex w).le (snap w) := fun b o h => by
  unfold snapX at h
  split at h
  · cases h
  · exact h
theorem le_snapX {ρ : Heap} {w : World} (hs : Sat C H ρ w) (id : Nat) : ρ.le (snapX (H id).blk.toList w) := fun k o h => by
  unfold snapX
  rw [if_neg]
  · exact hs.le k o h
  · intro hk
    have hk : (H id).blk = some k := by simpa using hk
    rw [hs.off id hk] at h; cases h
/-- How a call ends that has turned some blocks: these blocks, too, fit again. -/
def RetM (ex : List Nat) (w : World) (R : SRel) (r : Res) : Ending → World → Prop
  | .returned v, w' => BelowX ex w w' ∧ (∀ σ, R.p σ v) ∧ r.holds (snapX ex w) w'
  | _, _ => False
theorem callM_at {f : FuncId} {args : Array Operand} {ts : Array TypeId} {R : SRel} {dst : Option Tmp} {ρ : Heap} {a : Act} {w : World} (st : St C Γ H ρ a w) (id : Nat) {r : Res} (hf : FnIs P f) (hd : (match dst with | some d => decide (d < C.n) | none => true) = true) (hrb : r.blk = (H id).blk) (hl : r.Loose)
    (h : Calls P f (args.map a.eval) w (RetM (H id).blk.toList w R r)) (k : T C (match dst with | some d => upd Γ d R | none => Γ) (updH H id r) (wpList P ops Q rest)) :
    wpList P ops Q (⟨dst, .call { callee := .value (.func f), args := args, argTypes := ts }, ty, pos, after, none⟩ :: rest) a w := by
  refine wpList_plain rfl fun K hK => ?_
  unfold Oper.wp
  rw [run_call hf rfl]
  refine h.mono fun e w' he => ?_
  cases e with
  | panicked _ => exact he.elim
  | outgrown => exact he.elim
  | returned v =>
    obtain ⟨hB, hR, hr⟩ := he
    have hr' : r.holds ρ w' := by
      unfold Res.holds at hr ⊢
      cases hb : r.blk with
      | none => rw [hb] at hr; exact hl _ _ _ hr
      | some b =>
        rw [hb] at hr
        obtain ⟨o, h1, h2, _⟩ := hr
        exact ⟨o, h1, hl _ _ _ h2, st.sat.off id (by rw [← hrb]; exact hb)⟩
    have hs := st.sat.turn id (w' := w') ⟨hB.os, hB.tape, hB.output, hB.size, fun k hk hne => hB.block k hk (by simpa using fun e => hne e.symm)⟩ hr' (fun b' hb' => .inr (by rw [← hrb]; exact hb'))
    refine hK _ _ (k ρ _ w' ?_)
    cases dst with
    | none => exact ⟨st.defers, st.size, st.env, hs⟩
    | some d =>
      have hd : d < C.n := by simpa using hd
      refine ⟨by simpa [Act.put] using st.defers, by simpa [Act.put] using st.size, fun t => ?_, hs⟩
      show (upd Γ d R t).p _ (slot _ t)
      rw [slot_put (by rw [st.size]; exact hd)]
      unfold upd
      cases hbq : Nat.beq d t with
      | true => rw [if_pos (Nat.eq_of_beq_eq_true hbq)]; exact hR _
      | false => rw [if_neg (Nat.ne_of_beq_eq_false hbq)]; exact st.env t
end
end Go.Proofs.Ytnpkhhfpgedkoaa
