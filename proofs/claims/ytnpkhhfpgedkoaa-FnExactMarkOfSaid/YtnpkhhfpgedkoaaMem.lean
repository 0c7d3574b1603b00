/-
  Operations on memory: what is read; what the call has made for itself; calls.
-/
import Derived.Test.YtnpkhhfpgedkoaaOps
set_option linter.unusedVariables false
set_option linter.unusedSimpArgs false
namespace Go.Proofs.Ytnpkhhfpgedkoaa
open Go

/-- Size and make of a type. -/
structure TyIs (P : Program) (t : TypeId) (n : Nat) (g : Bool) : Prop where
  size : ∀ w, (sizeOf t).run P w = .ok n w
  agg : ∀ w, (isAgg t).run P w = .ok g w
/-- Where a field lies. -/
def FldIs (P : Program) (s : TypeId) (j off : Nat) : Prop := ∀ p w, (Instr.fieldAt s (.pointer (some p)) j).run P w = .ok (.pointer (some (p.add off))) w
/-- A field of a value. -/
def FldOf (P : Program) (s : TypeId) (j : Nat) (t off : Nat) : Prop := ∀ cs w, (Instr.field s (.agg cs) j).run P w = (part t cs off).run P w
/-- A function with a body. -/
def FnIs (P : Program) (f : FuncId) : Prop := ∀ args w, (callFunc f args).run P w = .ok (.enter f args) w

/-- A part of some data, and what becomes of the whole where the part is written. -/
structure At {α β : Type} (A : Ty α) (x : α) (off : Nat) (B : Ty β) (y : β) (put : β → α) : Prop where
  fits : ∀ ρ cs, A.rep ρ cs x → off + B.n ≤ A.n
  get : ∀ ρ cs, A.rep ρ cs x → B.rep ρ ((cs.drop off).take B.n) y
  set : ∀ ρ cs ds z, A.rep ρ cs x → B.rep ρ ds z → A.rep ρ (cs.take off ++ ds ++ cs.drop (off + B.n)) (put z)
theorem At.refl {α : Type} (A : Ty α) (x : α) : At A x 0 A x id where
  fits := fun _ _ _ => by omega
  get := fun ρ cs h => by have := A.len h; simp [← this]; exact h
  set := fun ρ cs ds z h k => by have := A.len h; have h2 := A.len k; simp [← this]; exact k
theorem At.fst {α β γ : Type} {X : Ty γ} {x : γ} {off : Nat} {A : Ty α} {B : Ty β} {p : α × β} {put : α × β → γ} (h : At X x off (TPair A B) p put) : At X x off A p.1 (fun a => put (a, p.2)) where
  fits := fun ρ cs r => by have := h.fits ρ cs r; simp [TPair] at this; omega
  get := fun ρ cs r => by
    have := (h.get ρ cs r).1
    simpa [TPair, List.take_take, Nat.min_eq_left (Nat.le_add_right A.n B.n)] using this
  set := fun ρ cs ds z r k => by
    have hg := h.get ρ cs r
    have hl := X.len r
    have hf := h.fits ρ cs r
    have hk := A.len k
    have h2 := hg.2
    have hset := h.set ρ cs (ds ++ (((cs.drop off).take (TPair A B).n).drop A.n)) (z, p.2) r ⟨by rw [List.take_append_of_le_length (by omega), List.take_of_length_le (by omega)]; exact k, by rw [List.drop_append_of_le_length (by omega), List.drop_of_length_le (by omega), List.nil_append]; exact h2⟩
    have e : ((cs.drop off).take (TPair A B).n).drop A.n ++ cs.drop (off + (TPair A B).n) = cs.drop (off + A.n) := by
      have : cs.drop (off + (TPair A B).n) = (cs.drop off).drop (TPair A B).n := by rw [List.drop_drop]
      rw [this, ← List.drop_append_of_le_length (by simp [TPair] at *; omega), List.take_append_drop, List.drop_drop]
    rw [List.append_assoc, List.append_assoc, e, ← List.append_assoc] at hset
    exact hset
theorem At.snd {α β γ : Type} {X : Ty γ} {x : γ} {off : Nat} {A : Ty α} {B : Ty β} {p : α × β} {put : α × β → γ} (h : At X x off (TPair A B) p put) : At X x (off + A.n) B p.2 (fun b => put (p.1, b)) where
  fits := fun ρ cs r => by have := h.fits ρ cs r; simp [TPair] at this; omega
  get := fun ρ cs r => by
    have := (h.get ρ cs r).2
    simp only [TPair] at this
    rw [List.drop_take, List.drop_drop] at this
    rwa [show A.n + B.n - A.n = B.n by omega] at this
  set := fun ρ cs ds z r k => by
    have hg := h.get ρ cs r
    have hl := X.len r
    have hf := h.fits ρ cs r
    have hk := B.len k
    have h1 := hg.1
    have hA := A.len h1
    have hset := h.set ρ cs ((((cs.drop off).take (TPair A B).n).take A.n) ++ ds) (p.1, z) r ⟨by rw [List.take_append_of_le_length (by omega), List.take_of_length_le (by omega)]; exact h1, by rw [List.drop_append_of_le_length (by omega), List.drop_of_length_le (by omega), List.nil_append]; exact k⟩
    have e1 : cs.take off ++ ((cs.drop off).take (TPair A B).n).take A.n = cs.take (off + A.n) := by
      rw [List.take_take, Nat.min_eq_left (by simp [TPair])]
      rw [List.take_add]
    have e2 : off + (TPair A B).n = off + A.n + B.n := by simp [TPair]; omega
    rw [← List.append_assoc, e1, e2] at hset
    exact hset
theorem chunk_len {n i m : Nat} {cs : List Value} (h : cs.length = m * n) (hi : i < m) : (chunk n i cs).length = n := by
  unfold chunk
  have : (i + 1) * n ≤ m * n := Nat.mul_le_mul_right _ hi
  simp [h, Nat.succ_mul] at *
  omega
theorem At.elem {α γ : Type} {X : Ty γ} {x : γ} {off : Nat} {m : Nat} {A : Ty α} {xs : List α} {put : List α → γ} (h : At X x off (TArr m A) xs put) {i : Nat} {e : α} (hi : xs[i]? = some e) :
    At X x (off + i * A.n) A e (fun z => put (xs.set i z)) where
  fits := fun ρ cs r => by
    have := h.fits ρ cs r
    have hm : i < m := by rw [← (h.get ρ cs r).2.1]; exact (List.getElem?_eq_some_iff.1 hi).1
    have h2 : (i + 1) * A.n ≤ m * A.n := Nat.mul_le_mul_right _ hm
    simp only [TArr, Nat.succ_mul] at *
    omega
  get := fun ρ cs r => by
    have hm : i < m := by rw [← (h.get ρ cs r).2.1]; exact (List.getElem?_eq_some_iff.1 hi).1
    have h2 : (i + 1) * A.n ≤ m * A.n := Nat.mul_le_mul_right _ hm
    have := (h.get ρ cs r).2.2 i e hi
    unfold chunk at this
    simp only [TArr] at this
    rw [List.drop_take, List.drop_drop, List.take_take, Nat.min_eq_left (by simp only [Nat.succ_mul] at h2; omega)] at this
    exact this
  set := fun ρ cs ds z r k => by
    have hm : i < m := by rw [← (h.get ρ cs r).2.1]; exact (List.getElem?_eq_some_iff.1 hi).1
    have h2 : (i + 1) * A.n ≤ m * A.n := Nat.mul_le_mul_right _ hm
    simp only [Nat.succ_mul] at h2
    have hg := h.get ρ cs r
    have hl := X.len r
    have hf := h.fits ρ cs r
    have hk := A.len k
    have hs : ((cs.drop off).take (TArr m A).n).length = m * A.n := hg.1
    have hN : (TArr m A).n = m * A.n := rfl
    generalize hS : (cs.drop off).take (TArr m A).n = S at hg hs
    have htl : (S.take (i * A.n)).length = i * A.n := by rw [List.length_take, hs]; omega
    have hdl : (S.drop (i * A.n + A.n)).length = m * A.n - (i * A.n + A.n) := by rw [List.length_drop, hs]
    have hset := h.set ρ cs (S.take (i * A.n) ++ ds ++ S.drop (i * A.n + A.n)) (xs.set i z) r (by
      refine ⟨by rw [List.length_append, List.length_append, htl, hdl, hk]; omega, by simpa using hg.2.1, fun j y hj => ?_⟩
      unfold chunk
      by_cases hij : j = i
      · subst hij
        rw [List.getElem?_set_self (by rw [hg.2.1]; exact hm)] at hj
        cases hj
        rw [List.append_assoc, List.drop_append_of_le_length (by omega), List.drop_of_length_le (by omega), List.nil_append, List.take_append_of_le_length (by omega), List.take_of_length_le (by omega)]
        exact k
      · rw [List.getElem?_set_ne (Ne.symm hij)] at hj
        have hjm : j < m := by rw [← hg.2.1]; exact (List.getElem?_eq_some_iff.1 hj).1
        have hr := hg.2.2 j y hj
        unfold chunk at hr
        have same : ∀ q, q < A.n → (S.take (i * A.n) ++ ds ++ S.drop (i * A.n + A.n))[j * A.n + q]? = S[j * A.n + q]? := by
          intro q hq
          rcases Nat.lt_or_gt_of_ne hij with hlt | hgt
          · have h3 : (j + 1) * A.n ≤ i * A.n := Nat.mul_le_mul_right _ hlt
            simp only [Nat.succ_mul] at h3
            rw [List.append_assoc, List.getElem?_append_left (by omega), List.getElem?_take, if_pos (by omega)]
          · have h3 : (i + 1) * A.n ≤ j * A.n := Nat.mul_le_mul_right _ hgt
            simp only [Nat.succ_mul] at h3
            rw [List.getElem?_append_right (by rw [List.length_append]; omega), List.getElem?_drop, List.length_append, htl, hk]
            congr 1
            omega
        have : ((S.take (i * A.n) ++ ds ++ S.drop (i * A.n + A.n)).drop (j * A.n)).take A.n = (S.drop (j * A.n)).take A.n := by
          apply List.ext_getElem?
          intro q
          rw [List.getElem?_take, List.getElem?_take]
          by_cases hq : q < A.n
          · rw [if_pos hq, if_pos hq, List.getElem?_drop, List.getElem?_drop]; exact same q hq
          · rw [if_neg hq, if_neg hq]
        rw [this]; exact hr)
    have e1 : cs.take off ++ S.take (i * A.n) = cs.take (off + i * A.n) := by
      rw [← hS, List.take_take, Nat.min_eq_left (by omega), List.take_add]
    have e2 : S.drop (i * A.n + A.n) ++ cs.drop (off + (TArr m A).n) = cs.drop (off + i * A.n + A.n) := by
      have : cs.drop (off + (TArr m A).n) = (cs.drop off).drop (TArr m A).n := by rw [List.drop_drop]
      rw [this, ← hS, ← List.drop_append_of_le_length (by rw [hS, hs]; omega), List.take_append_drop, List.drop_drop, Nat.add_assoc]
    have e3 : cs.take off ++ (S.take (i * A.n) ++ ds ++ S.drop (i * A.n + A.n)) ++ cs.drop (off + (TArr m A).n) = cs.take (off + i * A.n) ++ ds ++ cs.drop (off + i * A.n + A.n) := by
      rw [← e1, ← e2]; simp
    rw [e3] at hset
    exact hset

theorem At.nth {α γ : Type} [Inhabited α] {X : Ty γ} {x : γ} {off : Nat} {m : Nat} {A : Ty α} {xs : List α} {put : List α → γ} (h : At X x off (TArr m A) xs put) (i : Nat) (hi : decide (i < m) = true) :
    At X x (off + i * A.n) A (nth xs i) (fun z => put (xs.set i z)) where
  fits := fun ρ cs r => (At.elem h (nth_get (i := i) (by rw [(h.get ρ cs r).2.1]; simpa using hi))).fits ρ cs r
  get := fun ρ cs r => (At.elem h (nth_get (i := i) (by rw [(h.get ρ cs r).2.1]; simpa using hi))).get ρ cs r
  set := fun ρ cs ds z r k => (At.elem h (nth_get (i := i) (by rw [(h.get ρ cs r).2.1]; simpa using hi))).set ρ cs ds z r k

theorem add_at (b o n : Nat) : (⟨b, o, none⟩ : Addr).add n = ⟨b, o + n, none⟩ := by
  unfold Addr.add
  split
  · subst_vars; rfl
  · rfl
def ptr (b o : Nat) : Value := .pointer (some ⟨b, o, none⟩)
/-- The place 'n' cells behind where a pointer or a slice begins. -/
def at_ (v : Value) (n : Nat) : Value := match v with
  | .slice (some a) _ _ => .pointer (some (a.add n))
  | .pointer (some a) => .pointer (some (a.add n))
  | _ => undef
theorem at_at (v : Value) (m n : Nat) (h : ∃ a, v = .pointer (some a) ∨ ∃ l c, v = .slice (some a) l c) : at_ (at_ v m) n = at_ v (m + n) := by
  obtain ⟨a, rfl | ⟨l, c, rfl⟩⟩ := h <;> simp [at_, Addr.add_add]
def blkOf : Value → Option Nat
  | .slice (some a) _ _ => some a.block
  | .pointer (some a) => some a.block
  | _ => none
/-- A variable of the call's own. -/
def boxR {α : Type} (E : TypeId) (A : Ty α) (x : α) (v : Value) : Res where
  blk := blkOf v
  ok := fun ρ o => ∃ b cs, v = ptr b 0 ∧ o = some (.cells cs.toArray E (0, 0)) ∧ A.rep ρ cs x
  mono := by rintro ρ σ o h ⟨b, cs, e1, e, r⟩; exact ⟨b, cs, e1, e, A.mono h r⟩
/-- A slice of the call's own: from the head of its block on; what lies behind it is the call's too. -/
def slR {α : Type} (E : TypeId) (A : Ty α) (xs : List α) (v : Value) : Res where
  blk := blkOf v
  ok := fun ρ o => ∃ cs, cs.length = xs.length * A.n ∧ (∀ i x, xs[i]? = some x → A.rep ρ (chunk A.n i cs) x) ∧
    ((v = .slice none 0 0 ∧ xs = []) ∨ ∃ b cap cur, v = .slice (some ⟨b, 0, none⟩) xs.length cap ∧ o = some (.cells cur E (0, 0)) ∧ xs.length ≤ cap ∧ cap ≤ maxLen ∧ cur.size = cap * A.n ∧ cur.toList.take (xs.length * A.n) = cs)
  mono := by
    rintro ρ σ o h ⟨cs, h0, h1, h2⟩
    exact ⟨cs, h0, fun i x hi => A.mono h (h1 i x hi), h2⟩
/-- A pointer's slot: the pointer itself, or so many cells further on. -/
def PtrTo (v : Value) (o : Nat) (u : Value) : Prop := (u = v ∧ o = 0) ∨ u = at_ v o
theorem box_own {α : Type} {A : Ty α} {E : TypeId} {x : α} {v : Value} {ρ : Heap} {w : World} (hk : (boxR E A x v).holds ρ w) : ∃ b cs, v = ptr b 0 ∧ w.heap[b]? = some (.cells cs.toArray E (0, 0)) ∧ A.rep ρ cs x ∧ ρ b = none := by
  unfold Res.holds at hk
  cases hb : (boxR E A x v).blk with
  | none =>
    rw [hb] at hk
    obtain ⟨b, cs, rfl, _⟩ := hk
    simp [boxR, blkOf, ptr] at hb
  | some b' =>
    rw [hb] at hk
    obtain ⟨ob, ho, ⟨b, cs, rfl, he, hr⟩, hn⟩ := hk
    have : b = b' := by simpa [boxR, blkOf, ptr] using hb
    subst this
    cases he
    exact ⟨b, cs, rfl, ho, hr, hn⟩
theorem ptr_to {b o : Nat} {u : Value} (h : PtrTo (ptr b 0) o u) : u = ptr b o := by
  rcases h with ⟨rfl, rfl⟩ | rfl
  · rfl
  · simp [at_, ptr, add_at]
theorem sl_own {α : Type} {A : Ty α} {E : TypeId} {xs : List α} {v : Value} {ρ : Heap} {w : World} (hk : (slR E A xs v).holds ρ w) :
    ∃ cs, cs.length = xs.length * A.n ∧ (∀ i x, xs[i]? = some x → A.rep ρ (chunk A.n i cs) x) ∧ ((v = .slice none 0 0 ∧ xs = []) ∨
      ∃ b cap cur, v = .slice (some ⟨b, 0, none⟩) xs.length cap ∧ w.heap[b]? = some (.cells cur E (0, 0)) ∧ xs.length ≤ cap ∧ cap ≤ maxLen ∧ cur.size = cap * A.n ∧ cur.toList.take (xs.length * A.n) = cs ∧ ρ b = none) := by
  unfold Res.holds at hk
  cases hb : (slR E A xs v).blk with
  | none =>
    rw [hb] at hk
    obtain ⟨cs, h0, h1, h | ⟨b, cap, cur, h2, _⟩⟩ := hk
    · exact ⟨cs, h0, h1, .inl h⟩
    · subst h2; simp [slR, blkOf] at hb
  | some b' =>
    rw [hb] at hk
    obtain ⟨ob, ho, ⟨cs, h0, h1, ⟨h, _⟩ | ⟨b, cap, cur, h2, h3, h4⟩⟩, hn⟩ := hk
    · subst h; simp [slR, blkOf] at hb
    · subst h2
      have : b = b' := by simpa [slR, blkOf] using hb
      subst this
      cases h3
      exact ⟨cs, h0, h1, .inr ⟨b, cap, cur, rfl, ho, h4.1, h4.2.1, h4.2.2.1, h4.2.2.2, hn⟩⟩

section
variable {P : Program} {ops : Array Oper} {ρ : Heap} {ds : List Nat} {w : World} {a : Act} {R : SRel} {op : Op} {ty : TypeId} {C : Ctx} {H : Nat → Res}

/-! #### Reading -/
theorem run_load_seg {α : Type} {A : Ty α} {t : TypeId} (ht : TyIs P t A.n A.agg) {p : Addr} {cs : List Value} {x : α} (hs : ∀ j v, cs[j]? = some v → w.cell? (p.add j) = some v) (hr : A.rep ρ cs x) :
    (Instr.loadAt t (.pointer (some p))).run P w = .ok (pack A.agg cs) w := by
  have hl := A.len hr
  cases hg : A.agg with
  | true =>
    have hg' := ht.agg; rw [hg] at hg'
    have h1 := run_loadCells_list (P := P) w p cs hs
    rw [hl] at h1
    simp [Instr.loadAt, Instr.sureAddr, loadVar, hg', ht.size, h1, Result.andThen, pack]
  | false =>
    have hg' := ht.agg; rw [hg] at hg'
    have hn := A.one hg
    rw [hn] at hl
    match cs, hl with
    | [c], _ =>
      have h0 := hs 0 c rfl
      have h0 : w.cell? p = some c := by simpa [Addr.add] using h0
      simp [Instr.loadAt, Instr.sureAddr, loadVar, hg', Result.andThen, pack, h0]
theorem d_load {α : Type} {A : Ty α} {t : TypeId} {X : Operand} {x : α} (ht : TyIs P t A.n A.agg) (hle : ρ.le (snap w)) (h : (TP A).val ρ (a.eval X) x) : Does P ρ w (.load t X) ty a (A.sv x) := by
  obtain ⟨p, cs, h1, h2, h3⟩ := Ty.val_one rfl h
  have h1 : a.eval X = .pointer (some p) := by simpa using h1
  refine does_same (v := pack A.agg cs) (fun _ _ _ _ => ?_) ⟨cs, h3, rfl⟩
  have := run_load_seg (P := P) (w := w) ht (fun j v hj => cellAt_mono hle (h2 j v hj)) h3
  simp [execOp, h1, this, Result.andThen]
/-- Out of a variable of the call's own. -/
theorem d_loadO {α β : Type} {A : Ty α} {B : Ty β} {t E : TypeId} {X : Operand} {x : α} {y : β} {put : β → α} {v : Value} {o : Nat} (ht : TyIs P t B.n B.agg) (hs : Sat C H ρ w) (id : Nat) (hH : H id = boxR E A x v)
    (h : PtrTo v o (a.eval X)) (hat : At A x o B y put) : Does P ρ w (.load t X) ty a (B.sv y) := by
  have hk := hs.ok id
  rw [hH] at hk
  obtain ⟨b, cs, rfl, ho, hr, _⟩ := box_own hk
  have hg := hat.get _ _ hr
  have hl := A.len hr
  refine does_same (v := pack B.agg ((cs.drop o).take B.n)) (fun _ _ _ _ => ?_) ⟨_, hg, rfl⟩
  have := run_load_seg (P := P) (w := w) (p := ⟨b, o, none⟩) ht (fun j v hj => by
    rw [add_at]
    rw [List.getElem?_take] at hj
    split at hj
    · rw [List.getElem?_drop] at hj
      simp [World.cell?, ho, hj]
    · cases hj) hg
  simp only [execOp, ptr_to h, ptr, Sem.run_bind, this, Result.andThen]
  rfl
theorem take_cell {cur : Array Value} {cs : List Value} {n : Nat} (h : cur.toList.take n = cs) {j : Nat} {u : Value} (hj : cs[j]? = some u) : cur[j]? = some u := by
  rw [← h, List.getElem?_take] at hj
  split at hj
  · simpa using hj
  · cases hj
/-- Out of a slice of the call's own. -/
theorem d_loadS {α β : Type} {A : Ty α} {B : Ty β} {t E : TypeId} {X : Operand} {xs : List α} {v : Value} {i o : Nat} {e : α} {y : β} {put : β → α} (ht : TyIs P t B.n B.agg) (hs : Sat C H ρ w) (id : Nat) (hH : H id = slR E A xs v)
    (hi : xs[i]? = some e) (h : a.eval X = at_ v (i * A.n + o)) (hat : At A e o B y put) : Does P ρ w (.load t X) ty a (B.sv y) := by
  have hk := hs.ok id
  rw [hH] at hk
  obtain ⟨cs, h0, h1, ⟨_, hx⟩ | ⟨b, cap, cur, rfl, ho, _, _, _, htk, _⟩⟩ := sl_own hk
  · subst hx; simp at hi
  · have hr := h1 i e hi
    have hg := hat.get _ _ hr
    refine does_same (v := pack B.agg (((chunk A.n i cs).drop o).take B.n)) (fun _ _ _ _ => ?_) ⟨_, hg, rfl⟩
    have := run_load_seg (P := P) (w := w) (p := ⟨b, 0 + (i * A.n + o), none⟩) ht (fun j u hj => by
      rw [add_at]
      rw [List.getElem?_take] at hj
      split at hj
      · rw [List.getElem?_drop] at hj
        unfold chunk at hj
        rw [List.getElem?_take] at hj
        split at hj
        · rw [List.getElem?_drop] at hj
          simp only [World.cell?, ho]
          rw [show 0 + (i * A.n + o) + j = i * A.n + (o + j) by omega]
          exact take_cell htk hj
        · cases hj
      · cases hj) hg
    simp only [execOp, h, at_, add_at, Sem.run_bind, this, Result.andThen]
    rfl

theorem run_fieldAddr {s : TypeId} {j off : Nat} {X : Operand} {p : Addr} (hf : FldIs P s j off) (h : a.eval X = .pointer (some p)) : ∀ dst pos after guard, (execOp a.eval ⟨dst, .fieldAddr s X j, ty, pos, after, guard⟩).run P w = .ok (.value (.pointer (some (p.add off)))) w := by
  intro _ _ _ _
  simp only [execOp, h, Sem.run_bind, hf p w, Result.andThen]
  rfl
theorem d_fieldP {α β : Type} {A : Ty α} {B : Ty β} {s : TypeId} {j o : Nat} {X : Operand} {x : α} {y : β} {put : β → α} (hf : FldIs P s j o) (h : (TP A).val ρ (a.eval X) x) (hat : At A x o B y put) :
    Does P ρ w (.fieldAddr s X j) ty a ((TP B).sv y) := by
  obtain ⟨p, cs, h1, h2, h3⟩ := Ty.val_one rfl h
  have h1 : a.eval X = .pointer (some p) := by simpa using h1
  exact does_same (run_fieldAddr hf h1) (Ty.val_of_one rfl ⟨_, _, rfl, (h2.drop o).take B.n, hat.get _ _ h3⟩)
theorem d_fieldO {α : Type} {A : Ty α} {x : α} {s E : TypeId} {j o off : Nat} {X : Operand} {v : Value} (hf : FldIs P s j off) (hs : Sat C H ρ w) (id : Nat) (hH : H id = boxR E A x v) (h : PtrTo v o (a.eval X)) :
    Does P ρ w (.fieldAddr s X j) ty a (SRel.eq (at_ v (o + off))) := by
  have hk := hs.ok id
  rw [hH] at hk
  obtain ⟨b, cs, rfl, _⟩ := box_own hk
  refine does_same (run_fieldAddr hf (ptr_to h)) ?_
  show Value.pointer _ = _
  simp [at_, ptr, add_at]
theorem d_fieldS {α : Type} {A : Ty α} {xs : List α} {s E : TypeId} {j o off : Nat} {X : Operand} {v : Value} (hf : FldIs P s j off) (hs : Sat C H ρ w) (id : Nat) (hH : H id = slR E A xs v) {n : Nat} {x : α} (hn : xs[n]? = some x) (h : a.eval X = at_ v (n * A.n + o)) :
    Does P ρ w (.fieldAddr s X j) ty a (SRel.eq (at_ v (n * A.n + (o + off)))) := by
  have hk := hs.ok id
  rw [hH] at hk
  obtain ⟨cs, _, _, ⟨_, hx⟩ | ⟨b, cap, cur, rfl, _⟩⟩ := sl_own hk
  · subst hx; simp at hn
  · refine does_same (run_fieldAddr hf h) ?_
    show Value.pointer _ = _
    rw [Addr.add_add, Nat.add_assoc]; rfl
theorem run_index_arr {t e : TypeId} {m n : Nat} {g : Bool} {X I : Operand} {p : Addr} {k : IntKind} {i : Int} (hu : P.underlying t = some (.array m e)) (he : TyIs P e n g) (h : a.eval X = .pointer (some p)) (hi : a.eval I = .int k i) (h0 : 0 ≤ i) (h1 : i < m) :
    ∀ dst pos after guard, (execOp a.eval ⟨dst, .indexAddr t X I, ty, pos, after, guard⟩).run P w = .ok (.value (.pointer (some (p.add (i.toNat * n))))) w := by
  intro _ _ _ _
  simp only [execOp, h, hi, Instr.indexAt, asIntOf, Sem.run_bind, run_underlying hu, Result.andThen, Instr.sureAddr]
  simp [h0, h1, he.size, run_underlying hu, Result.andThen]
theorem d_idxP {α : Type} {A : Ty α} {t e : TypeId} {m : Nat} {X I : Operand} {xs : List α} {k : IntKind} {i : Int} {x : α} (hu : P.underlying t = some (.array m e)) (he : TyIs P e A.n A.agg)
    (h : (TP (TArr m A)).val ρ (a.eval X) xs) (hi : (TI k).val ρ (a.eval I) i) (hx : idx xs i = some x) : Does P ρ w (.indexAddr t X I) ty a ((TP A).sv x) := by
  obtain ⟨h0, hx⟩ := idx_get hx
  obtain ⟨p, cs, h1, h2, h3⟩ := Ty.val_one rfl h
  have h1 : a.eval X = .pointer (some p) := by simpa using h1
  have hlt : i.toNat < m := by rw [← h3.2.1]; exact (List.getElem?_eq_some_iff.1 hx).1
  exact does_same (run_index_arr hu he h1 (val_int hi).1 h0 (by omega)) (Ty.val_of_one rfl ⟨_, _, rfl, (h2.drop _).take A.n, h3.2.2 _ _ hx⟩)
theorem d_idxO {α β : Type} {A : Ty α} {B : Ty β} {x : β} {xs : List α} {y : α} {put : List α → β} {t e E : TypeId} {m : Nat} {X I : Operand} {k : IntKind} {i : Int} {v : Value} {o : Nat} (hu : P.underlying t = some (.array m e)) (he : TyIs P e A.n A.agg)
    (hs : Sat C H ρ w) (id : Nat) (hH : H id = boxR E B x v) (h : PtrTo v o (a.eval X)) (hat : At B x o (TArr m A) xs put) (hi : (TI k).val ρ (a.eval I) i) (hx : idx xs i = some y) : Does P ρ w (.indexAddr t X I) ty a (SRel.eq (at_ v (o + i.toNat * A.n))) := by
  have hk := hs.ok id
  rw [hH] at hk
  obtain ⟨b, cs, rfl, _, hr, _⟩ := box_own hk
  obtain ⟨h0, h1⟩ := idx_lt hx
  have h1 : i < m := by have := (hat.get _ _ hr).2.1; omega
  refine does_same (run_index_arr hu he (ptr_to h) (val_int hi).1 h0 h1) ?_
  show Value.pointer _ = _
  simp [at_, ptr, add_at]
/-- An element of an array in a slice of the call's own. -/
theorem d_idxSA {α β : Type} {A : Ty α} {B : Ty β} {xs : List β} {j : Nat} {x : β} {ys : List α} {y : α} {put : List α → β} {t e E : TypeId} {m : Nat} {X I : Operand} {k : IntKind} {i : Int} {v : Value} {o : Nat} (hu : P.underlying t = some (.array m e)) (he : TyIs P e A.n A.agg)
    (hs : Sat C H ρ w) (id : Nat) (hH : H id = slR E B xs v) (hj : xs[j]? = some x) (h : a.eval X = at_ v (j * B.n + o)) (hat : At B x o (TArr m A) ys put) (hi : (TI k).val ρ (a.eval I) i) (hx : idx ys i = some y) :
    Does P ρ w (.indexAddr t X I) ty a (SRel.eq (at_ v (j * B.n + (o + i.toNat * A.n)))) := by
  have hk := hs.ok id
  rw [hH] at hk
  obtain ⟨cs, _, hr, ⟨_, hx⟩ | ⟨b, cap, cur, rfl, _⟩⟩ := sl_own hk
  · subst hx; simp at hj
  · obtain ⟨h0, h1⟩ := idx_lt hx
    have h1 : i < m := by have := (hat.get _ _ (hr j x hj)).2.1; omega
    refine does_same (run_index_arr hu he h (val_int hi).1 h0 h1) ?_
    show Value.pointer _ = _
    rw [Addr.add_add, Nat.add_assoc]; rfl
theorem d_idxPc {α : Type} [Inhabited α] {A : Ty α} {t e : TypeId} {m : Nat} {X : Operand} {xs : List α} (k : IntKind) (i : Nat) (hu : P.underlying t = some (.array m e)) (he : TyIs P e A.n A.agg)
    (h : (TP (TArr m A)).val ρ (a.eval X) xs) (hi : (decide (i < m) && decide ((i : Int) ≤ k.max)) = true) : Does P ρ w (.indexAddr t X (.const (.int k i))) ty a ((TP A).sv (nth xs i)) := by
  simp only [Bool.and_eq_true, decide_eq_true_eq] at hi
  have hl : xs.length = m := by obtain ⟨p, cs, _, _, h3⟩ := Ty.val_one rfl h; exact h3.2.1
  have hmin : k.min ≤ 0 := by cases k <;> decide
  refine d_idxP hu he h (k := k) (i := i) (mk_int (by omega) hi.2) ?_
  unfold idx
  rw [if_pos (by omega), Int.toNat_natCast]
  exact nth_get (by omega)
theorem d_idxOc {α β : Type} [Inhabited α] {A : Ty α} {B : Ty β} {x : β} {xs : List α} {put : List α → β} {t e E : TypeId} {m : Nat} {X : Operand} {v : Value} {o : Nat} (k : IntKind) (i : Nat) (hu : P.underlying t = some (.array m e)) (he : TyIs P e A.n A.agg)
    (hs : Sat C H ρ w) (id : Nat) (hH : H id = boxR E B x v) (h : PtrTo v o (a.eval X)) (hat : At B x o (TArr m A) xs put) (hi : (decide (i < m) && decide ((i : Int) ≤ k.max)) = true) : Does P ρ w (.indexAddr t X (.const (.int k i))) ty a (SRel.eq (at_ v (o + i * A.n))) := by
  simp only [Bool.and_eq_true, decide_eq_true_eq] at hi
  have hk := hs.ok id
  rw [hH] at hk
  obtain ⟨b, cs, rfl, _, hr, _⟩ := box_own hk
  have hl : xs.length = m := (hat.get _ _ hr).2.1
  have hmin : k.min ≤ 0 := by cases k <;> decide
  refine d_idxO (y := nth xs i) (i := i) (k := k) hu he hs id hH h hat (mk_int (by omega) hi.2) ?_
  unfold idx
  rw [if_pos (by omega), Int.toNat_natCast]
  exact nth_get (by omega)
theorem run_index_sl {t e : TypeId} {n : Nat} {g : Bool} {X I : Operand} {p : Addr} {l c : Nat} {k : IntKind} {i : Int} (hu : P.underlying t = some (.slice e)) (he : TyIs P e n g) (h : a.eval X = .slice (some p) l c) (hi : a.eval I = .int k i) (h0 : 0 ≤ i) (h1 : i < l) :
    ∀ dst pos after guard, (execOp a.eval ⟨dst, .indexAddr t X I, ty, pos, after, guard⟩).run P w = .ok (.value (.pointer (some (p.add (i.toNat * n))))) w := by
  intro _ _ _ _
  simp only [execOp, h, hi, Instr.indexAt, asIntOf, Sem.run_bind, run_underlying hu, Result.andThen, Instr.sureAddr]
  simp [h0, h1, he.size, run_underlying hu, Result.andThen]
theorem d_idxR {α : Type} {A : Ty α} {t e : TypeId} {X I : Operand} {xs : List α} {k : IntKind} {i : Int} {x : α} (hu : P.underlying t = some (.slice e)) (he : TyIs P e A.n A.agg)
    (h : (TSl A).val ρ (a.eval X) xs) (hi : (TI k).val ρ (a.eval I) i) (hx : idx xs i = some x) : Does P ρ w (.indexAddr t X I) ty a ((TP A).sv x) := by
  obtain ⟨h0, hx⟩ := idx_get hx
  obtain ⟨p, l, c, h1, h2, h3, h4, h5⟩ := Ty.val_one rfl h
  have h1 : a.eval X = .slice p l c := by simpa using h1
  have hlt : i.toNat < xs.length := (List.getElem?_eq_some_iff.1 hx).1
  cases p with
  | none => have := h4 rfl; omega
  | some p =>
    obtain ⟨ds, hs, hr⟩ := h5 p rfl _ _ hx
    exact does_same (run_index_sl hu he h1 (val_int hi).1 h0 (by omega)) (Ty.val_of_one rfl ⟨_, _, rfl, hs, hr⟩)
theorem d_idxS {α : Type} {A : Ty α} {t e E : TypeId} {X I : Operand} {xs : List α} {v : Value} {k : IntKind} {i : Int} (hu : P.underlying t = some (.slice e)) (he : TyIs P e A.n A.agg) (hs : Sat C H ρ w) (id : Nat) (hH : H id = slR E A xs v)
    {x : α} (h : a.eval X = v) (hi : (TI k).val ρ (a.eval I) i) (hx : idx xs i = some x) : Does P ρ w (.indexAddr t X I) ty a (SRel.eq (at_ v (i.toNat * A.n + 0))) := by
  obtain ⟨h0, h1⟩ := idx_lt hx
  have hk := hs.ok id
  rw [hH] at hk
  obtain ⟨cs, _, _, ⟨_, hx⟩ | ⟨b, cap, cur, rfl, _⟩⟩ := sl_own hk
  · subst hx; simp at h1; omega
  · exact does_same (run_index_sl hu he h (val_int hi).1 h0 h1) rfl
theorem run_builtin {b : Builtin} {args : Array Operand} {ts : Array TypeId} {v : Value} {w' : World} (h : ∀ cs, (builtin b ts ty cs (args.map a.eval)).run P w = .ok (.value v) w') :
    ∀ dst pos after guard, (execOp a.eval ⟨dst, .call { callee := .builtin b, args := args, argTypes := ts }, ty, pos, after, guard⟩).run P w = .ok (.value v) w' := by
  intro _ _ _ _
  simp only [execOp, resolve, Sem.run_bind]
  exact h _
theorem run_len_slice {t e : TypeId} {X : Operand} {p : Option Addr} {l c : Nat} (hu : P.underlying t = some (.slice e)) (h : a.eval X = .slice p l c) :
    ∀ cs, (builtin .len #[t] ty cs (#[X].map a.eval)).run P w = .ok (.value (.int .i64 l)) w := by
  intro cs
  have : (#[X].map a.eval) = #[.slice p l c] := by simp [h]
  rw [this]
  simp [builtin, Builtin.len_, Sem.run_bind, run_underlying hu, Result.andThen, goInt]
theorem len_rng {n : Nat} (h : n ≤ 9223372036854775807) : IntKind.i64.min ≤ (n : Int) ∧ (n : Int) ≤ IntKind.i64.max := by
  have h1 : IntKind.i64.min = -9223372036854775808 := by decide
  have h2 : IntKind.i64.max = 9223372036854775807 := by decide
  rw [h1, h2]; omega
theorem d_lenR {α : Type} {A : Ty α} {t e : TypeId} {X : Operand} {xs : List α} (hu : P.underlying t = some (.slice e)) (h : (TSl A).val ρ (a.eval X) xs) :
    Does P ρ w (.call { callee := .builtin .len, args := #[X], argTypes := #[t] }) ty a ((TI .i64).sv (xs.length : Int)) := by
  obtain ⟨p, l, c, h1, h2, h3, _⟩ := Ty.val_one rfl h
  have h1 : a.eval X = .slice p l c := by simpa using h1
  subst h2
  have hb : xs.length ≤ 9223372036854775807 := Nat.le_trans h3.1 h3.2
  exact does_same (run_builtin (run_len_slice hu h1)) (mk_int (len_rng hb).1 (len_rng hb).2)
theorem d_lenS {α : Type} {A : Ty α} {t e E : TypeId} {X : Operand} {xs : List α} {v : Value} (hu : P.underlying t = some (.slice e)) (hs : Sat C H ρ w) (id : Nat) (hH : H id = slR E A xs v) (h : a.eval X = v) :
    Does P ρ w (.call { callee := .builtin .len, args := #[X], argTypes := #[t] }) ty a ((TI .i64).sv (xs.length : Int)) := by
  have hk := hs.ok id
  rw [hH] at hk
  obtain ⟨cs, _, _, ⟨hv, hx⟩ | ⟨b, cap, cur, hv, _, h1, h2, _⟩⟩ := sl_own hk
  · subst hx; exact does_same (run_builtin (run_len_slice hu (h.trans hv))) (mk_int (len_rng (by simp)).1 (len_rng (by simp)).2)
  · have hb : xs.length ≤ 9223372036854775807 := by unfold maxLen at h2; omega
    exact does_same (run_builtin (run_len_slice hu (h.trans hv))) (mk_int (len_rng hb).1 (len_rng hb).2)
theorem d_lenStr {t : TypeId} {X : Operand} {s : ByteArray} (hu : P.underlying t = some .string) (h : TS.val ρ (a.eval X) s) :
    Does P ρ w (.call { callee := .builtin .len, args := #[X], argTypes := #[t] }) ty a ((TI .i64).sv (s.size : Int)) := by
  refine does_same (v := .int .i64 s.size) (run_builtin fun cs => ?_) (mk_int (len_rng (str_rng h)).1 (len_rng (str_rng h)).2)
  have : (#[X].map a.eval) = #[.string s] := by simp [val_str h]
  rw [this]
  simp [builtin, Builtin.len_, Sem.run_bind, run_underlying hu, Result.andThen, goInt]

/-! #### Parts of values -/
theorem run_part {α : Type} {A : Ty α} {t o : Nat} (ht : TyIs P t A.n A.agg) {cs : List Value} {x : α} (h : A.rep ρ ((cs.drop o).take A.n) x) : (part t cs.toArray o).run P w = .ok (pack A.agg ((cs.drop o).take A.n)) w := by
  have hl := A.len h
  cases hg : A.agg with
  | true =>
    have hg' := ht.agg; rw [hg] at hg'
    simp [part, Sem.run_bind, hg', ht.size, Result.andThen, pack]
  | false =>
    have hg' := ht.agg; rw [hg] at hg'
    have hn := A.one hg
    rw [hn] at hl ⊢
    have ho : o < cs.length := by simp at hl; omega
    have : (cs.drop o).take 1 = [cs[o]] := by rw [List.drop_eq_getElem_cons ho]; rfl
    rw [this]
    simp [part, Sem.run_bind, hg', Result.andThen, pack, ho]
theorem d_field {α β : Type} {A : Ty α} {B : Ty β} {s t : TypeId} {j o : Nat} {X : Operand} {x : α} {y : β} {put : β → α} (hf : FldOf P s j t o) (ht : TyIs P t B.n B.agg) (hg : A.agg = true) (h : A.val ρ (a.eval X) x) (hat : At A x o B y put) :
    Does P ρ w (.field s X j) ty a (B.sv y) := by
  obtain ⟨cs, hr, hv⟩ := Ty.val_agg hg h
  have hb := hat.get _ _ hr
  refine does_same (v := pack B.agg ((cs.drop o).take B.n)) (fun _ _ _ _ => ?_) ⟨_, hb, rfl⟩
  have h1 := hf cs.toArray w
  rw [run_part ht hb] at h1
  simp only [execOp, hv, Sem.run_bind, h1, Result.andThen]
  rfl
theorem d_index {α : Type} {A : Ty α} {t e : TypeId} {m : Nat} {X I : Operand} {xs : List α} {k : IntKind} {i : Int} {x : α} (hu : P.underlying t = some (.array m e)) (he : TyIs P e A.n A.agg)
    (h : (TArr m A).val ρ (a.eval X) xs) (hi : (TI k).val ρ (a.eval I) i) (hx : idx xs i = some x) : Does P ρ w (.index t X I) ty a (A.sv x) := by
  obtain ⟨h0, hx⟩ := idx_get hx
  obtain ⟨cs, hr, hv⟩ := Ty.val_agg rfl h
  have hlt : i.toNat < m := by rw [← hr.2.1]; exact (List.getElem?_eq_some_iff.1 hx).1
  have hb := hr.2.2 _ _ hx
  unfold chunk at hb
  refine does_same (v := pack A.agg ((cs.drop (i.toNat * A.n)).take A.n)) (fun _ _ _ _ => ?_) ⟨_, hb, rfl⟩
  have hi' := (val_int hi).1
  simp only [execOp, hv, hi', Instr.index, asIntOf, Sem.run_bind, run_underlying hu, Result.andThen]
  simp [h0, show i < (m : Int) by omega, Sem.run_bind, he.size, Result.andThen, run_part he hb]
theorem d_indexC {α : Type} [Inhabited α] {A : Ty α} {t e : TypeId} {m : Nat} {X : Operand} {xs : List α} (k : IntKind) (i : Nat) (hu : P.underlying t = some (.array m e)) (he : TyIs P e A.n A.agg)
    (h : (TArr m A).val ρ (a.eval X) xs) (hi : (decide (i < m) && decide ((i : Int) ≤ k.max)) = true) : Does P ρ w (.index t X (.const (.int k i))) ty a (A.sv (nth xs i)) := by
  simp only [Bool.and_eq_true, decide_eq_true_eq] at hi
  have hl : xs.length = m := by obtain ⟨cs, hr, _⟩ := Ty.val_agg rfl h; exact hr.2.1
  have hmin : k.min ≤ 0 := by cases k <;> decide
  refine d_index hu he h (k := k) (i := i) (mk_int (by omega) hi.2) ?_
  unfold idx
  rw [if_pos (by omega), Int.toNat_natCast]
  exact nth_get (by omega)
theorem d_idxStr {t : TypeId} {X I : Operand} {s : ByteArray} {k : IntKind} {i : Int} {b : UInt8} (hu : P.underlying t = some .string) (h : TS.val ρ (a.eval X) s) (hi : (TI k).val ρ (a.eval I) i) (h0 : 0 ≤ i) (hb : s[i.toNat]? = some b) :
    Does P ρ w (.index t X I) ty a ((TI .u8).sv (b.toNat : Int)) := by
  have hr : IntKind.u8.min ≤ (b.toNat : Int) ∧ (b.toNat : Int) ≤ IntKind.u8.max := by
    have h1 : IntKind.u8.min = 0 := by decide
    have h2 : IntKind.u8.max = 255 := by decide
    rw [h1, h2]
    have := UInt8.toNat_lt b
    omega
  refine does_same (v := .int .u8 b.toNat) (fun _ _ _ _ => ?_) (mk_int hr.1 hr.2)
  simp only [execOp, val_str h, (val_int hi).1, Instr.index, asIntOf, Sem.run_bind, run_underlying hu, Result.andThen]
  simp [h0, hb, Result.andThen]

/-! #### Calls -/
/-- How a call ends: a value, new memory with it, of what was there nothing turned but the blocks that are told. What the value leads to lies in what was known ahead, or is new. -/
structure RetV (ex : List Nat) (w : World) (σ : Heap) (R : SRel) (rs : List (Value → Res)) (v : Value) (w' : World) : Prop where
  below : BelowX ex w w'
  rel : R.p (σ.plus (freshX w w' (rs.filterMap fun r => (r v).blk))) v
  own : ∀ r, r ∈ rs → (r v).holds (σ.plus (freshX w w' (rs.filterMap fun r => (r v).blk))) w' ∧ ∀ b, (r v).blk = some b → w.heap.size ≤ b
  apart : rs.Pairwise fun r q => ∀ b, (r v).blk = some b → (q v).blk ≠ some b
def Ret (ex : List Nat) (w : World) (σ : Heap) (R : SRel) (rs : List (Value → Res)) : Ending → World → Prop
  | .returned v, w' => RetV ex w σ R rs v w'
  | _, _ => False
/-- Leading nowhere. -/
def SRel.Loose (R : SRel) : Prop := ∀ ρ σ v, R.p ρ v → R.p σ v
def Res.Loose (r : Res) : Prop := ∀ ρ σ o, r.ok ρ o → r.ok σ o

theorem fresh_up {bs : List Nat} {w' : World} (hle : ρ.le (snap w)) : (freshX w w' bs).le (ρ.plus (freshX w w' bs)) := fun b o h => by
  unfold Heap.plus
  cases hr : ρ b with
  | none => exact h
  | some o' =>
    have := hle b o' hr
    have hlt := (Array.getElem?_eq_some_iff.1 this).1
    unfold freshX at h
    rw [if_pos hlt] at h; cases h
theorem plus_none {b : Nat} {w' : World} {bs : List Nat} (h1 : ρ b = none) (h2 : freshX w w' bs b = none) : (ρ.plus (freshX w w' bs)) b = none := by simp [Heap.plus, h1, h2]
theorem snap_none (hle : ρ.le (snap w)) {b : Nat} (hb : w.heap.size ≤ b) : ρ b = none := by
  cases hr : ρ b with
  | none => rfl
  | some o => have := (Array.getElem?_eq_some_iff.1 (hle b o hr)).1; omega

theorem run_call {f : FuncId} {args : Array Operand} {ts : Array TypeId} {vs : Array Value} (hf : FnIs P f) (hv : args.map a.eval = vs) :
    ∀ dst pos after guard, (execOp a.eval ⟨dst, .call { callee := .value (.func f), args := args, argTypes := ts }, ty, pos, after, guard⟩).run P w = .ok (.enter f vs) w := by
  intro _ _ _ _
  simp only [execOp, resolve, Sem.run_bind, hv]
  simp [Deferred.ofValue, Act.eval, invoke, Result.andThen]
  exact hf vs w
theorem wp_call {f : FuncId} {args : Array Operand} {ts : Array TypeId} {vs : Array Value} {rs : List (Value → Res)} {ex : List Nat} {σ : Heap} (hf : FnIs P f) (hv : args.map a.eval = vs) (hc : Calls P f vs w (Ret ex w σ R rs))
    {dst : Option Tmp} {pos : String} {after : Array Edge} {guard : Option (Nat × Bool)} {Q : Exit → Act → World → Prop} {K : Act → World → Prop} (hK : ∀ v w', RetV ex w σ R rs v w' → K (a.put dst v) w') :
    (⟨dst, .call { callee := .value (.func f), args := args, argTypes := ts }, ty, pos, after, guard⟩ : Oper).wp P a w K Q := by
  unfold Oper.wp
  rw [run_call hf hv]
  refine hc.mono fun e w' he => ?_
  cases e with
  | returned v => exact hK v w' he
  | panicked _ => exact he.elim
  | outgrown => exact he.elim
/-- A call of which nothing is owned. -/
theorem d_call {f : FuncId} {args : Array Operand} {ts : Array TypeId} {vs : Array Value} (hf : FnIs P f) (hle : ρ.le (snap w)) (hv : args.map a.eval = vs) (hc : Calls P f vs w (Ret [] w ρ R [])) :
    Does P ρ w (.call { callee := .value (.func f), args := args, argTypes := ts }) ty a R := fun dst pos after guard Q K hK =>
  wp_call hf hv hc fun v w' h => hK v w' h.below (by rw [← freshX_nil]; exact h.rel)
/-- The same, where the call may read all that is there. -/
theorem d_callF {f : FuncId} {args : Array Operand} {ts : Array TypeId} {vs : Array Value} (hf : FnIs P f) (hl : R.Loose) (hv : args.map a.eval = vs) (hc : Calls P f vs w (Ret [] w (snap w) R [])) :
    Does P ρ w (.call { callee := .value (.func f), args := args, argTypes := ts }) ty a R := fun dst pos after guard Q K hK =>
  wp_call hf hv hc fun v w' h => hK v w' h.below (hl _ _ _ h.rel)
/-- A call that hands new memory on. -/
theorem g_call {f : FuncId} {args : Array Operand} {ts : Array TypeId} {vs : Array Value} {owns : List (Nat × (Value → Res))} {dst : Option Tmp} {pos : String} {after : Array Edge} (hf : FnIs P f) (hle : ρ.le (snap w)) (hv : args.map a.eval = vs) (hc : Calls P f vs w (Ret [] w ρ R (owns.map (·.2)))) :
    Goal P ops ρ ds w (sO R owns) ⟨dst, .call { callee := .value (.func f), args := args, argTypes := ts }, ty, pos, after, none⟩ a := by
  intro Q K hK
  simp only [Region.wanted, if_true]
  refine wp_call hf hv hc fun v w' h => hK v w' ?_ (fun j g e => by cases e)
  have hbs : (sO R owns).blks v = (owns.map (·.2)).filterMap fun r => (r v).blk := by
    simp only [ASpec.blks, sO, List.filterMap_map]; rfl
  refine ⟨h.below, ?_, fun e he => ?_, ?_⟩
  · rw [hbs]; exact h.rel
  · rw [hbs]; exact h.own e.2 (List.mem_map.2 ⟨e, he, rfl⟩)
  · have := h.apart
    rw [List.pairwise_map] at this
    exact this
theorem g_callF {f : FuncId} {args : Array Operand} {ts : Array TypeId} {vs : Array Value} {owns : List (Nat × (Value → Res))} {dst : Option Tmp} {pos : String} {after : Array Edge} (hf : FnIs P f) (hle : ρ.le (snap w)) (hl : R.Loose) (hlo : ∀ e ∈ owns, ∀ v, (e.2 v).Loose) (hv : args.map a.eval = vs)
    (hc : Calls P f vs w (Ret [] w (snap w) R (owns.map (·.2)))) : Goal P ops ρ ds w (sO R owns) ⟨dst, .call { callee := .value (.func f), args := args, argTypes := ts }, ty, pos, after, none⟩ a := by
  intro Q K hK
  simp only [Region.wanted, if_true]
  refine wp_call hf hv hc fun v w' h => hK v w' ?_ (fun j g e => by cases e)
  have hbs : (sO R owns).blks v = (owns.map (·.2)).filterMap fun r => (r v).blk := by
    simp only [ASpec.blks, sO, List.filterMap_map]; rfl
  refine ⟨h.below, hl _ _ _ h.rel, fun e he => ?_, ?_⟩
  · obtain ⟨h1, h2⟩ := h.own e.2 (List.mem_map.2 ⟨e, he, rfl⟩)
    refine ⟨?_, h2⟩
    rw [hbs]
    unfold Res.holds at h1 ⊢
    cases hb : (e.2 v).blk with
    | none => rw [hb] at h1; exact hlo e he v _ _ _ h1
    | some b =>
      rw [hb] at h1
      obtain ⟨o, ho, hok, hn⟩ := h1
      have hb' := h2 b hb
      refine ⟨o, ho, hlo e he v _ _ _ hok, plus_none (snap_none hle hb') ?_⟩
      have hs : snap w b = none := snap_none (Heap.le_refl _) hb'
      unfold Heap.plus at hn
      rw [hs] at hn
      exact hn
  · have := h.apart
    rw [List.pairwise_map] at this
    exact this
end

/-! ### The beginning and the end of a function -/
theorem sat_start {w : World} {σ : Heap} (n : Nat) (h : σ.le (snap w)) : Sat ⟨w, [], n, σ⟩ (HL []) σ w where
  le := h
  ok := fun _ => trivial
  apart := fun i j b _ h => by simp [HL, Res.none] at h
  mine := fun i b h => by simp [HL, Res.none] at h
  fr := BelowX.refl _ _
  lim := fun b o e => .inl e
  sle := h
/-- The slots at the beginning: the arguments, then nothing. -/
theorem env_args {ρ : Heap} {args : List Value} {n : Nat} : ∀ {l : List (Nat × SRel)}, (∀ p ∈ l, ∃ v, args[p.1]? = some v ∧ p.2.p ρ v) → ∀ t, (E l t).p ρ (slot ⟨args.toArray ++ Array.replicate n undef, []⟩ t)
  | [], _, t => trivial
  | (s, R) :: l, h, t => by
    unfold E
    cases hb : Nat.beq s t with
    | true =>
      have := Nat.eq_of_beq_eq_true hb
      subst this
      obtain ⟨v, hv, hR⟩ := h (s, R) (by simp)
      have hlt := (List.getElem?_eq_some_iff.1 hv).1
      show R.p ρ ((args.toArray ++ Array.replicate n undef).getD s undef)
      rw [Array.getD_eq_getD_getElem?, Array.getElem?_append_left (by simpa using hlt)]
      simpa [hv] using hR
    | false => exact env_args (fun p hp => h p (by simp [hp])) t
theorem start {P : Program} {f : FuncId} {fn : Func} {c : Code} {args : List Value} {w : World} {R : Ending → World → Prop} (hf : P.funcs[f]? = some fn) (hb : fn.body = some c) (n : Nat) (hn : fn.ntmps = n) (ex : List Nat) (l : List (Nat × SRel)) (hl : List (Nat × Res)) {ρ σ : Heap}
    (hs : Sat ⟨w, ex, n, σ⟩ (HL hl) ρ w) (ha : decide (args.length ≤ n) = true) (he : ∀ p ∈ l, ∃ v, args[p.1]? = some v ∧ p.2.p ρ v)
    (h : T ⟨w, ex, n, σ⟩ (E l) (HL hl) (c.wp P (bodyPost P fn R))) : Calls P f args.toArray w R := by
  subst hn
  have ha : args.length ≤ fn.ntmps := by simpa using ha
  exact calls_of_wp hf hb (h ρ _ w ⟨rfl, by simp; omega, env_args he, hs⟩)

/-- The arguments' facts, one by one. -/
theorem args0 {ρ : Heap} {args : List Value} : ∀ p ∈ ([] : List (Nat × SRel)), ∃ v, args[p.1]? = some v ∧ p.2.p ρ v := fun p h => by cases h
theorem args1 {ρ : Heap} {args : List Value} {i : Nat} {v : Value} {R : SRel} {l : List (Nat × SRel)} (hv : args[i]? = some v) (h : R.p ρ v) (t : ∀ p ∈ l, ∃ v, args[p.1]? = some v ∧ p.2.p ρ v) :
    ∀ p ∈ (i, R) :: l, ∃ v, args[p.1]? = some v ∧ p.2.p ρ v := fun p hp => by
  rcases List.mem_cons.1 hp with rfl | hp
  · exact ⟨v, hv, h⟩
  · exact t p hp
section
variable {f : Operand → Value}
theorem mapA0 : (#[] : Array Operand).map f = #[] := by simp
theorem mapA1 {A : Operand} : (#[A]).map f = #[f A] := by simp
theorem mapA2 {A B : Operand} : (#[A, B]).map f = #[f A, f B] := by simp
theorem mapA3 {A B C : Operand} : (#[A, B, C]).map f = #[f A, f B, f C] := by simp
theorem mapA4 {A B C D : Operand} : (#[A, B, C, D]).map f = #[f A, f B, f C, f D] := by simp
theorem mapA5 {A B C D E : Operand} : (#[A, B, C, D, E]).map f = #[f A, f B, f C, f D, f E] := by simp
theorem mapA6 {A B C D E F : Operand} : (#[A, B, C, D, E, F]).map f = #[f A, f B, f C, f D, f E, f F] := by simp
theorem mapA7 {A B C D E F G : Operand} : (#[A, B, C, D, E, F, G]).map f = #[f A, f B, f C, f D, f E, f F, f G] := by simp
end
theorem iteT {α : Type} {b : Bool} {x y z : α} (h : (if b = true then x else y) = z) (hb : b = true) : x = z := by rw [if_pos hb] at h; exact h
theorem iteF {α : Type} {b : Bool} {x y z : α} (h : (if b = true then x else y) = z) (hb : b = false) : y = z := by rw [if_neg (by rw [hb]; decide)] at h; exact h
/-- Own memory, handed to a callee that only reads. -/
theorem box_ro {α : Type} {A : Ty α} {E : TypeId} {C : Ctx} {H : Nat → Res} {ρ : Heap} {w : World} {x : α} {v u : Value} (hs : Sat C H ρ w) (id : Nat) (hH : H id = boxR E A x v) (h : u = v) : (TP A).val (snap w) u x := by
  subst h
  have hk := hs.ok id
  rw [hH] at hk
  obtain ⟨b, cs, rfl, ho, hr, _⟩ := box_own hk
  refine Ty.val_of_one rfl ⟨⟨b, 0, none⟩, cs, rfl, fun i v hi => ?_, A.mono hs.le hr⟩
  rw [add_at, cellAt_snap]
  simp [World.cell?, ho, hi]
theorem sl_ro {α : Type} {A : Ty α} {E : TypeId} {C : Ctx} {H : Nat → Res} {ρ : Heap} {w : World} {xs : List α} {v u : Value} (hs : Sat C H ρ w) (id : Nat) (hH : H id = slR E A xs v) (h : u = v) : (TSl A).val (snap w) u xs := by
  subst h
  have hk := hs.ok id
  rw [hH] at hk
  obtain ⟨cs, h0, h1, ⟨rfl, rfl⟩ | ⟨b, cap, cur, rfl, ho, hle, hcm, hcs, htk, _⟩⟩ := sl_own hk
  · exact Ty.val_of_one rfl ⟨none, 0, 0, rfl, rfl, by simp, fun _ => rfl, fun a h => by cases h⟩
  · refine Ty.val_of_one rfl ⟨some ⟨b, 0, none⟩, xs.length, cap, rfl, rfl, ⟨hle, by unfold maxLen at hcm; omega⟩, (fun h => by cases h), fun a' e i x hi => ?_⟩
    cases e
    refine ⟨chunk A.n i cs, fun j u hj => ?_, A.mono hs.le (h1 i x hi)⟩
    rw [add_at, add_at, cellAt_snap]
    unfold chunk at hj
    rw [List.getElem?_take] at hj
    split at hj
    · rw [List.getElem?_drop] at hj
      have := take_cell htk hj
      simp [World.cell?, ho, this]
    · cases hj
end Go.Proofs.Ytnpkhhfpgedkoaa
