/-
  A region of operations, in whatever order its edges allow: each operation is shown once, out of what those before it in every order have left.
-/
import Derived.Test.YtnpkhhfpgedkoaaBase
set_option linter.unusedVariables false
set_option linter.unusedSimpArgs false
namespace Go.Proofs.Ytnpkhhfpgedkoaa
open Go

/-- What an operation leaves in its slot. -/
structure ASpec where
  R : SRel
  owns : List (Nat × (Value → Res)) := []
  al : Option (Nat × (Value → Value)) := none
  tn : Option Nat := none
  tv : Option Nat := none
/-- What is known of the value; of an operation that turns memory, nothing. -/
def ASpec.rel (s : ASpec) : SRel := match s.tn with | none => s.R | some _ => SRel.any
/-- What memory is behind an operation that turns it. -/
def ASpec.fn (s : ASpec) : Value → Res := match s.owns with | e :: _ => e.2 | [] => fun _ => Res.none
/-- Of which operation the value is on which what is owned hangs. -/
def ASpec.vi (s : ASpec) (i : Nat) : Nat := match s.tn with | none => i | some _ => match s.tv with | none => i | some m => m
def ASpec.blks (s : ASpec) (v : Value) : List Nat := s.owns.filterMap fun e => (e.2 v).blk
def freshX (w w' : World) (bs : List Nat) : Heap := fun b => if b < w.heap.size then none else if b ∈ bs then none else w'.heap[b]?
theorem freshX_nil (w w' : World) : freshX w w' [] = fresh w w' := by funext b; simp [freshX, fresh]

def slot (a : Act) (t : Nat) : Value := a.tmps.getD t undef

structure Made (ρ : Heap) (w : World) (s : ASpec) (v : Value) (w' : World) : Prop where
  below : BelowX [] w w'
  rel : s.R.p (ρ.plus (freshX w w' (s.blks v))) v
  own : ∀ e, e ∈ s.owns → (e.2 v).holds (ρ.plus (freshX w w' (s.blks v))) w' ∧ ∀ b, (e.2 v).blk = some b → w.heap.size ≤ b
  apart : s.owns.Pairwise fun e f => ∀ b, (e.2 v).blk = some b → (f.2 v).blk ≠ some b

/-- The operation at hand, whether it is wanted or not. -/
def Goal (P : Program) (ops : Array Oper) (ρ : Heap) (ds : List Nat) (w : World) (s : ASpec) (o : Oper) (a : Act) : Prop :=
  ∀ (Q : Exit → Act → World → Prop) (K : Act → World → Prop), (∀ v w', Made ρ w s v w' → (∀ j g, s.al = some (j, g) → v = g (slot a (ds.getD j 0))) → K (a.put o.dst v) w') →
    if Region.wanted o (yielded ops a.tmps) then o.wp P a w K Q else K (a.put o.dst undef) w

/-- The same for an operation that turns memory of the call's own. -/
def GoalT (P : Program) (w : World) (r0 : Res) (f : Value → Res) (ρ : Heap) (o : Oper) (a : Act) : Prop :=
  (o.dst = none → ∀ v, f v = f undef) ∧ ∀ (Q : Exit → Act → World → Prop) (K : Act → World → Prop), (∀ v w', w.grownBy w' r0.blk → (f v).holds ρ w' → (∀ b, (f v).blk = some b → w.heap.size ≤ b ∨ r0.blk = some b) → K (a.put o.dst v) w') → o.wp P a w K Q

/-- What an operation has left, seen later. -/
def ASpec.left (s : ASpec) (ds : List Nat) (i : Nat) (ρ : Heap) (a : Act) : Prop :=
  s.rel.p ρ (slot a (ds.getD i 0)) ∧ ∀ j g, s.al = some (j, g) → slot a (ds.getD i 0) = g (slot a (ds.getD j 0))

/-- What memory is behind an operation that turns it, in its turn. -/
def ASpec.fnv (s : ASpec) (ds : List Nat) (a : Act) : Value → Res := fun v => match s.tv with | none => s.fn v | some m => s.fn (slot a (ds.getD m 0))
def okΓ (ds ancs : List Nat) (i t : Nat) : Bool := (ds.zip ancs).all fun (d, m) => d != t || m.testBit i
/-- What an operation makes. -/
def ASpec.mk' (s : ASpec) : List (Nat × (Value → Res)) := match s.tn with | none => s.owns | some _ => []
def ownIds (ss : List ASpec) : List Nat := ss.flatMap fun s => s.mk'.map (·.1)
def tnIds (ss : List ASpec) : List Nat := ss.filterMap (·.tn)

/-- Memory as it is before any operation turns it: as it was ahead of the region, or as the operation made it that made it, if that comes before. -/
def ownAt (v : Value) : List (Nat × (Value → Res)) → Nat → Option Res
  | [], _ => none
  | e :: l, t => match Nat.beq e.1 t with | true => some (e.2 v) | false => ownAt v l t
def made (ancs ds : List Nat) (H : Nat → Res) (a : Act) (j : Nat) : List ASpec → Nat → Nat → Option Res
  | [], _, t => some (H t)
  | s :: l, m, t => match ownAt (slot a (ds.getD m 0)) s.mk' t with
    | some r => match (ancs.getD j 0).testBit m with | true => some r | false => none
    | none => made ancs ds H a j l (m + 1) t
/-- No operation that turns it comes before. -/
def calm (ancs : List Nat) (j t : Nat) : List ASpec → Nat → Bool
  | [], _ => true
  | s :: l, i => (match s.tn with | some c => !(Nat.beq c t) || Nat.beq i j || (ancs.getD i 0).testBit j | none => true) && calm ancs j t l (i + 1)
def seen (ss : List ASpec) (ancs ds : List Nat) (H : Nat → Res) (a : Act) (j : Nat) : Nat → Res := fun t => match calm ancs j t ss 0 with
  | true => match made ancs ds H a j ss 0 t with | some r => r | none => Res.none
  | false => Res.none
def AOK (P : Program) (C : Ctx) (Γ : Nat → SRel) (H : Nat → Res) (ops : Array Oper) (ds ancs : List Nat) (ss : List ASpec) : Nat → List ASpec → List Oper → Prop
  | i, s :: l, o :: os => (∀ ρ a w, Sat C (seen ss ancs ds H a i) ρ w → a.tmps.size = C.n → (∀ t, okΓ ds ancs i t = true → (Γ t).p ρ (slot a t)) →
      (∀ j s', (ancs.getD i 0).testBit j = true → ss[j]? = some s' → s'.left ds j ρ a) → match s.tn with | none => Goal P ops ρ ds w s o a | some id => GoalT P w (seen ss ancs ds H a i id) (s.fnv ds a) ρ o a) ∧ AOK P C Γ H ops ds ancs ss (i + 1) l os
  | _, _, _ => True

theorem AOK.nil {P : Program} {C : Ctx} {Γ : Nat → SRel} {H : Nat → Res} {ops : Array Oper} {ds ancs : List Nat} {ss : List ASpec} {i : Nat} {os : List Oper} : AOK P C Γ H ops ds ancs ss i [] os := trivial
theorem AOK.cons {P : Program} {C : Ctx} {Γ : Nat → SRel} {H : Nat → Res} {ops : Array Oper} {ds ancs : List Nat} {ss : List ASpec} {i : Nat} {s : ASpec} {l : List ASpec} {o : Oper} {os : List Oper}
    (h : ∀ ρ a w, Sat C (seen ss ancs ds H a i) ρ w → a.tmps.size = C.n → (∀ t, okΓ ds ancs i t = true → (Γ t).p ρ (slot a t)) →
      (∀ j s', (ancs.getD i 0).testBit j = true → ss[j]? = some s' → s'.left ds j ρ a) → Goal P ops ρ ds w s o a) (k : AOK P C Γ H ops ds ancs ss (i + 1) l os) (hn : s.tn = none) : AOK P C Γ H ops ds ancs ss i (s :: l) (o :: os) :=
  ⟨fun ρ a w h1 h2 h3 h4 => by rw [hn]; exact h ρ a w h1 h2 h3 h4, k⟩
theorem AOK.consT {P : Program} {C : Ctx} {Γ : Nat → SRel} {H : Nat → Res} {ops : Array Oper} {ds ancs : List Nat} {ss : List ASpec} {i id : Nat} {s : ASpec} {l : List ASpec} {o : Oper} {os : List Oper}
    (h : ∀ ρ a w, Sat C (seen ss ancs ds H a i) ρ w → a.tmps.size = C.n → (∀ t, okΓ ds ancs i t = true → (Γ t).p ρ (slot a t)) →
      (∀ j s', (ancs.getD i 0).testBit j = true → ss[j]? = some s' → s'.left ds j ρ a) → GoalT P w (seen ss ancs ds H a i id) (s.fnv ds a) ρ o a) (k : AOK P C Γ H ops ds ancs ss (i + 1) l os) (hn : s.tn = some id) : AOK P C Γ H ops ds ancs ss i (s :: l) (o :: os) :=
  ⟨fun ρ a w h1 h2 h3 h4 => by rw [hn]; exact h ρ a w h1 h2 h3 h4, k⟩
def seen1 (ancs : List Nat) (o : Oper) : Nat := (o.after.toList.filter (Region.binds .any)).foldl (fun s e => s ||| (2 ^ e.on ||| ancs.getD e.on 0)) 0
def chkOp (n N : Nat) (ds ancs : List Nat) (draw : Bool) (i : Nat) (o : Oper) : Bool :=
  let m := ancs.getD i 0
  (o.after.toList.all fun e => !Region.binds .any e || decide (e.on < i)) && ((m ||| seen1 ancs o) == seen1 ancs o) &&
  (if i < n then ((o.dst == some (ds.getD i 0) && decide (ds.getD i 0 < N)) || (o.dst == none && decide (N ≤ ds.getD i 0) && o.guard.isNone)) && !((ds.take i).contains (ds.getD i 0)) &&
      (match o.guard with | none => true | some (g, _) => m.testBit g)
    else !draw || ((m ||| (2 ^ n - 1)) == m && (i == n || m.testBit (i - 1))))
def chkFrom (n N : Nat) (ds ancs : List Nat) (draw : Bool) : Nat → List Oper → Bool
  | _, [] => true
  | i, o :: os => chkOp n N ds ancs draw i o && chkFrom n N ds ancs draw (i + 1) os
def nodupB : List Nat → Bool
  | [] => true
  | x :: l => !(l.contains x) && nodupB l
def alOk (ancs : List Nat) : Nat → List ASpec → Bool
  | _, [] => true
  | i, s :: l => (match s.al with | none => true | some (j, _) => (ancs.getD i 0).testBit j && decide (j < i)) && alOk ancs (i + 1) l
/-- What an operation turns was there, or has been made before it. -/
def before (m0 t : Nat) : List ASpec → Nat → Bool
  | [], _ => true
  | s :: l, m => (!((s.mk'.map (·.1)).contains t) || m0.testBit m) && before m0 t l (m + 1)
/-- Operations that turn memory: one at a time, unguarded; only these have no slot. -/
def tnOk (all : List ASpec) : List ASpec → List Oper → List Nat → Bool
  | s :: ss, o :: os, m :: ms => (match s.tn with | some id => (s.owns.map (·.1) == [id]) && s.al.isNone && o.guard.isNone && (before m id all 0 && (match s.tv with | none => true | some q => m.testBit q)) | none => o.dst.isSome) && tnOk all ss os ms
  | _, _, _ => true
def chk (ops : List Oper) (n N : Nat) (ds ancs : List Nat) (ss : List ASpec) (draw : Bool) : Bool :=
  decide (n ≤ ops.length) && (ancs.length == ops.length) && (ss.length == n) && (ds.length == n) && (nodupB (ownIds ss) && (nodupB (tnIds ss) && tnOk ss ss ops ancs)) && alOk ancs 0 ss && chkFrom n N ds ancs draw 0 ops

theorem chkFrom_get {n N : Nat} {ds ancs : List Nat} {draw : Bool} : ∀ {l : List Oper} {k : Nat}, chkFrom n N ds ancs draw k l = true → ∀ j o, l[j]? = some o → chkOp n N ds ancs draw (k + j) o = true
  | [], _, _, j, o, h => by simp at h
  | x :: l, k, hc, j, o, h => by
    simp only [chkFrom, Bool.and_eq_true] at hc
    cases j with
    | zero => simp at h; subst h; exact hc.1
    | succ j => have := chkFrom_get hc.2 j o (by simpa using h); rwa [show k + (j + 1) = k + 1 + j by omega]
theorem alOk_get {ancs : List Nat} : ∀ {l : List ASpec} {k : Nat}, alOk ancs k l = true → ∀ i s j g, l[i]? = some s → s.al = some (j, g) → (ancs.getD (k + i) 0).testBit j = true ∧ j < k + i
  | [], _, _, i, s, j, g, h, _ => by simp at h
  | x :: l, k, hc, i, s, j, g, h, hs => by
    simp only [alOk, Bool.and_eq_true] at hc
    cases i with
    | zero => simp at h; subst h; have := hc.1; rw [hs] at this; simpa using this
    | succ i => have := alOk_get hc.2 i s j g (by simpa using h) hs; rwa [show k + (i + 1) = k + 1 + i by omega]
theorem AOK_get {P : Program} {C : Ctx} {Γ : Nat → SRel} {H : Nat → Res} {ops : Array Oper} {ds ancs : List Nat} {ss : List ASpec} : ∀ {l : List ASpec} {os : List Oper} {k : Nat},
    AOK P C Γ H ops ds ancs ss k l os → ∀ i s o, l[i]? = some s → os[i]? = some o →
    ∀ ρ a w, Sat C (seen ss ancs ds H a (k + i)) ρ w → a.tmps.size = C.n → (∀ t, okΓ ds ancs (k + i) t = true → (Γ t).p ρ (slot a t)) →
      (∀ j s', (ancs.getD (k + i) 0).testBit j = true → ss[j]? = some s' → s'.left ds j ρ a) → match s.tn with | none => Goal P ops ρ ds w s o a | some id => GoalT P w (seen ss ancs ds H a (k + i) id) (s.fnv ds a) ρ o a
  | [], _, _, _, i, s, o, h, _ => by simp at h
  | _ :: _, [], _, _, i, s, o, _, h => by simp at h
  | x :: l, y :: os, k, hA, i, s, o, h1, h2 => by
    cases i with
    | zero => simp at h1 h2; subst h1; subst h2; exact hA.1
    | succ i => have := AOK_get hA.2 i s o (by simpa using h1) (by simpa using h2); rwa [show k + (i + 1) = k + 1 + i by omega]

theorem before_get {m0 t : Nat} : ∀ {l : List ASpec} {k : Nat}, before m0 t l k = true → ∀ i s, l[i]? = some s → t ∈ s.mk'.map (·.1) → m0.testBit (k + i) = true
  | [], _, _, i, s, h, _ => by simp at h
  | x :: l, k, hc, i, s, h, ht => by
    simp only [before, Bool.and_eq_true] at hc
    cases i with
    | zero => simp at h; subst h; have := hc.1; rw [Bool.or_eq_true] at this; rcases this with h | h
              · simp at h ht; obtain ⟨b, hb⟩ := ht; exact absurd hb (h b)
              · exact h
    | succ i => have := before_get hc.2 i s (by simpa using h) ht; rwa [show k + (i + 1) = k + 1 + i by omega]
theorem tnOk_get {all : List ASpec} : ∀ {l : List ASpec} {os : List Oper} {ms : List Nat}, tnOk all l os ms = true → os.length = ms.length → ∀ (i : Nat) (s : ASpec) (o : Oper), l[i]? = some s → os[i]? = some o →
    match s.tn with | some id => s.owns.map (·.1) = [id] ∧ s.al = none ∧ o.guard = none ∧ before (ms.getD i 0) id all 0 = true ∧ (∀ q, s.tv = some q → (ms.getD i 0).testBit q = true) | none => o.dst.isSome = true
  | [], _, _, _, _, i, s, o, h, _ => by simp at h
  | _ :: _, [], _, _, _, i, s, o, _, h => by simp at h
  | _ :: _, _ :: _, [], _, hl, _, _, _, _, _ => by simp at hl
  | x :: l, y :: os, m :: ms, hc, hl, i, s, o, h1, h2 => by
    simp only [tnOk, Bool.and_eq_true] at hc
    cases i with
    | zero =>
      simp at h1 h2; subst h1; subst h2
      have := hc.1
      cases hx : x.tn with
      | none => rw [hx] at this; simpa using this
      | some id =>
        rw [hx] at this
        simp only [Bool.and_eq_true, beq_iff_eq, Option.isNone_iff_eq_none] at this
        refine ⟨this.1.1.1, this.1.1.2, this.1.2, this.2.1, fun q hq => ?_⟩
        have h2 := this.2.2
        rw [hq] at h2
        simpa using h2
    | succ i => have := tnOk_get hc.2 (by simpa using hl) i s o (by simpa using h1) (by simpa using h2); simpa using this
theorem tn_apart {ss : List ASpec} (h : nodupB (tnIds ss) = true) (hn : ∀ {l : List Nat}, nodupB l = true → l.Nodup) {i j : Nat} {s s' : ASpec} {id : Nat} (hs : ss[i]? = some s) (hs' : ss[j]? = some s') (h1 : s.tn = some id) (h2 : s'.tn = some id) : i = j := by
  have hd := hn h
  have go : ∀ (l : List ASpec), (tnIds l).Nodup → ∀ (i j : Nat) (s s' : ASpec), l[i]? = some s → l[j]? = some s' → i < j → s.tn = some id → s'.tn = some id → False := by
    intro l
    induction l with
    | nil => intro _ i j s s' h; simp at h
    | cons x l ih =>
      intro hd i j s s' hs hs' hij h1 h2
      have hd' : (tnIds l).Nodup := by
        unfold tnIds at hd ⊢
        rw [List.filterMap_cons] at hd
        split at hd
        · exact hd
        · exact (List.nodup_cons.1 hd).2
      cases j with
      | zero => omega
      | succ j =>
        cases i with
        | zero =>
          simp at hs hs'
          subst hs
          unfold tnIds at hd
          rw [List.filterMap_cons, h1] at hd
          exact (List.nodup_cons.1 hd).1 (List.mem_filterMap.2 ⟨s', List.mem_of_getElem? hs', h2⟩)
        | succ i => exact ih hd' i j s s' (by simpa using hs) (by simpa using hs') (by omega) h1 h2
  rcases Nat.lt_trichotomy i j with h | h | h
  · exact (go ss hd i j s s' hs hs' h h1 h2).elim
  · exact h
  · exact (go ss hd j i s' s hs' hs h h2 h1).elim
theorem testBit_le {m x : Nat} (h : (m ||| x) = x) {j : Nat} (hj : m.testBit j = true) : x.testBit j = true := by
  rw [← h, Nat.testBit_or, hj]; rfl
theorem testBit_pow {e j : Nat} : (2 ^ e).testBit j = decide (e = j) := Nat.testBit_two_pow
theorem seen1_bit (ancs : List Nat) (o : Oper) {j : Nat} (h : (seen1 ancs o).testBit j = true) : ∃ e ∈ o.after.toList, Region.binds .any e = true ∧ (e.on = j ∨ (ancs.getD e.on 0).testBit j = true) := by
  unfold seen1 at h
  have key : ∀ (l : List Edge) (s : Nat), (l.foldl (fun s e => s ||| (2 ^ e.on ||| ancs.getD e.on 0)) s).testBit j = true →
      s.testBit j = true ∨ ∃ e ∈ l, e.on = j ∨ (ancs.getD e.on 0).testBit j = true := by
    intro l
    induction l with
    | nil => intro s hs; exact .inl hs
    | cons e l ih =>
      intro s hs
      rcases ih _ hs with h | ⟨e', he, hb⟩
      · rw [Nat.testBit_or, Nat.testBit_or, testBit_pow] at h
        simp only [Bool.or_eq_true, decide_eq_true_eq] at h
        rcases h with h | h | h
        · exact .inl h
        · exact .inr ⟨e, by simp, .inl h⟩
        · exact .inr ⟨e, by simp, .inr h⟩
      · exact .inr ⟨e', by simp [he], hb⟩
  rcases key _ 0 h with h | ⟨e, he, hb⟩
  · simp at h
  · rw [List.mem_filter] at he
    exact ⟨e, he.1, he.2, hb⟩

/-- Which operations are done, every one behind those that have to be before it. -/
def Closed (ops : Array Oper) (L : Nat → Prop) : Prop := ∀ (i : Nat) (o : Oper), L i → ops[i]? = some o → ∀ e, e ∈ o.after.toList → Region.binds .any e = true → L e.on
def Due (ops : Array Oper) (L : Nat → Prop) (i : Nat) : Prop := ∀ (o : Oper), ops[i]? = some o → ∀ e, e ∈ o.after.toList → Region.binds .any e = true → L e.on

section
variable {P : Program} {C : Ctx} {Γ : Nat → SRel} {H : Nat → Res} {Q : Exit → Act → World → Prop} {ops : Array Oper} {n : Nat} {ds ancs : List Nat} {ss : List ASpec} {draw : Bool}

theorem closed_anc (hc : chkFrom n C.n ds ancs draw 0 ops.toList = true) {L : Nat → Prop} (hL : Closed ops L) : ∀ i, L i → ∀ o, ops[i]? = some o → ∀ j, (ancs.getD i 0).testBit j = true → L j := by
  intro i
  induction i using Nat.strongRecOn with
  | _ i ih =>
    intro hi o ho j hj
    have hk := chkFrom_get hc i o (by simpa using ho)
    simp only [Nat.zero_add, chkOp, Bool.and_eq_true, beq_iff_eq, List.all_eq_true] at hk
    obtain ⟨⟨hlt, hm⟩, _⟩ := hk
    obtain ⟨e, he, hb, hx⟩ := seen1_bit ancs o (testBit_le hm hj)
    have hL' := hL i o hi ho e he hb
    rcases hx with rfl | hx
    · exact hL'
    · have hlt' : e.on < i := by have := hlt e he; simpa [hb] using this
      have hsz : i < ops.size := (Array.getElem?_eq_some_iff.1 ho).1
      exact ih e.on hlt' hL' _ (Array.getElem?_eq_getElem (by omega)) j hx
theorem due_anc (hc : chkFrom n C.n ds ancs draw 0 ops.toList = true) {L : Nat → Prop} (hL : Closed ops L) {i : Nat} (hd : Due ops L i) {o : Oper} (ho : ops[i]? = some o) {j : Nat}
    (hj : (ancs.getD i 0).testBit j = true) : L j := by
  have hk := chkFrom_get hc i o (by simpa using ho)
  simp only [Nat.zero_add, chkOp, Bool.and_eq_true, beq_iff_eq, List.all_eq_true] at hk
  obtain ⟨⟨hlt, hm⟩, _⟩ := hk
  obtain ⟨e, he, hb, hx⟩ := seen1_bit ancs o (testBit_le hm hj)
  have hL' := hd o ho e he hb
  rcases hx with rfl | hx
  · exact hL'
  · have hlt' : e.on < i := by have := hlt e he; simpa [hb] using this
    have hsz : i < ops.size := (Array.getElem?_eq_some_iff.1 ho).1
    exact closed_anc hc hL e.on hL' _ (Array.getElem?_eq_getElem (by omega)) j hx

structure Inv (C : Ctx) (Γ : Nat → SRel) (H : Nat → Res) (n : Nat) (ds : List Nat) (ss : List ASpec) (L : Nat → Prop) (a : Act) (w : World) : Prop where
  defers : a.defers = []
  size : a.tmps.size = C.n
  st : ∃ ρ HD, Sat C HD ρ w ∧ (∀ t, (∀ j, j < n → L j → ds.getD j 0 ≠ t) → (Γ t).p ρ (slot a t)) ∧ (∀ i s, ss[i]? = some s → L i → s.left ds i ρ a) ∧
    (∀ t, t ∉ ownIds ss → (∀ k s', ss[k]? = some s' → s'.tn = some t → ¬ L k) → HD t = H t) ∧
    (∀ i s e, ss[i]? = some s → e ∈ s.mk' → L i → (∀ k s', ss[k]? = some s' → s'.tn = some e.1 → ¬ L k) → HD e.1 = e.2 (slot a (ds.getD i 0))) ∧
    (∀ i s id, ss[i]? = some s → s.tn = some id → L i → HD id = s.fn (slot a (ds.getD (s.vi i) 0)))

theorem slot_put_same {a : Act} {d : Nat} {v : Value} (h : d < a.tmps.size) : slot (a.put (some d) v) d = v := by
  simp [slot, Act.put, h]
theorem slot_put_other {a : Act} {d t : Nat} {v : Value} (h : d ≠ t) : slot (a.put (some d) v) t = slot a t := by
  simp [slot, Act.put, Array.getD_eq_getD_getElem?, Array.getElem?_setIfInBounds_ne h]

theorem nodupB_get : ∀ {l : List Nat}, nodupB l = true → l.Nodup
  | [], _ => List.nodup_nil
  | x :: l, h => by
    simp only [nodupB, Bool.and_eq_true, Bool.not_eq_true', List.contains_eq_mem, decide_eq_false_iff_not] at h
    exact List.nodup_cons.2 ⟨h.1, nodupB_get h.2⟩
theorem ds_apart (hc : chkFrom n C.n ds ancs draw 0 ops.toList = true) (hn : n ≤ ops.size) (hd : ds.length = n) {i j : Nat} (hi : i < n) (hj : j < n) (hij : i ≠ j) : ds.getD i 0 ≠ ds.getD j 0 := by
  have go : ∀ i j, i < n → j < n → i < j → ds.getD i 0 ≠ ds.getD j 0 := by
    intro i j hi hj hij
    have hk := chkFrom_get hc j _ (by rw [Array.getElem?_toList]; exact Array.getElem?_eq_getElem (show j < ops.size by omega))
    simp only [Nat.zero_add, chkOp, Bool.and_eq_true, beq_iff_eq, List.all_eq_true, if_pos hj] at hk
    have h3 := hk.2.1.2
    simp only [Bool.not_eq_true', List.contains_eq_mem, decide_eq_false_iff_not] at h3
    intro he
    apply h3
    rw [← he]
    have : i < ds.length := by omega
    rw [List.mem_iff_getElem?]
    exact ⟨i, by rw [List.getElem?_take, if_pos hij]; simp [List.getD, List.getElem?_eq_getElem this]⟩
  rcases Nat.lt_or_gt_of_ne hij with h | h
  · exact go i j hi hj h
  · exact (go j i hj hi h).symm
theorem own_apart (hn : nodupB (ownIds ss) = true) {i j : Nat} {s s' : ASpec} (hs : ss[i]? = some s) (hs' : ss[j]? = some s') (hij : i ≠ j) {e f : Nat × (Value → Res)} (he : e ∈ s.mk') (hf : f ∈ s'.mk') : e.1 ≠ f.1 := by
  have hd := nodupB_get hn
  have go : ∀ (l : List ASpec), (ownIds l).Nodup → ∀ (i j : Nat) (s s' : ASpec), l[i]? = some s → l[j]? = some s' → i < j → ∀ e f, e ∈ s.mk' → f ∈ s'.mk' → e.1 ≠ f.1 := by
    intro l
    induction l with
    | nil => intro _ i j s s' h; simp at h
    | cons x l ih =>
      intro hd i j s s' h1 h2 hij e f he hf
      simp only [ownIds, List.flatMap_cons, List.nodup_append] at hd
      cases j with
      | zero => omega
      | succ j =>
        cases i with
        | zero =>
          simp at h1 h2
          subst h1
          exact hd.2.2 e.1 (List.mem_map.2 ⟨e, he, rfl⟩) f.1 (List.mem_flatMap.2 ⟨s', List.mem_of_getElem? h2, List.mem_map.2 ⟨f, hf, rfl⟩⟩)
        | succ i => exact ih hd.2.1 i j s s' (by simpa using h1) (by simpa using h2) (by omega) e f he hf
  rcases Nat.lt_or_gt_of_ne hij with h | h
  · exact go ss hd i j s s' hs hs' h e f he hf
  · exact (go ss hd j i s' s hs' hs h f e hf he).symm
theorem own_apart_in (hn : nodupB (ownIds ss) = true) {i : Nat} {s : ASpec} (hs : ss[i]? = some s) : (s.mk'.map (·.1)).Nodup := by
  have hd := nodupB_get hn
  have go : ∀ (l : List ASpec), (ownIds l).Nodup → ∀ (i : Nat) (s : ASpec), l[i]? = some s → (s.mk'.map (·.1)).Nodup := by
    intro l
    induction l with
    | nil => intro _ i s h; simp at h
    | cons x l ih =>
      intro hd i s h1
      simp only [ownIds, List.flatMap_cons, List.nodup_append] at hd
      cases i with
      | zero => simp at h1; subst h1; exact hd.1
      | succ i => exact ih hd.2.1 i s (by simpa using h1)
  exact go ss hd i s hs

/-- What is owned anew stands beside what was owned. -/
def grow (HD : Nat → Res) (v : Value) : List (Nat × (Value → Res)) → Nat → Res
  | [] => HD
  | e :: l => updH (grow HD v l) e.1 (e.2 v)
theorem grow_not {HD : Nat → Res} {v : Value} {l : List (Nat × (Value → Res))} {t : Nat} (h : t ∉ l.map (·.1)) : grow HD v l t = HD t := by
  induction l with
  | nil => rfl
  | cons e l ih =>
    simp only [List.map_cons, List.mem_cons, not_or] at h
    simp only [grow, updH]
    cases hb : Nat.beq e.1 t with
    | true => exact absurd (Nat.eq_of_beq_eq_true hb).symm h.1
    | false => exact ih h.2
theorem grow_in {HD : Nat → Res} {v : Value} {l : List (Nat × (Value → Res))} (hn : (l.map (·.1)).Nodup) {e : Nat × (Value → Res)} (he : e ∈ l) : grow HD v l e.1 = e.2 v := by
  induction l with
  | nil => cases he
  | cons f l ih =>
    simp only [List.map_cons, List.nodup_cons] at hn
    simp only [grow, updH]
    rcases List.mem_cons.1 he with rfl | he
    · simp
    · cases hb : Nat.beq f.1 e.1 with
      | true =>
        have := Nat.eq_of_beq_eq_true hb
        exact absurd (List.mem_map.2 ⟨e, he, this.symm⟩) hn.1
      | false => exact ih hn.2 he
theorem blk_lt {r : Res} {ρ : Heap} {w : World} (h : r.holds ρ w) {b : Nat} (hb : r.blk = some b) : b < w.heap.size := by
  unfold Res.holds at h
  rw [hb] at h
  obtain ⟨o, ho, _⟩ := h
  exact (Array.getElem?_eq_some_iff.1 ho).1
theorem le_keep {ρ : Heap} {w w' : World} (h : ρ.le (snap w)) (hb : BelowX [] w w') : ρ.le (snap w') := fun b o e => by
  have h1 := h b o e
  have hlt := (Array.getElem?_eq_some_iff.1 h1).1
  show w'.heap[b]? = some o
  rw [hb.block b hlt (by simp)]
  exact h1
theorem le_keepX {ρ : Heap} {w w' : World} (h : ρ.le (snap w)) (hb : BelowX [] w w') (bs : List Nat) : (ρ.plus (freshX w w' bs)).le (snap w') := fun b o e => by
  unfold Heap.plus at e
  cases hr : ρ b with
  | some o' => rw [hr] at e; cases e; exact le_keep h hb b _ hr
  | none =>
    rw [hr] at e
    simp only [freshX] at e
    split at e
    · cases e
    · split at e
      · cases e
      · exact e
theorem holds_keep {r : Res} {ρ : Heap} {w w' : World} (h : r.holds ρ w) (hb : BelowX [] w w') (bs : List Nat) : r.holds (ρ.plus (freshX w w' bs)) w' := by
  unfold Res.holds at *
  cases hr : r.blk with
  | none => rw [hr] at h; exact r.mono (Heap.le_plus _ _) h
  | some b =>
    rw [hr] at h
    obtain ⟨o, ho, hok, hn⟩ := h
    have hlt := (Array.getElem?_eq_some_iff.1 ho).1
    exact ⟨o, by rw [hb.block b hlt (by simp)]; exact ho, r.mono (Heap.le_plus _ _) hok, by simp [Heap.plus, hn, freshX, hlt]⟩
theorem Sat.made {HD : Nat → Res} {ρ : Heap} {w w' : World} {s : ASpec} {v : Value} (h : Sat C HD ρ w) (m : Made ρ w s v w') (hn : (s.owns.map (·.1)).Nodup) :
    Sat C (grow HD v s.owns) (ρ.plus (freshX w w' (s.blks v))) w' := by
  have old : ∀ t b, (HD t).blk = some b → b < w.heap.size := fun t b hb => blk_lt (h.ok t) hb
  have cases_ : ∀ t, (∃ e ∈ s.owns, e.1 = t ∧ grow HD v s.owns t = e.2 v) ∨ (grow HD v s.owns t = HD t) := by
    intro t
    by_cases ht : t ∈ s.owns.map (·.1)
    · obtain ⟨e, he, rfl⟩ := List.mem_map.1 ht
      exact .inl ⟨e, he, rfl, grow_in hn he⟩
    · exact .inr (grow_not ht)
  refine ⟨le_keepX h.le m.below _, fun t => ?_, fun i j b hij hi => ?_, fun t b hb => ?_, ?_, fun b o e => ?_, h.sle⟩
  · rcases cases_ t with ⟨e, he, _, hg⟩ | hg
    · rw [hg]; exact (m.own e he).1
    · rw [hg]; exact holds_keep (h.ok t) m.below _
  · rcases cases_ i with ⟨e, he, hei, hg⟩ | hg
    · rw [hg] at hi
      have hlo := (m.own e he).2 b hi
      rcases cases_ j with ⟨f, hf, hfj, hg'⟩ | hg'
      · rw [hg']
        have hne : e ≠ f := fun h => hij (by rw [← hei, ← hfj, h])
        have sym : ∀ e f, e ∈ s.owns → f ∈ s.owns → e ≠ f → ∀ b, (e.2 v).blk = some b → (f.2 v).blk ≠ some b := by
          intro e f he hf hne
          obtain ⟨i, hi, rfl⟩ := List.getElem_of_mem he
          obtain ⟨j, hj, rfl⟩ := List.getElem_of_mem hf
          have hpw := List.pairwise_iff_getElem.1 m.apart
          have hne' : i ≠ j := fun h => hne (by subst h; rfl)
          rcases Nat.lt_or_gt_of_ne hne' with h | h
          · exact hpw i j hi hj h
          · intro b h1 h2; exact hpw j i hj hi h b h2 h1
        exact sym e f he hf hne b hi
      · rw [hg']; intro hb; have := old j b hb; omega
    · rw [hg] at hi
      rcases cases_ j with ⟨f, hf, hfj, hg'⟩ | hg'
      · rw [hg']; intro hb
        have := (m.own f hf).2 b hb
        have := old i b hi
        omega
      · rw [hg']; exact h.apart i j b hij hi
  · rcases cases_ t with ⟨e, he, _, hg⟩ | hg
    · rw [hg] at hb
      exact .inl (Nat.le_trans h.fr.size ((m.own e he).2 b hb))
    · rw [hg] at hb; exact h.mine t b hb
  · exact h.fr.trans ⟨m.below.os, m.below.tape, m.below.output, m.below.size, fun k hk _ => m.below.block k hk (by simp)⟩
  · unfold Heap.plus at e
    cases hr : ρ b with
    | some o' => rw [hr] at e; cases e; exact h.lim b _ hr
    | none =>
      rw [hr] at e
      simp only [freshX] at e
      split at e
      · cases e
      · have := h.fr.size; right; omega

theorem Sat.turn {ρ : Heap} {w w' : World} (h : Sat C H ρ w) (id : Nat) (hg : w.grownBy w' (H id).blk) {r : Res} (hr : r.holds ρ w') (hb : ∀ b, r.blk = some b → w.heap.size ≤ b ∨ (H id).blk = some b) : Sat C (updH H id r) ρ w' := by
  have low : ∀ i b, (H i).blk = some b → b < w.heap.size := fun i b hb => blk_lt (h.ok i) hb
  have keep : ∀ b, b < w.heap.size → (H id).blk ≠ some b → w'.heap[b]? = w.heap[b]? := fun b hb hne => hg.block b hb (Ne.symm hne)
  have cases_ : ∀ t, (t = id ∧ updH H id r t = r) ∨ (t ≠ id ∧ updH H id r t = H t) := by
    intro t
    unfold updH
    cases hb : Nat.beq id t with
    | true => exact .inl ⟨(Nat.eq_of_beq_eq_true hb).symm, rfl⟩
    | false => exact .inr ⟨(Nat.ne_of_beq_eq_false hb : ¬ id = t) ∘ Eq.symm, rfl⟩
  have ρid : ∀ b, (H id).blk = some b → ρ b = none := fun b hb => by
    have := h.ok id
    unfold Res.holds at this
    rw [hb] at this
    obtain ⟨_, _, _, hn⟩ := this
    exact hn
  refine ⟨fun b o e => ?_, fun t => ?_, fun i j b hij hi => ?_, fun t b hb' => ?_, ?_, h.lim, h.sle⟩
  · have h1 := h.le b o e
    have hlt := (Array.getElem?_eq_some_iff.1 h1).1
    show w'.heap[b]? = some o
    rw [keep b hlt (fun hx => by rw [ρid b hx] at e; cases e)]
    exact h1
  · rcases cases_ t with ⟨rfl, e⟩ | ⟨hne, e⟩
    · rw [e]; exact hr
    · rw [e]
      have h1 := h.ok t
      unfold Res.holds at *
      cases hx : (H t).blk with
      | none => rw [hx] at h1; exact h1
      | some b =>
        rw [hx] at h1
        obtain ⟨o, ho, h2, h3⟩ := h1
        exact ⟨o, by rw [keep b (low t b hx) (h.apart t id b hne hx)]; exact ho, h2, h3⟩
  · rcases cases_ i with ⟨rfl, e⟩ | ⟨hne, e⟩
    · rw [e] at hi
      rcases cases_ j with ⟨rfl, e'⟩ | ⟨hne', e'⟩
      · exact absurd rfl hij
      · rw [e']
        intro hj
        rcases hb b hi with h1 | h1
        · have := low j b hj; omega
        · exact h.apart i j b hij h1 hj
    · rw [e] at hi
      rcases cases_ j with ⟨rfl, e'⟩ | ⟨hne', e'⟩
      · rw [e']
        intro hj
        rcases hb b hj with h1 | h1
        · have := low i b hi; omega
        · exact h.apart i j b hij hi h1
      · rw [e']; exact h.apart i j b hij hi
  · rcases cases_ t with ⟨rfl, e⟩ | ⟨hne, e⟩
    · rw [e] at hb'
      rcases hb b hb' with h1 | h1
      · exact .inl (Nat.le_trans h.fr.size h1)
      · exact h.mine t b h1
    · rw [e] at hb'; exact h.mine t b hb'
  · refine ⟨hg.os.trans h.fr.os, hg.tape.trans h.fr.tape, hg.output.trans h.fr.output, Nat.le_trans h.fr.size hg.size, fun k hk hx => ?_⟩
    rw [← h.fr.block k hk hx]
    refine keep k (Nat.lt_of_lt_of_le hk h.fr.size) fun hb' => ?_
    rcases h.mine id k hb' with h1 | h1
    · omega
    · exact hx h1

theorem ownAt_get {v : Value} : ∀ {l : List (Nat × (Value → Res))} {t : Nat} {r : Res}, ownAt v l t = some r → ∃ e, e ∈ l ∧ e.1 = t ∧ r = e.2 v
  | [], _, _, h => by simp [ownAt] at h
  | e :: l, t, r, h => by
    unfold ownAt at h
    cases hb : Nat.beq e.1 t with
    | true => rw [hb] at h; simp at h; exact ⟨e, by simp, Nat.eq_of_beq_eq_true hb, h.symm⟩
    | false => rw [hb] at h; obtain ⟨f, h1, h2, h3⟩ := ownAt_get h; exact ⟨f, by simp [h1], h2, h3⟩
theorem ownAt_none {v : Value} : ∀ {l : List (Nat × (Value → Res))} {t : Nat}, ownAt v l t = none → t ∉ l.map (·.1)
  | [], _, _ => by simp
  | e :: l, t, h => by
    unfold ownAt at h
    cases hb : Nat.beq e.1 t with
    | true => rw [hb] at h; simp at h
    | false =>
      rw [hb] at h
      rw [List.map_cons, List.mem_cons, not_or]
      exact ⟨fun h => Nat.ne_of_beq_eq_false hb h.symm, ownAt_none h⟩
theorem made_get {a : Act} {j : Nat} : ∀ {l : List ASpec} {k t : Nat} {r : Res}, made ancs ds H a j l k t = some r → (r = H t ∧ ∀ (i : Nat) (s : ASpec), l[i]? = some s → t ∉ s.mk'.map (·.1)) ∨
    ∃ (i : Nat) (s : ASpec) (e : Nat × (Value → Res)), l[i]? = some s ∧ e ∈ s.mk' ∧ e.1 = t ∧ (ancs.getD j 0).testBit (k + i) = true ∧ r = e.2 (slot a (ds.getD (k + i) 0))
  | [], k, t, r, h => .inl ⟨by simpa [made, eq_comm] using h, fun i s h => by simp at h⟩
  | s :: l, k, t, r, h => by
    unfold made at h
    cases ho : ownAt (slot a (ds.getD k 0)) s.mk' t with
    | some r' =>
      rw [ho] at h
      cases hb : (ancs.getD j 0).testBit k with
      | false => simp only [hb] at h; cases h
      | true =>
        simp only [hb] at h
        cases h
        obtain ⟨e, h1, h2, h3⟩ := ownAt_get ho
        exact .inr ⟨0, s, e, rfl, h1, h2, hb, h3⟩
    | none =>
      rw [ho] at h
      rcases made_get h with ⟨h1, h2⟩ | ⟨i, s', e, h1, h2, h3, h4, h5⟩
      · refine .inl ⟨h1, fun i s' hs' => ?_⟩
        cases i with
        | zero => simp at hs'; subst hs'; exact ownAt_none ho
        | succ i => exact h2 i s' (by simpa using hs')
      · exact .inr ⟨i + 1, s', e, by simpa using h1, h2, h3, by rw [show k + (i + 1) = k + 1 + i by omega]; exact h4, by rw [show k + (i + 1) = k + 1 + i by omega]; exact h5⟩
theorem made_some {a : Act} {j : Nat} (hn : nodupB (ownIds ss) = true) (own : ∀ {i : Nat} {s : ASpec}, ss[i]? = some s → (s.mk'.map (·.1)).Nodup) {t : Nat} (hb : before (ancs.getD j 0) t ss 0 = true) : (made ancs ds H a j ss 0 t).isSome = true := by
  have go : ∀ (l : List ASpec) (k : Nat), before (ancs.getD j 0) t l k = true → (made ancs ds H a j l k t).isSome = true := by
    intro l
    induction l with
    | nil => intro k _; rfl
    | cons s l ih =>
      intro k hb
      simp only [before, Bool.and_eq_true] at hb
      unfold made
      cases ho : ownAt (slot a (ds.getD k 0)) s.mk' t with
      | none => exact ih _ hb.2
      | some r =>
        obtain ⟨e, h1, h2, _⟩ := ownAt_get ho
        have h3 := hb.1
        rw [Bool.or_eq_true] at h3
        rcases h3 with h3 | h3
        · have : t ∈ s.mk'.map (·.1) := List.mem_map.2 ⟨e, h1, h2⟩
          simp only [Bool.not_eq_true', List.contains_eq_mem, decide_eq_false_iff_not] at h3
          exact absurd this h3
        · simp only [h3]; rfl
  exact go ss 0 hb
theorem calm_get {j t : Nat} : ∀ {l : List ASpec} {k : Nat}, calm ancs j t l k = true → ∀ (i : Nat) (s : ASpec), l[i]? = some s → s.tn = some t → k + i = j ∨ (ancs.getD (k + i) 0).testBit j = true
  | [], _, _, i, s, h, _ => by simp at h
  | x :: l, k, hc, i, s, h, ht => by
    simp only [calm, Bool.and_eq_true] at hc
    cases i with
    | zero =>
      simp at h; subst h
      have := hc.1
      rw [ht] at this
      simp only [Nat.beq_refl, Bool.not_true, Bool.false_or, Bool.or_eq_true] at this
      rcases this with h | h
      · exact .inl (Nat.eq_of_beq_eq_true h)
      · exact .inr h
    | succ i => have := calm_get hc.2 i s (by simpa using h) ht; rwa [show k + (i + 1) = k + 1 + i by omega]
theorem calm_self {j t : Nat} (h : ∀ (i : Nat) (s : ASpec), ss[i]? = some s → s.tn = some t → i = j) : calm ancs j t ss 0 = true := by
  have go : ∀ (l : List ASpec) (k : Nat), (∀ (i : Nat) (s : ASpec), l[i]? = some s → s.tn = some t → k + i = j) → calm ancs j t l k = true := by
    intro l
    induction l with
    | nil => intro k _; rfl
    | cons s l ih =>
      intro k hl
      unfold calm
      rw [Bool.and_eq_true]
      refine ⟨?_, ih _ fun i s' hs' ht => by have := hl (i + 1) s' (by simpa using hs') ht; omega⟩
      cases hs : s.tn with
      | none => rfl
      | some c =>
        simp only []
        cases hb : Nat.beq c t with
        | false => rfl
        | true =>
          have := Nat.eq_of_beq_eq_true hb
          subst this
          have := hl 0 s rfl hs
          simp only [Nat.add_zero] at this
          subst this
          simp
  exact go ss 0 fun i s hs ht => by rw [Nat.zero_add]; exact h i s hs ht
theorem Inv.step (hc : chk ops.toList n C.n ds ancs ss draw = true) (hA : AOK P C Γ H ops ds ancs ss 0 ss ops.toList) {L : Nat → Prop} (hL : Closed ops L) {i : Nat} (hi : i < n) (hd : Due ops L i) (hni : ¬ L i)
    {a : Act} {w : World} (h : Inv C Γ H n ds ss L a w) {K : Act → World → Prop} (hK : ∀ a' w', Inv C Γ H n ds ss (fun j => L j ∨ j = i) a' w' → K a' w') : wpOp P ops Q i K a w := by
  simp only [chk, Bool.and_eq_true, decide_eq_true_eq, beq_iff_eq] at hc
  obtain ⟨⟨⟨⟨⟨⟨hsz, hanl⟩, hss⟩, hds⟩, hnd, hndt, htn⟩, hal⟩, hcf⟩ := hc
  have hsz' : n ≤ ops.size := by simpa using hsz
  have ho : ops[i]? = some ops[i] := Array.getElem?_eq_getElem (by omega)
  have hs : ss[i]? = some ss[i] := List.getElem?_eq_getElem (by omega)
  generalize ops[i] = o at ho
  generalize ss[i] = s at hs
  obtain ⟨hdf, hsize, ρ, HD, hsat, hΓ, hleft, hHo, hHD, hHt⟩ := h
  have hk := chkFrom_get hcf i o (by simpa using ho)
  simp only [Nat.zero_add, chkOp, Bool.and_eq_true, List.all_eq_true, if_pos hi] at hk
  obtain ⟨_, ⟨hdst, _⟩, _⟩ := hk
  have lt_n : ∀ (j : Nat) (s' : ASpec), ss[j]? = some s' → j < n := fun j s' hs' => by rw [← hss]; exact (List.getElem?_eq_some_iff.1 hs').1
  have op_at : ∀ j, j < n → ops[j]? = some (ops[j]!) := fun j hj => by rw [getElem!_pos ops j (by omega)]; exact Array.getElem?_eq_getElem (by omega)
  have htn' : ∀ (j : Nat) (s' : ASpec) (id : Nat), ss[j]? = some s' → s'.tn = some id → s'.owns.map (·.1) = [id] ∧ s'.al = none ∧ before (ancs.getD j 0) id ss 0 = true ∧ (∀ q, s'.tv = some q → (ancs.getD j 0).testBit q = true) := by
    intro j s' id hs' hid
    have := tnOk_get htn (by rw [hanl]) j s' _ hs' (by rw [Array.getElem?_toList]; exact op_at j (lt_n j s' hs'))
    rw [hid] at this
    exact ⟨this.1, this.2.1, this.2.2.2⟩
  have hvi : ∀ (j : Nat) (s' : ASpec) (id : Nat), ss[j]? = some s' → s'.tn = some id → s'.vi j = j ∨ (ancs.getD j 0).testBit (s'.vi j) = true := by
    intro j s' id hs' hid
    have := (htn' j s' id hs' hid).2.2.2
    unfold ASpec.vi
    rw [hid]
    cases hv : s'.tv with
    | none => exact .inl rfl
    | some q => exact .inr (this q hv)
  have anc_lt : ∀ k j, k < n → (ancs.getD k 0).testBit j = true → j < k := by
    intro k j hk hb
    have hpre : ∀ j (o : Oper), ops[j]? = some o → ∀ e, e ∈ o.after.toList → Region.binds .any e = true → e.on < j := by
      intro j o hj e he hb
      have hk := chkFrom_get hcf j o (by simpa using hj)
      simp only [Nat.zero_add, chkOp, Bool.and_eq_true, beq_iff_eq, List.all_eq_true] at hk
      have := hk.1.1 e he
      simpa [hb] using this
    exact due_anc (L := fun j => j < k) hcf (fun j o hj ho e he hb => by have := hpre j o ho e he hb; omega) (fun o ho e he hb => hpre k o ho e he hb) (Array.getElem?_eq_getElem (by omega)) hb
  have hoks : ∀ t, okΓ ds ancs (0 + i) t = true → (Γ t).p ρ (slot a t) := by
    intro t ht
    apply hΓ
    intro j hj hLj he
    simp only [okΓ, List.all_eq_true] at ht
    have hjo : j < ops.size := by omega
    have hz : (ds.zip ancs)[j]? = some (ds.getD j 0, ancs.getD j 0) := by
      have hja : j < ancs.length := by have : ops.toList.length = ops.size := by simp
                                       omega
      simp [List.getElem?_zip_eq_some, List.getElem?_eq_getElem hja, List.getElem?_eq_getElem (show j < ds.length by omega)]
    have := ht _ (List.mem_of_getElem? hz)
    simp only [he, bne_self_eq_false, Bool.false_or, Nat.zero_add] at this
    exact hni (closed_anc hcf hL j hLj _ (Array.getElem?_eq_getElem hjo) i this)
  have hanc : ∀ j s', (ancs.getD (0 + i) 0).testBit j = true → ss[j]? = some s' → s'.left ds j ρ a := by
    intro j s' hj hs'
    exact hleft j s' hs' (due_anc hcf hL hd ho (by simpa using hj))
  have hmade : ∀ t r, calm ancs i t ss 0 = true → made ancs ds H a i ss 0 t = some r → r = HD t := by
    intro t r hb hm
    have hno : ∀ k s', ss[k]? = some s' → s'.tn = some t → ¬ L k := by
      intro k s' hs' ht hLk
      rcases calm_get hb k s' hs' ht with h | h
      · rw [Nat.zero_add] at h; exact hni (h ▸ hLk)
      · rw [Nat.zero_add] at h; exact hni (closed_anc hcf hL k hLk _ (op_at k (lt_n k s' hs')) i h)
    rcases made_get hm with ⟨h1, h2⟩ | ⟨j, s', e, h1, h2, h3, h4, h5⟩
    · rw [h1]
      refine (hHo t (fun hx => ?_) hno).symm
      obtain ⟨s', hs', hx⟩ := List.mem_flatMap.1 hx
      obtain ⟨j, hj⟩ := List.getElem?_of_mem hs'
      exact h2 j s' hj hx
    · rw [Nat.zero_add] at h4 h5
      subst h3
      rw [h5]
      exact (hHD j s' e h1 h2 (due_anc hcf hL hd ho h4) hno).symm
  have hsee : ∀ t, seen ss ancs ds H a i t = HD t ∨ seen ss ancs ds H a i t = Res.none := by
    intro t
    unfold seen
    cases hb : calm ancs i t ss 0 with
    | false => exact .inr rfl
    | true =>
      cases hm : made ancs ds H a i ss 0 t with
      | none => exact .inr rfl
      | some r => exact .inl (hmade t r hb hm)
  have g := AOK_get hA i s o hs (by simpa using ho) ρ a w (hsat.less fun t => by rw [Nat.zero_add]; exact hsee t) hsize hoks hanc
  have dsne : ∀ j, j < n → j ≠ i → ds.getD i 0 ≠ ds.getD j 0 := fun j hj hne => ds_apart hcf hsz' hds hi hj (Ne.symm hne)
  have hdsi := hdst
  simp only [Bool.or_eq_true, Bool.and_eq_true, beq_iff_eq, decide_eq_true_eq] at hdsi
  have other : ∀ v t, ds.getD i 0 ≠ t → slot (a.put o.dst v) t = slot a t := fun v t ht => by
    rcases hdsi with ⟨hd, _⟩ | ⟨⟨hd, _⟩, _⟩
    · rw [hd]; exact slot_put_other ht
    · rw [hd]; rfl
  have hdfs : ∀ v, (a.put o.dst v).defers = [] ∧ (a.put o.dst v).tmps.size = C.n := fun v => by
    rcases hdsi with ⟨hd, _⟩ | ⟨⟨hd, _⟩, _⟩
    · rw [hd]; exact ⟨by simpa [Act.put] using hdf, by simpa [Act.put] using hsize⟩
    · rw [hd]; exact ⟨hdf, hsize⟩
  unfold wpOp
  simp only [ho]
  cases hst : s.tn with
  | none =>
    rw [hst] at g
    have hsome := tnOk_get htn (by rw [hanl]) i s o hs (by simpa using ho)
    rw [hst] at hsome
    have hdst' : o.dst = some (ds.getD i 0) ∧ ds.getD i 0 < C.n := by
      rcases hdsi with h | ⟨⟨h, _⟩, _⟩
      · exact h
      · rw [h] at hsome; cases hsome
    have hrel : s.rel = s.R := by unfold ASpec.rel; rw [hst]
    have hmk : s.mk' = s.owns := by unfold ASpec.mk'; rw [hst]
    have hown_in := own_apart_in hnd hs
    rw [hmk] at hown_in
    have h := g Q K (fun v w' m hal' => hK _ _ (by
      have same : slot (a.put o.dst v) (ds.getD i 0) = v := by rw [hdst'.1]; exact slot_put_same (by rw [hsize]; exact hdst'.2)
      refine ⟨(hdfs v).1, (hdfs v).2, ρ.plus (freshX w w' (s.blks v)), grow HD v s.owns, hsat.made m hown_in, ?_, ?_, ?_, ?_, ?_⟩
      · intro t ht
        have h1 := ht i hi (.inr rfl)
        rw [other v t h1]
        exact (Γ t).mono (Heap.le_plus _ _) (hΓ t fun j hj hLj => ht j hj (.inl hLj))
      · intro j s' hs' hj
        have hjn := lt_n j s' hs'
        by_cases hji : j = i
        · subst hji
          rw [hs] at hs'; cases hs'
          refine ⟨by rw [same, hrel]; exact m.rel, fun j' g' hg => ?_⟩
          have hb := alOk_get hal j s j' g' hs hg
          rw [Nat.zero_add] at hb
          have hLj := due_anc hcf hL hd ho hb.1
          rw [same, other v _ (dsne j' (by omega) (fun e => hni (e ▸ hLj)))]
          exact hal' j' g' hg
        · have hLj : L j := hj.resolve_right hji
          have hl := hleft j s' hs' hLj
          refine ⟨by rw [other v _ (dsne j hjn hji)]; exact s'.rel.mono (Heap.le_plus _ _) hl.1, fun j' g' hg => ?_⟩
          have hb := alOk_get hal j s' j' g' hs' hg
          rw [Nat.zero_add] at hb
          have hLj' := closed_anc hcf hL j hLj _ (Array.getElem?_eq_getElem (show j < ops.size by omega)) j' hb.1
          rw [other v _ (dsne j hjn hji), other v _ (dsne j' (by omega) (fun e => hni (e ▸ hLj')))]
          exact hl.2 j' g' hg
      · intro t ht hno
        rw [grow_not]
        · exact hHo t ht fun k s' hs' hk hLk => hno k s' hs' hk (.inl hLk)
        · intro hm
          exact ht (List.mem_flatMap.2 ⟨s, List.mem_of_getElem? hs, by rw [hmk]; exact hm⟩)
      · intro j s' e hs' he hj hno
        have hjn := lt_n j s' hs'
        by_cases hji : j = i
        · subst hji
          rw [hs] at hs'; cases hs'
          rw [same]
          rw [hmk] at he
          exact grow_in hown_in he
        · have hLj : L j := hj.resolve_right hji
          rw [other v _ (dsne j hjn hji), grow_not]
          · exact hHD j s' e hs' he hLj fun k s' hs' hk hLk => hno k s' hs' hk (.inl hLk)
          · intro hm
            obtain ⟨f, hf, hfe⟩ := List.mem_map.1 hm
            exact own_apart hnd hs hs' (Ne.symm hji) (by rw [hmk]; exact hf) he hfe
      · intro j s' id hs' hid hj
        have hjn := lt_n j s' hs'
        have hji : j ≠ i := fun h => by subst h; rw [hs] at hs'; cases hs'; rw [hst] at hid; cases hid
        have hLj : L j := hj.resolve_right hji
        have hvL : L (s'.vi j) ∧ s'.vi j < n ∧ s'.vi j ≠ i := by
          rcases hvi j s' id hs' hid with h | h
          · rw [h]; exact ⟨hLj, hjn, hji⟩
          · have hL' := closed_anc hcf hL j hLj _ (op_at j hjn) _ h
            refine ⟨hL', ?_, fun h' => hni (h' ▸ hL')⟩
            have := anc_lt j _ hjn h
            omega
        rw [other v _ (dsne _ hvL.2.1 hvL.2.2), grow_not]
        · exact hHt j s' id hs' hid hLj
        · intro hm
          have hb := before_get (htn' j s' id hs' hid).2.2.1 i s hs (by rw [hmk]; exact hm)
          rw [Nat.zero_add] at hb
          exact hni (closed_anc hcf hL j hLj _ (op_at j hjn) i hb)))
    split
    · rename_i hw; rw [if_pos hw] at h; exact .inl h
    · rename_i hw
      rw [if_neg hw] at h
      exact h
  | some id =>
    rw [hst] at g
    obtain ⟨hown, hall, hbef, htv⟩ := htn' i s id hs hst
    have htg := tnOk_get htn (by rw [hanl]) i s o hs (by simpa using ho)
    rw [hst] at htg
    have uniq : ∀ (j : Nat) (s' : ASpec), ss[j]? = some s' → s'.tn = some id → j = i := fun j s' hs' hid => tn_apart hndt nodupB_get hs' hs hid hst
    have hHid : seen ss ancs ds H a i id = HD id := by
      have hcl : calm ancs i id ss 0 = true := calm_self uniq
      have hsm := made_some (H := H) (ds := ds) (a := a) hnd (fun h => own_apart_in hnd h) hbef
      unfold seen
      rw [hcl]
      cases hm : made ancs ds H a i ss 0 id with
      | none => rw [hm] at hsm; cases hsm
      | some r => exact hmade id r hcl hm
    have h := g.2 Q K (fun v w' hg hh hb => hK _ _ (by
      rw [Nat.zero_add, hHid] at hg hb
      have sat' := hsat.turn id (w' := w') (r := s.fnv ds a v) hg hh hb
      have up : ∀ t, t ≠ id → updH HD id (s.fnv ds a v) t = HD t := fun t ht => by
        unfold updH
        cases hbq : Nat.beq id t with
        | true => exact absurd (Nat.eq_of_beq_eq_true hbq).symm ht
        | false => rfl
      have up' : updH HD id (s.fnv ds a v) id = s.fnv ds a v := by unfold updH; simp
      refine ⟨(hdfs v).1, (hdfs v).2, ρ, updH HD id (s.fnv ds a v), sat', ?_, ?_, ?_, ?_, ?_⟩
      · intro t ht
        have h1 := ht i hi (.inr rfl)
        rw [other v t h1]
        exact hΓ t fun j hj hLj => ht j hj (.inl hLj)
      · intro j s' hs' hj
        have hjn := lt_n j s' hs'
        by_cases hji : j = i
        · subst hji
          rw [hs] at hs'; cases hs'
          refine ⟨by unfold ASpec.rel; rw [hst]; trivial, fun j' g' hg => ?_⟩
          rw [hall] at hg; cases hg
        · have hLj : L j := hj.resolve_right hji
          have hl := hleft j s' hs' hLj
          refine ⟨by rw [other v _ (dsne j hjn hji)]; exact hl.1, fun j' g' hg => ?_⟩
          have hb := alOk_get hal j s' j' g' hs' hg
          rw [Nat.zero_add] at hb
          have hLj' := closed_anc hcf hL j hLj _ (Array.getElem?_eq_getElem (show j < ops.size by omega)) j' hb.1
          rw [other v _ (dsne j hjn hji), other v _ (dsne j' (by omega) (fun e => hni (e ▸ hLj')))]
          exact hl.2 j' g' hg
      · intro t ht hno
        rw [up t (fun h => hno i s hs (by rw [h]; exact hst) (.inr rfl))]
        exact hHo t ht fun k s' hs' hk hLk => hno k s' hs' hk (.inl hLk)
      · intro j s' e hs' he hj hno
        have hjn := lt_n j s' hs'
        by_cases hji : j = i
        · subst hji
          rw [hs] at hs'; cases hs'
          unfold ASpec.mk' at he
          rw [hst] at he; cases he
        · have hLj : L j := hj.resolve_right hji
          rw [other v _ (dsne j hjn hji), up _ (fun h => hno i s hs (by rw [h]; exact hst) (.inr rfl))]
          exact hHD j s' e hs' he hLj fun k s' hs' hk hLk => hno k s' hs' hk (.inl hLk)
      · intro j s' id' hs' hid' hj
        have hjn := lt_n j s' hs'
        by_cases hji : j = i
        · subst hji
          rw [hs] at hs'; cases hs'
          rw [hst] at hid'; cases hid'
          rw [up']
          unfold ASpec.vi
          rw [hst]
          cases hv : s.tv with
          | some q =>
            have hq := htv q hv
            have hLq := due_anc hcf hL hd ho hq
            have hqn : q < n := by have := anc_lt j q hjn hq; omega
            simp only []
            rw [other v _ (dsne q hqn (fun e => hni (e ▸ hLq)))]
            unfold ASpec.fnv
            rw [hv]
          | none =>
          have hfn : ∀ v, s.fnv ds a v = s.fn v := fun v => by unfold ASpec.fnv; rw [hv]
          have hg1 := g.1
          simp only [hfn] at hg1 ⊢
          rcases hdsi with ⟨hd1, hd2⟩ | ⟨⟨hd1, hd2⟩, _⟩
          · rw [hd1, slot_put_same (by rw [hsize]; exact hd2)]
          · rw [hg1 hd1 v, hd1]
            have : slot (a.put none v) (ds.getD j 0) = undef := by
              show slot a (ds.getD j 0) = undef
              unfold slot
              rw [Array.getD_eq_getD_getElem?, Array.getElem?_eq_none (by rw [hsize]; exact hd2)]
              rfl
            rw [this]
        · have hLj : L j := hj.resolve_right hji
          have hvL : L (s'.vi j) ∧ s'.vi j < n ∧ s'.vi j ≠ i := by
            rcases hvi j s' id' hs' hid' with h | h
            · rw [h]; exact ⟨hLj, hjn, hji⟩
            · have hL' := closed_anc hcf hL j hLj _ (op_at j hjn) _ h
              refine ⟨hL', ?_, fun h' => hni (h' ▸ hL')⟩
              have := anc_lt j _ hjn h
              omega
          rw [other v _ (dsne _ hvL.2.1 hvL.2.2), up]
          · exact hHt j s' id' hs' hid' hLj
          · intro heq
            subst heq
            exact hji (uniq j s' hs' hid')))
    have hw : Region.wanted o (yielded ops a.tmps) = true := by unfold Region.wanted; rw [htg.2.2.1]
    rw [if_pos hw]
    exact .inl h

theorem Closed.more {L : Nat → Prop} (hL : Closed ops L) {i : Nat} (hd : Due ops L i) : Closed ops (fun j => L j ∨ j = i) := by
  intro j o hj ho e he hb
  rcases hj with hj | rfl
  · exact .inl (hL j o hj ho e he hb)
  · exact .inl (hd o ho e he hb)

/-- In the order of the text. -/
theorem inv_list (hc : chk ops.toList n C.n ds ancs ss draw = true) (hA : AOK P C Γ H ops ds ancs ss 0 ss ops.toList)
    (hB : ∀ a w, Inv C Γ H n ds ss (fun j => j < n) a w → wpList P ops Q (ops.toList.drop n) a w) :
    ∀ d m a w, m + d = n → Inv C Γ H n ds ss (fun j => j < m) a w → wpList P ops Q (ops.toList.drop m) a w := by
  have hc' := hc
  simp only [chk, Bool.and_eq_true, decide_eq_true_eq, beq_iff_eq] at hc'
  obtain ⟨⟨⟨⟨⟨⟨hsz, hanl⟩, hss⟩, hds⟩, hnd, hndt, htn⟩, hal⟩, hcf⟩ := hc'
  intro d
  induction d with
  | zero => intro m a w hm h; obtain rfl : m = n := by omega
            exact hB a w h
  | succ d ih =>
    intro m a w hm h
    have hms : m < ops.toList.length := by omega
    rw [List.drop_eq_getElem_cons hms]
    have ho : ops[m]? = some ops.toList[m] := by rw [← Array.getElem?_toList]; exact List.getElem?_eq_getElem hms
    have hpre : ∀ j (o : Oper), ops[j]? = some o → ∀ e, e ∈ o.after.toList → Region.binds .any e = true → e.on < j := by
      intro j o hj e he hb
      have hk := chkFrom_get hcf j o (by simpa using hj)
      simp only [Nat.zero_add, chkOp, Bool.and_eq_true, beq_iff_eq, List.all_eq_true] at hk
      have := hk.1.1 e he
      simpa [hb] using this
    have hst := Inv.step (Q := Q) (i := m) hc hA (L := fun j => j < m) (fun j o hj ho' e he hb => by have := hpre j o ho' e he hb; omega) (by omega) (fun o ho' e he hb => hpre m o ho' e he hb) (by omega) h
      (K := wpList P ops Q (ops.toList.drop (m + 1))) (fun a' w' hi => ih (m + 1) a' w' (by omega) (by
        have : (fun j => j < m ∨ j = m) = fun j => j < m + 1 := by funext j; apply propext; omega
        rwa [this] at hi))
    unfold wpOp at hst
    simp only [ho] at hst
    unfold wpList
    exact hst

theorem wpOp_list {m : Nat} {o : Oper} (ho : ops[m]? = some o) {l : List Oper} {a : Act} {w : World} (h : wpList P ops Q (o :: l) a w) : wpOp P ops Q m (wpList P ops Q l) a w := by
  unfold wpOp
  simp only [ho]
  exact h

theorem mem_ready {md : Region.Mode} {L : Array Bool} {i : Nat} (h : i ∈ Region.ready md ops L) :
    i < ops.size ∧ L.getD i true = false ∧ ∀ (o : Oper), ops[i]? = some o → ∀ e, e ∈ o.after.toList → Region.binds md e = true → L.getD e.on false = true := by
  simp only [Region.ready, List.mem_filter, List.mem_range, Bool.and_eq_true, Bool.not_eq_true'] at h
  refine ⟨h.1, h.2.1, fun o ho e he hb => ?_⟩
  have h2 := h.2.2
  rw [ho] at h2
  simp only [Option.map_some, Option.getD_some, Array.all_eq_true'] at h2
  have := h2 e (by simpa using he)
  simpa [hb] using this
theorem ready_of {md : Region.Mode} {L : Array Bool} {i : Nat} (hi : i < ops.size) (hL : L.getD i true = false) (h : ∀ (o : Oper), ops[i]? = some o → ∀ e, e ∈ o.after.toList → Region.binds md e = true → L.getD e.on false = true) :
    i ∈ Region.ready md ops L := by
  simp only [Region.ready, List.mem_filter, List.mem_range, Bool.and_eq_true, Bool.not_eq_true']
  refine ⟨hi, hL, ?_⟩
  rw [Array.getElem?_eq_getElem hi]
  simp only [Option.map_some, Option.getD_some, Array.all_eq_true']
  intro e he
  cases hb : Region.binds md e with
  | false => rfl
  | true => simpa using h _ (Array.getElem?_eq_getElem hi) e (by simpa using he) hb

theorem countP_set {i : Nat} {p q : Nat → Bool} (hp : p i = true) (hq : q i = false) (h : ∀ j, j ≠ i → p j = q j) : ∀ k, (List.range k).countP q + (if i < k then 1 else 0) = (List.range k).countP p
  | 0 => rfl
  | k + 1 => by
    have ih := countP_set hp hq h k
    rw [List.range_succ, List.countP_append, List.countP_append]
    simp only [List.countP_singleton]
    by_cases hk : k = i
    · subst hk
      simp only [hp, hq, Nat.lt_irrefl, if_false, if_true, Nat.lt_succ_self] at *
      simp at *
      omega
    · rw [h k hk]
      by_cases hik : i < k
      · rw [if_pos hik] at ih; rw [if_pos (show i < k + 1 by omega)]; omega
      · rw [if_neg hik] at ih; rw [if_neg (show ¬ i < k + 1 by omega)]; omega

theorem getD_set_true {L : Array Bool} {i : Nat} (hi : i < L.size) (j : Nat) (d : Bool) : (L.setIfInBounds i true).getD j d = if j = i then true else L.getD j d := by
  rw [Array.getD_eq_getD_getElem?, Array.getD_eq_getD_getElem?, Array.getElem?_setIfInBounds]
  by_cases h : i = j
  · subst h; simp [hi]
  · rw [if_neg h, if_neg (Ne.symm h)]

theorem inv_B (hc : chk ops.toList n C.n ds ancs ss true = true) : ∀ fuel m (L : Array Bool) a w, L.size = ops.size → (∀ j, j < ops.size → (L.getD j true = true ↔ j < m)) → m + fuel = ops.size → n ≤ m →
    wpList P ops Q (ops.toList.drop m) a w → wpAny P .any ops Q fuel L a w := by
  have hc' := hc
  simp only [chk, Bool.and_eq_true, decide_eq_true_eq, beq_iff_eq] at hc'
  obtain ⟨⟨⟨⟨⟨⟨hsz, hanl⟩, hss⟩, hds⟩, hnd, hndt, htn⟩, hal⟩, hcf⟩ := hc'
  intro fuel
  induction fuel with
  | zero =>
    intro m L a w hLs hL hm hnm h
    rw [List.drop_eq_nil_of_le (by simp; omega)] at h
    refine ⟨?_, h⟩
    rw [List.eq_nil_iff_forall_not_mem]
    intro i hi
    obtain ⟨h1, h2, _⟩ := mem_ready hi
    have := (hL i h1).2 (by omega)
    rw [this] at h2; cases h2
  | succ fuel ih =>
    intro m L a w hLs hL hm hnm h
    have hms : m < ops.size := by omega
    have LD : ∀ j, j < ops.size → L.getD j false = L.getD j true := fun j hj => by
      simp [Array.getD_eq_getD_getElem?, Array.getElem?_eq_getElem (show j < L.size by omega)]
    have hpre : ∀ j (o : Oper), ops[j]? = some o → ∀ e, e ∈ o.after.toList → Region.binds .any e = true → e.on < j := by
      intro j o hj e he hb
      have hk := chkFrom_get hcf j o (by simpa using hj)
      simp only [Nat.zero_add, chkOp, Bool.and_eq_true, beq_iff_eq, List.all_eq_true] at hk
      have := hk.1.1 e he
      simpa [hb] using this
    refine ⟨fun hr => ?_, fun i hi => ?_⟩
    · exfalso
      have : m ∈ Region.ready .any ops L := ready_of hms (by
          cases hx : L.getD m true with
          | false => rfl
          | true => have := (hL m hms).1 hx; omega) (fun o ho e he hb => by
          have hlt := hpre m o ho e he hb
          rw [LD _ (by omega)]
          exact (hL _ (by omega)).2 hlt)
      rw [hr] at this; cases this
    · obtain ⟨h1, h2, h3⟩ := mem_ready hi
      have hmi : m ≤ i := by
        rcases Nat.lt_or_ge i m with hlt | hge
        · have := (hL i h1).2 hlt; rw [this] at h2; cases h2
        · exact hge
      have ho : ops[i]? = some ops[i] := Array.getElem?_eq_getElem h1
      have him : i = m := by
        rcases Nat.lt_or_ge m i with hlt | hge
        · exfalso
          have hk := chkFrom_get hcf i ops[i] (by rw [Array.getElem?_toList]; exact ho)
          simp only [Nat.zero_add, chkOp, Bool.and_eq_true, beq_iff_eq, List.all_eq_true, if_neg (show ¬ i < n by omega), Bool.not_true, Bool.false_or, Bool.or_eq_true] at hk
          have hb : (ancs.getD i 0).testBit (i - 1) = true := by
            rcases hk.2.2 with h | h
            · omega
            · exact h
          have hcl : Closed ops (fun j => j < m) := fun j o hj ho' e he hb => by have := hpre j o ho' e he hb; omega
          have hdue : Due ops (fun j => j < m) i := fun o ho' e he hb => by
            have hlt' := hpre i o ho' e he hb
            have := h3 o ho' e he hb
            rw [LD _ (by omega)] at this
            exact (hL _ (by omega)).1 this
          have := due_anc (n := n) (draw := true) hcf hcl hdue ho hb
          omega
        · omega
      subst him
      rw [List.drop_eq_getElem_cons (by simpa using h1)] at h
      refine wpOp_mono ?_ (wpOp_list (by simp) h)
      intro a' w' h'
      refine ih (i + 1) _ a' w' (by simpa using hLs) (fun j hj => ?_) (by omega) (by omega) h'
      rw [getD_set_true (by omega)]
      by_cases hj' : j = i
      · subst hj'; simp
      · rw [if_neg hj', hL j hj]; omega

theorem inv_any (hc : chk ops.toList n C.n ds ancs ss true = true) (hA : AOK P C Γ H ops ds ancs ss 0 ss ops.toList)
    (hB : ∀ a w, Inv C Γ H n ds ss (fun j => j < n) a w → wpList P ops Q (ops.toList.drop n) a w) :
    ∀ fuel (L : Array Bool) a w, L.size = ops.size → (∀ j, n ≤ j → j < ops.size → L.getD j true = false) → Closed ops (fun j => j < ops.size ∧ L.getD j true = true) →
      (List.range ops.size).countP (fun j => !L.getD j true) = fuel → Inv C Γ H n ds ss (fun j => j < ops.size ∧ L.getD j true = true) a w → wpAny P .any ops Q fuel L a w := by
  have hc' := hc
  simp only [chk, Bool.and_eq_true, decide_eq_true_eq, beq_iff_eq] at hc'
  obtain ⟨⟨⟨⟨⟨⟨hsz, hanl⟩, hss⟩, hds⟩, hnd, hndt, htn⟩, hal⟩, hcf⟩ := hc'
  have hsz' : n ≤ ops.size := by simpa using hsz
  have hpre : ∀ j (o : Oper), ops[j]? = some o → ∀ e, e ∈ o.after.toList → Region.binds .any e = true → e.on < j := by
    intro j o hj e he hb
    have hk := chkFrom_get hcf j o (by simpa using hj)
    simp only [Nat.zero_add, chkOp, Bool.and_eq_true, beq_iff_eq, List.all_eq_true] at hk
    have := hk.1.1 e he
    simpa [hb] using this
  have toB : ∀ fuel (L : Array Bool) a w, L.size = ops.size → (∀ j, n ≤ j → j < ops.size → L.getD j true = false) → (∀ j, j < n → L.getD j true = true) →
      (List.range ops.size).countP (fun j => !L.getD j true) = fuel → Inv C Γ H n ds ss (fun j => j < ops.size ∧ L.getD j true = true) a w → wpAny P .any ops Q fuel L a w := by
    intro fuel L a w hLs hno hall hcnt h
    have heq : (fun j => j < ops.size ∧ L.getD j true = true) = fun j => j < n := by
      funext j; apply propext
      constructor
      · rintro ⟨h1, h2⟩
        rcases Nat.lt_or_ge j n with h | h
        · exact h
        · rw [hno j h h1] at h2; cases h2
      · intro h; exact ⟨by omega, hall j h⟩
    rw [heq] at h
    refine inv_B hc fuel n L a w hLs (fun j hj => ?_) ?_ (Nat.le_refl _) (hB a w h)
    · have := congrFun heq j
      simp only [hj, true_and] at this
      exact Iff.of_eq this
    · have key : ∀ k, k ≤ ops.size → (List.range k).countP (fun j => !L.getD j true) = k - n := by
        intro k
        induction k with
        | zero => intro _; simp
        | succ k ih =>
          intro hk
          rw [List.range_succ, List.countP_append, ih (by omega), List.countP_singleton]
          rcases Nat.lt_or_ge k n with h | h
          · rw [hall k h]; simp; omega
          · rw [hno k h (by omega)]; simp; omega
      have := key ops.size (Nat.le_refl _)
      omega
  intro fuel
  induction fuel with
  | zero =>
    intro L a w hLs hno hcl hcnt h
    refine toB 0 L a w hLs hno (fun j hj => ?_) hcnt h
    have := List.countP_eq_zero.1 hcnt j (by simp; omega)
    simpa using this
  | succ fuel ih =>
    intro L a w hLs hno hcl hcnt h
    by_cases hall : ∀ j, j < n → L.getD j true = true
    · exact toB _ L a w hLs hno hall hcnt h
    · have LD : ∀ j, j < ops.size → L.getD j false = L.getD j true := fun j hj => by
        simp [Array.getD_eq_getD_getElem?, Array.getElem?_eq_getElem (show j < L.size by omega)]
      have low : ∀ i, i ∈ Region.ready .any ops L → i < n := by
        intro i hi
        obtain ⟨h1, h2, h3⟩ := mem_ready hi
        rcases Nat.lt_or_ge i n with hlt | hge
        · exact hlt
        · exfalso
          apply hall
          intro j hj
          have ho : ops[i]? = some ops[i] := Array.getElem?_eq_getElem h1
          have hk := chkFrom_get hcf i ops[i] (by rw [Array.getElem?_toList]; exact ho)
          simp only [Nat.zero_add, chkOp, Bool.and_eq_true, beq_iff_eq, List.all_eq_true, if_neg (show ¬ i < n by omega), Bool.not_true, Bool.false_or, Bool.or_eq_true] at hk
          have hb : (ancs.getD i 0).testBit j = true := by
            rw [← hk.2.1, Nat.testBit_or]
            have : (2 ^ n - 1).testBit j = true := by rw [Nat.testBit_two_pow_sub_one]; simpa using hj
            rw [this]; simp
          have hdue : Due ops (fun j => j < ops.size ∧ L.getD j true = true) i := fun o ho' e he hb => by
            have hlt' := hpre i o ho' e he hb
            have := h3 o ho' e he hb
            rw [LD _ (by omega)] at this
            exact ⟨by omega, this⟩
          exact (due_anc (n := n) (draw := true) hcf hcl hdue ho hb).2
      refine ⟨fun hr => ?_, fun i hi => ?_⟩
      · exfalso
        -- the least that is not done is ready
        have : ∃ j, j < n ∧ L.getD j true = false ∧ ∀ k, k < j → L.getD k true = true := by
          have hex : ∃ j, j < n ∧ L.getD j true = false := by
            simp only [Classical.not_forall] at hall
            obtain ⟨j, hj, hx⟩ := hall
            exact ⟨j, hj, by simpa using hx⟩
          have key : ∀ m, (∃ j, j < m ∧ j < n ∧ L.getD j true = false) → ∃ j, j < n ∧ L.getD j true = false ∧ ∀ k, k < j → L.getD k true = true := by
            intro m
            induction m with
            | zero => rintro ⟨j, hj, _⟩; omega
            | succ m ihm =>
              rintro ⟨j, hj, hjn, hx⟩
              by_cases hb : ∃ j, j < m ∧ j < n ∧ L.getD j true = false
              · exact ihm hb
              · refine ⟨j, hjn, hx, fun k hk => ?_⟩
                cases hy : L.getD k true with
                | true => rfl
                | false => exact absurd ⟨k, by omega, by omega, hy⟩ hb
          obtain ⟨j, hj, hx⟩ := hex
          exact key (j + 1) ⟨j, by omega, hj, hx⟩
        obtain ⟨j, hj, hx, hlow⟩ := this
        have hm : j ∈ Region.ready .any ops L := ready_of (by omega) hx (fun o ho e he hb => by
          have := hpre j o ho e he hb
          rw [LD _ (by omega)]
          exact hlow _ this)
        rw [hr] at hm; cases hm
      · have hin := low i hi
        obtain ⟨h1, h2, h3⟩ := mem_ready hi
        have hdue : Due ops (fun j => j < ops.size ∧ L.getD j true = true) i := fun o ho' e he hb => by
          have hlt' := hpre i o ho' e he hb
          have := h3 o ho' e he hb
          rw [LD _ (by omega)] at this
          exact ⟨by omega, this⟩
        have heq : (fun j => (j < ops.size ∧ L.getD j true = true) ∨ j = i) = fun j => j < ops.size ∧ (L.setIfInBounds i true).getD j true = true := by
          funext j; apply propext
          rw [getD_set_true (by omega)]
          by_cases hj : j = i
          · subst hj; simp [h1]
          · simp [hj]
        refine Inv.step hc hA hcl hin hdue (fun hx => by rw [h2] at hx; cases hx.2) h (fun a' w' h' => ?_)
        rw [heq] at h'
        refine ih _ a' w' (by simpa using hLs) (fun j hj hjs => ?_) (heq ▸ hcl.more hdue) ?_ h'
        · rw [getD_set_true (by omega), if_neg (by omega)]; exact hno j hj hjs
        · have := countP_set (i := i) (p := fun j => !L.getD j true) (q := fun j => !(L.setIfInBounds i true).getD j true) (by simp [h2]) (by simp [getD_set_true (show i < L.size by omega)])
            (fun j hj => by simp only [getD_set_true (show i < L.size by omega), if_neg hj]) ops.size
          rw [if_pos h1] at this
          omega
end

/-! ### Behind the region -/
def ASpec.at (s : ASpec) (ds : List Nat) (vs : Nat → Value) (i : Nat) : SRel :=
  match s.al with
  | some (j, g) => SRel.eq (g (vs j))
  | none => match s.owns with
    | [] => s.rel
    | _ => ⟨fun ρ v => v = vs i ∧ s.rel.p ρ v, fun h ⟨e, r⟩ => ⟨e, s.rel.mono h r⟩⟩
def aft (Γ : Nat → SRel) (all : List Nat) (vs : Nat → Value) : List Nat → List ASpec → Nat → Nat → SRel
  | d :: ds, s :: ss, i => fun t => match Nat.beq d t with | true => s.at all vs i | false => aft Γ all vs ds ss (i + 1) t
  | _, _, _ => Γ
def haftO (H : Nat → Res) (u : Value) : List (Nat × (Value → Res)) → Nat → Res
  | [] => H
  | e :: l => fun t => match Nat.beq e.1 t with | true => e.2 u | false => haftO H u l t
def haft (H : Nat → Res) (vs : Nat → Value) : List ASpec → Nat → Nat → Res
  | s :: ss, i => haft (haftO H (vs (s.vi i)) s.owns) vs ss (i + 1)
  | [], _ => H

theorem aft_cases {Γ : Nat → SRel} {all : List Nat} {vs : Nat → Value} : ∀ {ds : List Nat} {ss : List ASpec} {i t : Nat}, ds.length = ss.length →
    (∃ (j : Nat) (s : ASpec), ss[j]? = some s ∧ ds.getD j 0 = t ∧ aft Γ all vs ds ss i t = s.at all vs (i + j)) ∨ ((∀ j, j < ds.length → ds.getD j 0 ≠ t) ∧ aft Γ all vs ds ss i t = Γ t)
  | [], [], i, t, _ => .inr ⟨fun j hj => by simp at hj, rfl⟩
  | d :: ds, s :: ss, i, t, h => by
    simp only [aft]
    cases hb : Nat.beq d t with
    | true => exact .inl ⟨0, s, rfl, Nat.eq_of_beq_eq_true hb, rfl⟩
    | false =>
      rcases aft_cases (Γ := Γ) (all := all) (vs := vs) (ds := ds) (ss := ss) (i := i + 1) (t := t) (by simpa using h) with ⟨j, s', h1, h2, h3⟩ | ⟨h1, h2⟩
      · exact .inl ⟨j + 1, s', by simpa using h1, by simpa using h2, by rw [show i + (j + 1) = i + 1 + j by omega]; exact h3⟩
      · refine .inr ⟨fun j hj => ?_, h2⟩
        cases j with
        | zero => simp; exact Nat.ne_of_beq_eq_false hb
        | succ j => have := h1 j (by simpa using hj); simpa using this
theorem haftO_cases {H : Nat → Res} {u : Value} : ∀ {l : List (Nat × (Value → Res))} {t : Nat}, (∃ e ∈ l, e.1 = t ∧ haftO H u l t = e.2 u) ∨ (t ∉ l.map (·.1) ∧ haftO H u l t = H t)
  | [], t => .inr ⟨by simp, rfl⟩
  | e :: l, t => by
    simp only [haftO]
    cases hb : Nat.beq e.1 t with
    | true => exact .inl ⟨e, by simp, Nat.eq_of_beq_eq_true hb, rfl⟩
    | false =>
      rcases haftO_cases (H := H) (u := u) (l := l) (t := t) with ⟨f, h1, h2, h3⟩ | ⟨h1, h2⟩
      · exact .inl ⟨f, by simp [h1], h2, h3⟩
      · refine .inr ⟨?_, h2⟩
        rw [List.map_cons, List.mem_cons, not_or]
        exact ⟨fun h => Nat.ne_of_beq_eq_false hb h.symm, h1⟩
theorem haft_cases {vs : Nat → Value} : ∀ {ss : List ASpec} {H : Nat → Res} {i t : Nat},
    (∃ (j : Nat) (s : ASpec) (e : Nat × (Value → Res)), ss[j]? = some s ∧ e ∈ s.owns ∧ e.1 = t ∧ (∀ (k : Nat) (s' : ASpec), j < k → ss[k]? = some s' → t ∉ s'.owns.map (·.1)) ∧ haft H vs ss i t = e.2 (vs (s.vi (i + j)))) ∨
      ((∀ (k : Nat) (s' : ASpec), ss[k]? = some s' → t ∉ s'.owns.map (·.1)) ∧ haft H vs ss i t = H t)
  | [], H, i, t => .inr ⟨fun k s' h => by simp at h, rfl⟩
  | s :: ss, H, i, t => by
    simp only [haft]
    rcases haft_cases (H := haftO H (vs (s.vi i)) s.owns) (vs := vs) (ss := ss) (i := i + 1) (t := t) with ⟨j, s', e, k1, k2, k3, k4, k5⟩ | ⟨k1, k2⟩
    · refine .inl ⟨j + 1, s', e, by simpa using k1, k2, k3, fun k s'' hk hs'' => ?_, by rw [k5, show i + (j + 1) = i + 1 + j by omega]⟩
      cases k with
      | zero => omega
      | succ k => exact k4 k s'' (by omega) (by simpa using hs'')
    · rcases haftO_cases (H := H) (u := vs (s.vi i)) (l := s.owns) (t := t) with ⟨e, h1, h2, h3⟩ | ⟨h1, h2⟩
      · refine .inl ⟨0, s, e, rfl, h1, h2, fun k s'' hk hs'' => ?_, by rw [k2, h3]; rfl⟩
        cases k with
        | zero => omega
        | succ k => exact k1 k s'' (by simpa using hs'')
      · refine .inr ⟨fun k s'' hs'' => ?_, by rw [k2, h2]⟩
        cases k with
        | zero => simp at hs''; subst hs''; exact h1
        | succ k => exact k1 k s'' (by simpa using hs'')

theorem T.region {P : Program} {C : Ctx} {Γ : Nat → SRel} {H : Nat → Res} {Q : Exit → Act → World → Prop} {id : Nat} {ops : Array Oper} {draw : Bool} (hm : P.follows .mixedOrders = true)
    (n : Nat) (ds ancs : List Nat) (ss : List ASpec) (hc : chk ops.toList n C.n ds ancs ss draw = true) (hA : AOK P C Γ H ops ds ancs ss 0 ss ops.toList)
    (k : ∀ vs, T C (aft Γ ds vs ds ss 0) (haft H vs ss 0) (wpList P ops Q (ops.toList.drop n))) : T C Γ H ((Code.region id ops draw).wp P Q) := by
  intro ρ a w st
  have hc' := hc
  simp only [chk, Bool.and_eq_true, decide_eq_true_eq, beq_iff_eq] at hc'
  obtain ⟨⟨⟨⟨⟨⟨hsz, hanl⟩, hss⟩, hds⟩, hnd, hndt, htn⟩, hal⟩, hcf⟩ := hc'
  have hB : ∀ a w, Inv C Γ H n ds ss (fun j => j < n) a w → wpList P ops Q (ops.toList.drop n) a w := by
    rintro a w ⟨hdf, hsize, ρ, HD, hsat, hΓ, hleft, hHo, hHD, hHt⟩
    have lt_n : ∀ (j : Nat) (s' : ASpec), ss[j]? = some s' → j < n := fun j s' hs' => by rw [← hss]; exact (List.getElem?_eq_some_iff.1 hs').1
    have hsz' : n ≤ ops.size := by simpa using hsz
    have tnown : ∀ (k : Nat) (s' : ASpec) (id : Nat), ss[k]? = some s' → s'.tn = some id → s'.owns.map (·.1) = [id] ∧ before (ancs.getD k 0) id ss 0 = true := by
      intro k s' id hs' hid
      have hk := lt_n k s' hs'
      have := tnOk_get htn (by rw [hanl]) k s' ops[k] hs' (by rw [Array.getElem?_toList]; exact Array.getElem?_eq_getElem (by omega))
      rw [hid] at this
      exact ⟨this.1, this.2.2.2.1⟩
    have anc_lt : ∀ k j, k < n → (ancs.getD k 0).testBit j = true → j < k := by
      intro k j hk hb
      have hpre : ∀ j (o : Oper), ops[j]? = some o → ∀ e, e ∈ o.after.toList → Region.binds .any e = true → e.on < j := by
        intro j o hj e he hb
        have hk := chkFrom_get hcf j o (by simpa using hj)
        simp only [Nat.zero_add, chkOp, Bool.and_eq_true, beq_iff_eq, List.all_eq_true] at hk
        have := hk.1.1 e he
        simpa [hb] using this
      exact due_anc (L := fun j => j < k) hcf (fun j o hj ho e he hb => by have := hpre j o ho e he hb; omega) (fun o ho e he hb => hpre k o ho e he hb) (Array.getElem?_eq_getElem (by omega)) hb
    have hH : haft H (fun i => slot a (ds.getD i 0)) ss 0 = HD := by
      funext t
      rcases haft_cases (H := H) (vs := fun i => slot a (ds.getD i 0)) (ss := ss) (i := 0) (t := t) with ⟨j, s, e, h1, h2, h3, hl, h4⟩ | ⟨h1, h2⟩
      · rw [h4, Nat.zero_add]
        cases hst : s.tn with
        | some id =>
          obtain ⟨ho1, _⟩ := tnown j s id h1 hst
          have hc := hHt j s id h1 hst (lt_n j s h1)
          have : e.1 ∈ s.owns.map (·.1) := List.mem_map.2 ⟨e, h2, rfl⟩
          rw [ho1] at this
          have hid : e.1 = id := by simpa using this
          rw [← h3, hid, hc]
          unfold ASpec.fn
          match hq : s.owns, ho1 with
          | [e0], _ => rw [hq] at h2; simp at h2; subst h2; rfl
        | none =>
          have hmk : s.mk' = s.owns := by unfold ASpec.mk'; rw [hst]
          have hvi : s.vi j = j := by unfold ASpec.vi; rw [hst]
          rw [← h3, hvi]
          refine (hHD j s e h1 (by rw [hmk]; exact h2) (lt_n j s h1) fun k s' hs' hk _ => ?_).symm
          obtain ⟨ho1, hb⟩ := tnown k s' _ hs' hk
          have hb := before_get hb j s h1 (by rw [hmk]; exact List.mem_map.2 ⟨e, h2, rfl⟩)
          rw [Nat.zero_add] at hb
          have := anc_lt k j (lt_n k s' hs') hb
          exact hl k s' this hs' (by rw [ho1, ← h3]; simp)
      · rw [h2]
        refine (hHo t (fun hx => ?_) fun k s' hs' hk _ => h1 k s' hs' (by rw [(tnown k s' t hs' hk).1]; simp)).symm
        obtain ⟨s, hs, hx⟩ := List.mem_flatMap.1 hx
        obtain ⟨j, hj⟩ := List.getElem?_of_mem hs
        refine h1 j s hj ?_
        unfold ASpec.mk' at hx
        cases hst : s.tn with
        | none => rw [hst] at hx; exact hx
        | some id => rw [hst] at hx; simp at hx
    refine k (fun i => slot a (ds.getD i 0)) ρ a w ⟨hdf, hsize, fun t => ?_, by rw [hH]; exact hsat⟩
    rcases aft_cases (Γ := Γ) (all := ds) (vs := fun i => slot a (ds.getD i 0)) (ds := ds) (ss := ss) (i := 0) (t := t) (by omega) with ⟨j, s, h1, h2, h3⟩ | ⟨h1, h2⟩
    · rw [h3, Nat.zero_add]
      have hl := hleft j s h1 (by rw [← hss]; exact (List.getElem?_eq_some_iff.1 h1).1)
      unfold ASpec.left at hl
      rw [h2] at hl
      unfold ASpec.at
      cases hal : s.al with
      | some p => obtain ⟨j', g⟩ := p; exact hl.2 j' g hal
      | none =>
        simp only []
        split
        · exact hl.1
        · exact ⟨by simp only [h2]; rfl, hl.1⟩
    · rw [h2]
      exact hΓ t fun j hj _ => h1 j (by omega)
  have start : Inv C Γ H n ds ss (fun _ => False) a w := ⟨st.defers, st.size, ρ, H, st.sat, fun t _ => st.env t, fun _ _ _ h => h.elim, fun _ _ _ => rfl, fun _ _ _ _ _ h => h.elim, fun _ _ _ _ _ h => h.elim⟩
  cases draw with
  | false =>
    refine wp_region_list ?_
    have := inv_list hc hA hB n 0 a w (by omega) (by
      have : (fun j => j < 0) = fun _ : Nat => False := by funext j; simp
      rw [this]; exact start)
    simpa using this
  | true =>
    refine wp_region_any hm ?_
    have hrep : ∀ j, (Array.replicate ops.size false).getD j true = (decide (ops.size ≤ j)) := fun j => by
      rw [Array.getD_eq_getD_getElem?, Array.getElem?_replicate]
      split <;> simp <;> omega
    have heq : (fun j => j < ops.size ∧ (Array.replicate ops.size false).getD j true = true) = fun _ => False := by
      funext j; apply propext; rw [hrep]; simp
    refine inv_any hc hA hB ops.size _ a _ (by simp) (fun j _ hj => by rw [hrep]; simpa using hj) (by rw [heq]; exact fun _ _ h => h.elim) ?_ ?_
    · have key : ∀ k, k ≤ ops.size → (List.range k).countP (fun j => !(Array.replicate ops.size false).getD j true) = k := by
        intro k
        induction k with
        | zero => intro _; rfl
        | succ k ih =>
          intro hk
          rw [List.range_succ, List.countP_append, ih (by omega), List.countP_singleton, hrep]
          simp; omega
      exact key _ (Nat.le_refl _)
    · rw [heq]
      obtain ⟨h1, h2, ρ', HD, h3, h4⟩ := start
      exact ⟨h1, h2, ρ', HD, ⟨h3.le, h3.ok, h3.apart, h3.mine, h3.fr.trans (BelowX.drawn _ _ _), h3.lim, h3.sle⟩, h4⟩
end Go.Proofs.Ytnpkhhfpgedkoaa
