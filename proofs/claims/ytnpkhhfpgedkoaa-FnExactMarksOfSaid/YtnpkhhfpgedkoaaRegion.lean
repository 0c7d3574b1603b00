/-
  A region of operations, in whatever order its edges allow: each operation is shown once, out of what those before it in every order have left.
-/
import Derived.Test.YtnpkhhfpgedkoaaBase
set_option linter.unusedVariables false
set_option linter.unusedSimpArgs false
namespace Go.Proofs.Ytnpkhhfpgedkoaa
open Go

/-- What an operation leaves in its slot. -/
structure ASpec where
  R : SRel
  owns : List (Nat × (Value → Res)) := []
  al : Option (Nat × (Value → Value)) := none
def ASpec.blks (s : ASpec) (v : Value) : List Nat := s.owns.filterMap fun e => (e.2 v).blk
def freshX (w w' : World) (bs : List Nat) : Heap := fun b => if b < w.heap.size then none else if b ∈ bs then none else w'.heap[b]?
theorem freshX_nil (w w' : World) : freshX w w' [] = fresh w w' := by funext b; simp [freshX, fresh]

def slot (a : Act) (t : Nat) : Value := a.tmps.getD t undef

structure Made (ρ : Heap) (w : World) (s : ASpec) (v : Value) (w' : World) : Prop where
  below : BelowX [] w w'
  rel : s.R.p (ρ.plus (freshX w w' (s.blks v))) v
  own : ∀ e, e ∈ s.owns → (e.2 v).holds (ρ.plus (freshX w w' (s.blks v))) w' ∧ ∀ b, (e.2 v).blk = some b → w.heap.size ≤ b
  apart : s.owns.Pairwise fun e f => ∀ b, (e.2 v).blk = some b → (f.2 v).blk ≠ some b

/-- The operation at hand, whether it is wanted or not. -/
def Goal (P : Program) (ops : Array Oper) (ρ : Heap) (ds : List Nat) (w : World) (s : ASpec) (o : Oper) (a : Act) : Prop :=
  ∀ (Q : Exit → Act → World → Prop) (K : Act → World → Prop), (∀ v w', Made ρ w s v w' → (∀ j g, s.al = some (j, g) → v = g (slot a (ds.getD j 0))) → K (a.put o.dst v) w') →
    if Region.wanted o (yielded ops a.tmps) then o.wp P a w K Q else K (a.put o.dst undef) w

/-- What an operation has left, seen later. -/
def ASpec.left (s : ASpec) (ds : List Nat) (i : Nat) (ρ : Heap) (a : Act) : Prop :=
  s.R.p ρ (slot a (ds.getD i 0)) ∧ ∀ j g, s.al = some (j, g) → slot a (ds.getD i 0) = g (slot a (ds.getD j 0))

def okΓ (ds ancs : List Nat) (i t : Nat) : Bool := (ds.zip ancs).all fun (d, m) => d != t || m.testBit i
def ownIds (ss : List ASpec) : List Nat := ss.flatMap fun s => s.owns.map (·.1)

def AOK (P : Program) (C : Ctx) (Γ : Nat → SRel) (H : Nat → Res) (ops : Array Oper) (ds ancs : List Nat) (ss : List ASpec) : Nat → List ASpec → List Oper → Prop
  | i, s :: l, o :: os => (∀ ρ a w, Sat C (fun t => if (ownIds ss).contains t then Res.none else H t) ρ w → a.tmps.size = C.n → (∀ t, okΓ ds ancs i t = true → (Γ t).p ρ (slot a t)) →
      (∀ j s', (ancs.getD i 0).testBit j = true → ss[j]? = some s' → s'.left ds j ρ a) → Goal P ops ρ ds w s o a) ∧ AOK P C Γ H ops ds ancs ss (i + 1) l os
  | _, _, _ => True

theorem AOK.nil {P : Program} {C : Ctx} {Γ : Nat → SRel} {H : Nat → Res} {ops : Array Oper} {ds ancs : List Nat} {ss : List ASpec} {i : Nat} {os : List Oper} : AOK P C Γ H ops ds ancs ss i [] os := trivial
theorem AOK.cons {P : Program} {C : Ctx} {Γ : Nat → SRel} {H : Nat → Res} {ops : Array Oper} {ds ancs : List Nat} {ss : List ASpec} {i : Nat} {s : ASpec} {l : List ASpec} {o : Oper} {os : List Oper}
    (h : ∀ ρ a w, Sat C (fun t => if (ownIds ss).contains t then Res.none else H t) ρ w → a.tmps.size = C.n → (∀ t, okΓ ds ancs i t = true → (Γ t).p ρ (slot a t)) →
      (∀ j s', (ancs.getD i 0).testBit j = true → ss[j]? = some s' → s'.left ds j ρ a) → Goal P ops ρ ds w s o a) (k : AOK P C Γ H ops ds ancs ss (i + 1) l os) : AOK P C Γ H ops ds ancs ss i (s :: l) (o :: os) := ⟨h, k⟩
def seen1 (ancs : List Nat) (o : Oper) : Nat := (o.after.toList.filter (Region.binds .any)).foldl (fun s e => s ||| (2 ^ e.on ||| ancs.getD e.on 0)) 0
def chkOp (n N : Nat) (ds ancs : List Nat) (draw : Bool) (i : Nat) (o : Oper) : Bool :=
  let m := ancs.getD i 0
  (o.after.toList.all fun e => !Region.binds .any e || decide (e.on < i)) && ((m ||| seen1 ancs o) == seen1 ancs o) &&
  (if i < n then (o.dst == some (ds.getD i 0)) && decide (ds.getD i 0 < N) && !((ds.take i).contains (ds.getD i 0)) &&
      (match o.guard with | none => true | some (g, _) => m.testBit g)
    else !draw || ((m ||| (2 ^ n - 1)) == m && (i == n || m.testBit (i - 1))))
def chkFrom (n N : Nat) (ds ancs : List Nat) (draw : Bool) : Nat → List Oper → Bool
  | _, [] => true
  | i, o :: os => chkOp n N ds ancs draw i o && chkFrom n N ds ancs draw (i + 1) os
def nodupB : List Nat → Bool
  | [] => true
  | x :: l => !(l.contains x) && nodupB l
def alOk (ancs : List Nat) : Nat → List ASpec → Bool
  | _, [] => true
  | i, s :: l => (match s.al with | none => true | some (j, _) => (ancs.getD i 0).testBit j && decide (j < i)) && alOk ancs (i + 1) l
def chk (ops : List Oper) (n N : Nat) (ds ancs : List Nat) (ss : List ASpec) (draw : Bool) : Bool :=
  decide (n ≤ ops.length) && (ancs.length == ops.length) && (ss.length == n) && (ds.length == n) && nodupB (ownIds ss) && alOk ancs 0 ss && chkFrom n N ds ancs draw 0 ops

theorem chkFrom_get {n N : Nat} {ds ancs : List Nat} {draw : Bool} : ∀ {l : List Oper} {k : Nat}, chkFrom n N ds ancs draw k l = true → ∀ j o, l[j]? = some o → chkOp n N ds ancs draw (k + j) o = true
  | [], _, _, j, o, h => by simp at h
  | x :: l, k, hc, j, o, h => by
    simp only [chkFrom, Bool.and_eq_true] at hc
    cases j with
    | zero => simp at h; subst h; exact hc.1
    | succ j => have := chkFrom_get hc.2 j o (by simpa using h); rwa [show k + (j + 1) = k + 1 + j by omega]
theorem alOk_get {ancs : List Nat} : ∀ {l : List ASpec} {k : Nat}, alOk ancs k l = true → ∀ i s j g, l[i]? = some s → s.al = some (j, g) → (ancs.getD (k + i) 0).testBit j = true ∧ j < k + i
  | [], _, _, i, s, j, g, h, _ => by simp at h
  | x :: l, k, hc, i, s, j, g, h, hs => by
    simp only [alOk, Bool.and_eq_true] at hc
    cases i with
    | zero => simp at h; subst h; have := hc.1; rw [hs] at this; simpa using this
    | succ i => have := alOk_get hc.2 i s j g (by simpa using h) hs; rwa [show k + (i + 1) = k + 1 + i by omega]
theorem AOK_get {P : Program} {C : Ctx} {Γ : Nat → SRel} {H : Nat → Res} {ops : Array Oper} {ds ancs : List Nat} {ss : List ASpec} : ∀ {l : List ASpec} {os : List Oper} {k : Nat},
    AOK P C Γ H ops ds ancs ss k l os → ∀ i s o, l[i]? = some s → os[i]? = some o →
    ∀ ρ a w, Sat C (fun t => if (ownIds ss).contains t then Res.none else H t) ρ w → a.tmps.size = C.n → (∀ t, okΓ ds ancs (k + i) t = true → (Γ t).p ρ (slot a t)) →
      (∀ j s', (ancs.getD (k + i) 0).testBit j = true → ss[j]? = some s' → s'.left ds j ρ a) → Goal P ops ρ ds w s o a
  | [], _, _, _, i, s, o, h, _ => by simp at h
  | _ :: _, [], _, _, i, s, o, _, h => by simp at h
  | x :: l, y :: os, k, hA, i, s, o, h1, h2 => by
    cases i with
    | zero => simp at h1 h2; subst h1; subst h2; exact hA.1
    | succ i => have := AOK_get hA.2 i s o (by simpa using h1) (by simpa using h2); rwa [show k + (i + 1) = k + 1 + i by omega]

theorem testBit_le {m x : Nat} (h : (m ||| x) = x) {j : Nat} (hj : m.testBit j = true) : x.testBit j = true := by
  rw [← h, Nat.testBit_or, hj]; rfl
theorem testBit_pow {e j : Nat} : (2 ^ e).testBit j = decide (e = j) := Nat.testBit_two_pow
theorem seen1_bit (ancs : List Nat) (o : Oper) {j : Nat} (h : (seen1 ancs o).testBit j = true) : ∃ e ∈ o.after.toList, Region.binds .any e = true ∧ (e.on = j ∨ (ancs.getD e.on 0).testBit j = true) := by
  unfold seen1 at h
  have key : ∀ (l : List Edge) (s : Nat), (l.foldl (fun s e => s ||| (2 ^ e.on ||| ancs.getD e.on 0)) s).testBit j = true →
      s.testBit j = true ∨ ∃ e ∈ l, e.on = j ∨ (ancs.getD e.on 0).testBit j = true := by
    intro l
    induction l with
    | nil => intro s hs; exact .inl hs
    | cons e l ih =>
      intro s hs
      rcases ih _ hs with h | ⟨e', he, hb⟩
      · rw [Nat.testBit_or, Nat.testBit_or, testBit_pow] at h
        simp only [Bool.or_eq_true, decide_eq_true_eq] at h
        rcases h with h | h | h
        · exact .inl h
        · exact .inr ⟨e, by simp, .inl h⟩
        · exact .inr ⟨e, by simp, .inr h⟩
      · exact .inr ⟨e', by simp [he], hb⟩
  rcases key _ 0 h with h | ⟨e, he, hb⟩
  · simp at h
  · rw [List.mem_filter] at he
    exact ⟨e, he.1, he.2, hb⟩

/-- Which operations are done, every one behind those that have to be before it. -/
def Closed (ops : Array Oper) (L : Nat → Prop) : Prop := ∀ (i : Nat) (o : Oper), L i → ops[i]? = some o → ∀ e, e ∈ o.after.toList → Region.binds .any e = true → L e.on
def Due (ops : Array Oper) (L : Nat → Prop) (i : Nat) : Prop := ∀ (o : Oper), ops[i]? = some o → ∀ e, e ∈ o.after.toList → Region.binds .any e = true → L e.on

section
variable {P : Program} {C : Ctx} {Γ : Nat → SRel} {H : Nat → Res} {Q : Exit → Act → World → Prop} {ops : Array Oper} {n : Nat} {ds ancs : List Nat} {ss : List ASpec} {draw : Bool}

theorem closed_anc (hc : chkFrom n C.n ds ancs draw 0 ops.toList = true) {L : Nat → Prop} (hL : Closed ops L) : ∀ i, L i → ∀ o, ops[i]? = some o → ∀ j, (ancs.getD i 0).testBit j = true → L j := by
  intro i
  induction i using Nat.strongRecOn with
  | _ i ih =>
    intro hi o ho j hj
    have hk := chkFrom_get hc i o (by simpa using ho)
    simp only [Nat.zero_add, chkOp, Bool.and_eq_true, beq_iff_eq, List.all_eq_true] at hk
    obtain ⟨⟨hlt, hm⟩, _⟩ := hk
    obtain ⟨e, he, hb, hx⟩ := seen1_bit ancs o (testBit_le hm hj)
    have hL' := hL i o hi ho e he hb
    rcases hx with rfl | hx
    · exact hL'
    · have hlt' : e.on < i := by have := hlt e he; simpa [hb] using this
      have hsz : i < ops.size := (Array.getElem?_eq_some_iff.1 ho).1
      exact ih e.on hlt' hL' _ (Array.getElem?_eq_getElem (by omega)) j hx
theorem due_anc (hc : chkFrom n C.n ds ancs draw 0 ops.toList = true) {L : Nat → Prop} (hL : Closed ops L) {i : Nat} (hd : Due ops L i) {o : Oper} (ho : ops[i]? = some o) {j : Nat}
    (hj : (ancs.getD i 0).testBit j = true) : L j := by
  have hk := chkFrom_get hc i o (by simpa using ho)
  simp only [Nat.zero_add, chkOp, Bool.and_eq_true, beq_iff_eq, List.all_eq_true] at hk
  obtain ⟨⟨hlt, hm⟩, _⟩ := hk
  obtain ⟨e, he, hb, hx⟩ := seen1_bit ancs o (testBit_le hm hj)
  have hL' := hd o ho e he hb
  rcases hx with rfl | hx
  · exact hL'
  · have hlt' : e.on < i := by have := hlt e he; simpa [hb] using this
    have hsz : i < ops.size := (Array.getElem?_eq_some_iff.1 ho).1
    exact closed_anc hc hL e.on hL' _ (Array.getElem?_eq_getElem (by omega)) j hx

structure Inv (C : Ctx) (Γ : Nat → SRel) (H : Nat → Res) (n : Nat) (ds : List Nat) (ss : List ASpec) (L : Nat → Prop) (a : Act) (w : World) : Prop where
  defers : a.defers = []
  size : a.tmps.size = C.n
  st : ∃ ρ HD, Sat C HD ρ w ∧ (∀ t, (∀ j, j < n → L j → ds.getD j 0 ≠ t) → (Γ t).p ρ (slot a t)) ∧ (∀ i s, ss[i]? = some s → L i → s.left ds i ρ a) ∧
    (∀ t, t ∉ ownIds ss → HD t = H t) ∧ (∀ i s e, ss[i]? = some s → e ∈ s.owns → L i → HD e.1 = e.2 (slot a (ds.getD i 0)))

theorem slot_put_same {a : Act} {d : Nat} {v : Value} (h : d < a.tmps.size) : slot (a.put (some d) v) d = v := by
  simp [slot, Act.put, h]
theorem slot_put_other {a : Act} {d t : Nat} {v : Value} (h : d ≠ t) : slot (a.put (some d) v) t = slot a t := by
  simp [slot, Act.put, Array.getD_eq_getD_getElem?, Array.getElem?_setIfInBounds_ne h]

theorem nodupB_get : ∀ {l : List Nat}, nodupB l = true → l.Nodup
  | [], _ => List.nodup_nil
  | x :: l, h => by
    simp only [nodupB, Bool.and_eq_true, Bool.not_eq_true', List.contains_eq_mem, decide_eq_false_iff_not] at h
    exact List.nodup_cons.2 ⟨h.1, nodupB_get h.2⟩
theorem ds_apart (hc : chkFrom n C.n ds ancs draw 0 ops.toList = true) (hn : n ≤ ops.size) (hd : ds.length = n) {i j : Nat} (hi : i < n) (hj : j < n) (hij : i ≠ j) : ds.getD i 0 ≠ ds.getD j 0 := by
  have go : ∀ i j, i < n → j < n → i < j → ds.getD i 0 ≠ ds.getD j 0 := by
    intro i j hi hj hij
    have hk := chkFrom_get hc j _ (by rw [Array.getElem?_toList]; exact Array.getElem?_eq_getElem (show j < ops.size by omega))
    simp only [Nat.zero_add, chkOp, Bool.and_eq_true, beq_iff_eq, List.all_eq_true, if_pos hj] at hk
    have h3 := hk.2.1.2
    simp only [Bool.not_eq_true', List.contains_eq_mem, decide_eq_false_iff_not] at h3
    intro he
    apply h3
    rw [← he]
    have : i < ds.length := by omega
    rw [List.mem_iff_getElem?]
    exact ⟨i, by rw [List.getElem?_take, if_pos hij]; simp [List.getD, List.getElem?_eq_getElem this]⟩
  rcases Nat.lt_or_gt_of_ne hij with h | h
  · exact go i j hi hj h
  · exact (go j i hj hi h).symm
theorem own_apart (hn : nodupB (ownIds ss) = true) {i j : Nat} {s s' : ASpec} (hs : ss[i]? = some s) (hs' : ss[j]? = some s') (hij : i ≠ j) {e f : Nat × (Value → Res)} (he : e ∈ s.owns) (hf : f ∈ s'.owns) : e.1 ≠ f.1 := by
  have hd := nodupB_get hn
  have go : ∀ (l : List ASpec), (ownIds l).Nodup → ∀ (i j : Nat) (s s' : ASpec), l[i]? = some s → l[j]? = some s' → i < j → ∀ e f, e ∈ s.owns → f ∈ s'.owns → e.1 ≠ f.1 := by
    intro l
    induction l with
    | nil => intro _ i j s s' h; simp at h
    | cons x l ih =>
      intro hd i j s s' h1 h2 hij e f he hf
      simp only [ownIds, List.flatMap_cons, List.nodup_append] at hd
      cases j with
      | zero => omega
      | succ j =>
        cases i with
        | zero =>
          simp at h1 h2
          subst h1
          exact hd.2.2 e.1 (List.mem_map.2 ⟨e, he, rfl⟩) f.1 (List.mem_flatMap.2 ⟨s', List.mem_of_getElem? h2, List.mem_map.2 ⟨f, hf, rfl⟩⟩)
        | succ i => exact ih hd.2.1 i j s s' (by simpa using h1) (by simpa using h2) (by omega) e f he hf
  rcases Nat.lt_or_gt_of_ne hij with h | h
  · exact go ss hd i j s s' hs hs' h e f he hf
  · exact (go ss hd j i s' s hs' hs h f e hf he).symm
theorem own_apart_in (hn : nodupB (ownIds ss) = true) {i : Nat} {s : ASpec} (hs : ss[i]? = some s) : (s.owns.map (·.1)).Nodup := by
  have hd := nodupB_get hn
  have go : ∀ (l : List ASpec), (ownIds l).Nodup → ∀ (i : Nat) (s : ASpec), l[i]? = some s → (s.owns.map (·.1)).Nodup := by
    intro l
    induction l with
    | nil => intro _ i s h; simp at h
    | cons x l ih =>
      intro hd i s h1
      simp only [ownIds, List.flatMap_cons, List.nodup_append] at hd
      cases i with
      | zero => simp at h1; subst h1; exact hd.1
      | succ i => exact ih hd.2.1 i s (by simpa using h1)
  exact go ss hd i s hs

/-- What is owned anew stands beside what was owned. -/
def grow (HD : Nat → Res) (v : Value) : List (Nat × (Value → Res)) → Nat → Res
  | [] => HD
  | e :: l => updH (grow HD v l) e.1 (e.2 v)
theorem grow_not {HD : Nat → Res} {v : Value} {l : List (Nat × (Value → Res))} {t : Nat} (h : t ∉ l.map (·.1)) : grow HD v l t = HD t := by
  induction l with
  | nil => rfl
  | cons e l ih =>
    simp only [List.map_cons, List.mem_cons, not_or] at h
    simp only [grow, updH]
    cases hb : Nat.beq e.1 t with
    | true => exact absurd (Nat.eq_of_beq_eq_true hb).symm h.1
    | false => exact ih h.2
theorem grow_in {HD : Nat → Res} {v : Value} {l : List (Nat × (Value → Res))} (hn : (l.map (·.1)).Nodup) {e : Nat × (Value → Res)} (he : e ∈ l) : grow HD v l e.1 = e.2 v := by
  induction l with
  | nil => cases he
  | cons f l ih =>
    simp only [List.map_cons, List.nodup_cons] at hn
    simp only [grow, updH]
    rcases List.mem_cons.1 he with rfl | he
    · simp
    · cases hb : Nat.beq f.1 e.1 with
      | true =>
        have := Nat.eq_of_beq_eq_true hb
        exact absurd (List.mem_map.2 ⟨e, he, this.symm⟩) hn.1
      | false => exact ih hn.2 he
theorem blk_lt {r : Res} {ρ : Heap} {w : World} (h : r.holds ρ w) {b : Nat} (hb : r.blk = some b) : b < w.heap.size := by
  unfold Res.holds at h
  rw [hb] at h
  obtain ⟨o, ho, _⟩ := h
  exact (Array.getElem?_eq_some_iff.1 ho).1
theorem le_keep {ρ : Heap} {w w' : World} (h : ρ.le (snap w)) (hb : BelowX [] w w') : ρ.le (snap w') := fun b o e => by
  have h1 := h b o e
  have hlt := (Array.getElem?_eq_some_iff.1 h1).1
  show w'.heap[b]? = some o
  rw [hb.block b hlt (by simp)]
  exact h1
theorem le_keepX {ρ : Heap} {w w' : World} (h : ρ.le (snap w)) (hb : BelowX [] w w') (bs : List Nat) : (ρ.plus (freshX w w' bs)).le (snap w') := fun b o e => by
  unfold Heap.plus at e
  cases hr : ρ b with
  | some o' => rw [hr] at e; cases e; exact le_keep h hb b _ hr
  | none =>
    rw [hr] at e
    simp only [freshX] at e
    split at e
    · cases e
    · split at e
      · cases e
      · exact e
theorem holds_keep {r : Res} {ρ : Heap} {w w' : World} (h : r.holds ρ w) (hb : BelowX [] w w') (bs : List Nat) : r.holds (ρ.plus (freshX w w' bs)) w' := by
  unfold Res.holds at *
  cases hr : r.blk with
  | none => rw [hr] at h; exact r.mono (Heap.le_plus _ _) h
  | some b =>
    rw [hr] at h
    obtain ⟨o, ho, hok, hn⟩ := h
    have hlt := (Array.getElem?_eq_some_iff.1 ho).1
    exact ⟨o, by rw [hb.block b hlt (by simp)]; exact ho, r.mono (Heap.le_plus _ _) hok, by simp [Heap.plus, hn, freshX, hlt]⟩
theorem Sat.made {HD : Nat → Res} {ρ : Heap} {w w' : World} {s : ASpec} {v : Value} (h : Sat C HD ρ w) (m : Made ρ w s v w') (hn : (s.owns.map (·.1)).Nodup) :
    Sat C (grow HD v s.owns) (ρ.plus (freshX w w' (s.blks v))) w' := by
  have old : ∀ t b, (HD t).blk = some b → b < w.heap.size := fun t b hb => blk_lt (h.ok t) hb
  have cases_ : ∀ t, (∃ e ∈ s.owns, e.1 = t ∧ grow HD v s.owns t = e.2 v) ∨ (grow HD v s.owns t = HD t) := by
    intro t
    by_cases ht : t ∈ s.owns.map (·.1)
    · obtain ⟨e, he, rfl⟩ := List.mem_map.1 ht
      exact .inl ⟨e, he, rfl, grow_in hn he⟩
    · exact .inr (grow_not ht)
  refine ⟨le_keepX h.le m.below _, fun t => ?_, fun i j b hij hi => ?_, fun t b hb => ?_, ?_, fun b o e => ?_, h.sle⟩
  · rcases cases_ t with ⟨e, he, _, hg⟩ | hg
    · rw [hg]; exact (m.own e he).1
    · rw [hg]; exact holds_keep (h.ok t) m.below _
  · rcases cases_ i with ⟨e, he, hei, hg⟩ | hg
    · rw [hg] at hi
      have hlo := (m.own e he).2 b hi
      rcases cases_ j with ⟨f, hf, hfj, hg'⟩ | hg'
      · rw [hg']
        have hne : e ≠ f := fun h => hij (by rw [← hei, ← hfj, h])
        have sym : ∀ e f, e ∈ s.owns → f ∈ s.owns → e ≠ f → ∀ b, (e.2 v).blk = some b → (f.2 v).blk ≠ some b := by
          intro e f he hf hne
          obtain ⟨i, hi, rfl⟩ := List.getElem_of_mem he
          obtain ⟨j, hj, rfl⟩ := List.getElem_of_mem hf
          have hpw := List.pairwise_iff_getElem.1 m.apart
          have hne' : i ≠ j := fun h => hne (by subst h; rfl)
          rcases Nat.lt_or_gt_of_ne hne' with h | h
          · exact hpw i j hi hj h
          · intro b h1 h2; exact hpw j i hj hi h b h2 h1
        exact sym e f he hf hne b hi
      · rw [hg']; intro hb; have := old j b hb; omega
    · rw [hg] at hi
      rcases cases_ j with ⟨f, hf, hfj, hg'⟩ | hg'
      · rw [hg']; intro hb
        have := (m.own f hf).2 b hb
        have := old i b hi
        omega
      · rw [hg']; exact h.apart i j b hij hi
  · rcases cases_ t with ⟨e, he, _, hg⟩ | hg
    · rw [hg] at hb
      exact .inl (Nat.le_trans h.fr.size ((m.own e he).2 b hb))
    · rw [hg] at hb; exact h.mine t b hb
  · exact h.fr.trans ⟨m.below.os, m.below.tape, m.below.output, m.below.size, fun k hk _ => m.below.block k hk (by simp)⟩
  · unfold Heap.plus at e
    cases hr : ρ b with
    | some o' => rw [hr] at e; cases e; exact h.lim b _ hr
    | none =>
      rw [hr] at e
      simp only [freshX] at e
      split at e
      · cases e
      · have := h.fr.size; right; omega

theorem Inv.step (hc : chk ops.toList n C.n ds ancs ss draw = true) (hA : AOK P C Γ H ops ds ancs ss 0 ss ops.toList) {L : Nat → Prop} (hL : Closed ops L) {i : Nat} (hi : i < n) (hd : Due ops L i) (hni : ¬ L i)
    {a : Act} {w : World} (h : Inv C Γ H n ds ss L a w) {K : Act → World → Prop} (hK : ∀ a' w', Inv C Γ H n ds ss (fun j => L j ∨ j = i) a' w' → K a' w') : wpOp P ops Q i K a w := by
  simp only [chk, Bool.and_eq_true, decide_eq_true_eq, beq_iff_eq] at hc
  obtain ⟨⟨⟨⟨⟨⟨hsz, hanl⟩, hss⟩, hds⟩, hnd⟩, hal⟩, hcf⟩ := hc
  have hsz' : n ≤ ops.size := by simpa using hsz
  have ho : ops[i]? = some ops[i] := Array.getElem?_eq_getElem (by omega)
  have hs : ss[i]? = some ss[i] := List.getElem?_eq_getElem (by omega)
  generalize ops[i] = o at ho
  generalize ss[i] = s at hs
  obtain ⟨hdf, hsize, ρ, HD, hsat, hΓ, hleft, hHo, hHD⟩ := h
  have hk := chkFrom_get hcf i o (by simpa using ho)
  simp only [Nat.zero_add, chkOp, Bool.and_eq_true, beq_iff_eq, List.all_eq_true, if_pos hi] at hk
  obtain ⟨_, ⟨⟨hdst, hdN⟩, _⟩, _⟩ := hk
  have hdN : ds.getD i 0 < C.n := by simpa using hdN
  have hoks : ∀ t, okΓ ds ancs (0 + i) t = true → (Γ t).p ρ (slot a t) := by
    intro t ht
    apply hΓ
    intro j hj hLj he
    simp only [okΓ, List.all_eq_true] at ht
    have hjo : j < ops.size := by omega
    have hz : (ds.zip ancs)[j]? = some (ds.getD j 0, ancs.getD j 0) := by
      have hja : j < ancs.length := by have : ops.toList.length = ops.size := by simp
                                       omega
      simp [List.getElem?_zip_eq_some, List.getElem?_eq_getElem hja, List.getElem?_eq_getElem (show j < ds.length by omega)]
    have := ht _ (List.mem_of_getElem? hz)
    simp only [he, bne_self_eq_false, Bool.false_or, Nat.zero_add] at this
    exact hni (closed_anc hcf hL j hLj _ (Array.getElem?_eq_getElem hjo) i this)
  have hanc : ∀ j s', (ancs.getD (0 + i) 0).testBit j = true → ss[j]? = some s' → s'.left ds j ρ a := by
    intro j s' hj hs'
    exact hleft j s' hs' (due_anc hcf hL hd ho (by simpa using hj))
  have g := AOK_get hA i s o hs (by simpa using ho) ρ a w (hsat.less fun t => by
    by_cases ht : (ownIds ss).contains t
    · right; rw [if_pos ht]
    · left; rw [if_neg ht]; exact (hHo t (by simpa using ht)).symm) hsize hoks hanc
  have dsne : ∀ j, j < n → j ≠ i → ds.getD i 0 ≠ ds.getD j 0 := fun j hj hne => ds_apart hcf hsz' hds hi hj (Ne.symm hne)
  have h := g Q K (fun v w' m hal' => hK _ _ (by
    rw [hdst]
    have same : slot (a.put (some (ds.getD i 0)) v) (ds.getD i 0) = v := slot_put_same (by omega)
    have other : ∀ t, ds.getD i 0 ≠ t → slot (a.put (some (ds.getD i 0)) v) t = slot a t := fun t ht => slot_put_other ht
    refine ⟨by simpa [Act.put] using hdf, by simpa [Act.put] using hsize, ρ.plus (freshX w w' (s.blks v)), grow HD v s.owns, hsat.made m (own_apart_in hnd hs), ?_, ?_, ?_, ?_⟩
    · intro t ht
      have h1 := ht i hi (.inr rfl)
      rw [other t h1]
      exact (Γ t).mono (Heap.le_plus _ _) (hΓ t fun j hj hLj => ht j hj (.inl hLj))
    · intro j s' hs' hj
      have hjn : j < n := by rw [← hss]; exact (List.getElem?_eq_some_iff.1 hs').1
      by_cases hji : j = i
      · subst hji
        rw [hs] at hs'; cases hs'
        refine ⟨by rw [same]; exact m.rel, fun j' g' hg => ?_⟩
        have hb := alOk_get hal j s j' g' hs hg
        rw [Nat.zero_add] at hb
        have hLj := due_anc hcf hL hd ho hb.1
        rw [same, other _ (dsne j' (by omega) (fun e => hni (e ▸ hLj)))]
        exact hal' j' g' hg
      · have hLj : L j := hj.resolve_right hji
        have hl := hleft j s' hs' hLj
        refine ⟨by rw [other _ (dsne j hjn hji)]; exact s'.R.mono (Heap.le_plus _ _) hl.1, fun j' g' hg => ?_⟩
        have hb := alOk_get hal j s' j' g' hs' hg
        rw [Nat.zero_add] at hb
        have hLj' := closed_anc hcf hL j hLj _ (Array.getElem?_eq_getElem (show j < ops.size by omega)) j' hb.1
        rw [other _ (dsne j hjn hji), other _ (dsne j' (by omega) (fun e => hni (e ▸ hLj')))]
        exact hl.2 j' g' hg
    · intro t ht
      rw [grow_not]
      · exact hHo t ht
      · intro hm
        exact ht (List.mem_flatMap.2 ⟨s, List.mem_of_getElem? hs, hm⟩)
    · intro j s' e hs' he hj
      have hjn : j < n := by rw [← hss]; exact (List.getElem?_eq_some_iff.1 hs').1
      by_cases hji : j = i
      · subst hji
        rw [hs] at hs'; cases hs'
        rw [same]
        exact grow_in (own_apart_in hnd hs) he
      · have hLj : L j := hj.resolve_right hji
        rw [other _ (dsne j hjn hji), grow_not]
        · exact hHD j s' e hs' he hLj
        · intro hm
          obtain ⟨f, hf, hfe⟩ := List.mem_map.1 hm
          exact own_apart hnd hs hs' (Ne.symm hji) hf he hfe))
  unfold wpOp
  simp only [ho]
  split
  · rename_i hw; rw [if_pos hw] at h; exact .inl h
  · rename_i hw
    rw [if_neg hw] at h
    exact h

theorem Closed.more {L : Nat → Prop} (hL : Closed ops L) {i : Nat} (hd : Due ops L i) : Closed ops (fun j => L j ∨ j = i) := by
  intro j o hj ho e he hb
  rcases hj with hj | rfl
  · exact .inl (hL j o hj ho e he hb)
  · exact .inl (hd o ho e he hb)

/-- In the order of the text. -/
theorem inv_list (hc : chk ops.toList n C.n ds ancs ss draw = true) (hA : AOK P C Γ H ops ds ancs ss 0 ss ops.toList)
    (hB : ∀ a w, Inv C Γ H n ds ss (fun j => j < n) a w → wpList P ops Q (ops.toList.drop n) a w) :
    ∀ d m a w, m + d = n → Inv C Γ H n ds ss (fun j => j < m) a w → wpList P ops Q (ops.toList.drop m) a w := by
  have hc' := hc
  simp only [chk, Bool.and_eq_true, decide_eq_true_eq, beq_iff_eq] at hc'
  obtain ⟨⟨⟨⟨⟨⟨hsz, _⟩, hss⟩, hds⟩, hnd⟩, hal⟩, hcf⟩ := hc'
  intro d
  induction d with
  | zero => intro m a w hm h; obtain rfl : m = n := by omega
            exact hB a w h
  | succ d ih =>
    intro m a w hm h
    have hms : m < ops.toList.length := by omega
    rw [List.drop_eq_getElem_cons hms]
    have ho : ops[m]? = some ops.toList[m] := by rw [← Array.getElem?_toList]; exact List.getElem?_eq_getElem hms
    have hpre : ∀ j (o : Oper), ops[j]? = some o → ∀ e, e ∈ o.after.toList → Region.binds .any e = true → e.on < j := by
      intro j o hj e he hb
      have hk := chkFrom_get hcf j o (by simpa using hj)
      simp only [Nat.zero_add, chkOp, Bool.and_eq_true, beq_iff_eq, List.all_eq_true] at hk
      have := hk.1.1 e he
      simpa [hb] using this
    have hst := Inv.step (Q := Q) (i := m) hc hA (L := fun j => j < m) (fun j o hj ho' e he hb => by have := hpre j o ho' e he hb; omega) (by omega) (fun o ho' e he hb => hpre m o ho' e he hb) (by omega) h
      (K := wpList P ops Q (ops.toList.drop (m + 1))) (fun a' w' hi => ih (m + 1) a' w' (by omega) (by
        have : (fun j => j < m ∨ j = m) = fun j => j < m + 1 := by funext j; apply propext; omega
        rwa [this] at hi))
    unfold wpOp at hst
    simp only [ho] at hst
    unfold wpList
    exact hst

theorem wpOp_list {m : Nat} {o : Oper} (ho : ops[m]? = some o) {l : List Oper} {a : Act} {w : World} (h : wpList P ops Q (o :: l) a w) : wpOp P ops Q m (wpList P ops Q l) a w := by
  unfold wpOp
  simp only [ho]
  exact h

theorem mem_ready {md : Region.Mode} {L : Array Bool} {i : Nat} (h : i ∈ Region.ready md ops L) :
    i < ops.size ∧ L.getD i true = false ∧ ∀ (o : Oper), ops[i]? = some o → ∀ e, e ∈ o.after.toList → Region.binds md e = true → L.getD e.on false = true := by
  simp only [Region.ready, List.mem_filter, List.mem_range, Bool.and_eq_true, Bool.not_eq_true'] at h
  refine ⟨h.1, h.2.1, fun o ho e he hb => ?_⟩
  have h2 := h.2.2
  rw [ho] at h2
  simp only [Option.map_some, Option.getD_some, Array.all_eq_true'] at h2
  have := h2 e (by simpa using he)
  simpa [hb] using this
theorem ready_of {md : Region.Mode} {L : Array Bool} {i : Nat} (hi : i < ops.size) (hL : L.getD i true = false) (h : ∀ (o : Oper), ops[i]? = some o → ∀ e, e ∈ o.after.toList → Region.binds md e = true → L.getD e.on false = true) :
    i ∈ Region.ready md ops L := by
  simp only [Region.ready, List.mem_filter, List.mem_range, Bool.and_eq_true, Bool.not_eq_true']
  refine ⟨hi, hL, ?_⟩
  rw [Array.getElem?_eq_getElem hi]
  simp only [Option.map_some, Option.getD_some, Array.all_eq_true']
  intro e he
  cases hb : Region.binds md e with
  | false => rfl
  | true => simpa using h _ (Array.getElem?_eq_getElem hi) e (by simpa using he) hb

theorem countP_set {i : Nat} {p q : Nat → Bool} (hp : p i = true) (hq : q i = false) (h : ∀ j, j ≠ i → p j = q j) : ∀ k, (List.range k).countP q + (if i < k then 1 else 0) = (List.range k).countP p
  | 0 => rfl
  | k + 1 => by
    have ih := countP_set hp hq h k
    rw [List.range_succ, List.countP_append, List.countP_append]
    simp only [List.countP_singleton]
    by_cases hk : k = i
    · subst hk
      simp only [hp, hq, Nat.lt_irrefl, if_false, if_true, Nat.lt_succ_self] at *
      simp at *
      omega
    · rw [h k hk]
      by_cases hik : i < k
      · rw [if_pos hik] at ih; rw [if_pos (show i < k + 1 by omega)]; omega
      · rw [if_neg hik] at ih; rw [if_neg (show ¬ i < k + 1 by omega)]; omega

theorem getD_set_true {L : Array Bool} {i : Nat} (hi : i < L.size) (j : Nat) (d : Bool) : (L.setIfInBounds i true).getD j d = if j = i then true else L.getD j d := by
  rw [Array.getD_eq_getD_getElem?, Array.getD_eq_getD_getElem?, Array.getElem?_setIfInBounds]
  by_cases h : i = j
  · subst h; simp [hi]
  · rw [if_neg h, if_neg (Ne.symm h)]

theorem inv_B (hc : chk ops.toList n C.n ds ancs ss true = true) : ∀ fuel m (L : Array Bool) a w, L.size = ops.size → (∀ j, j < ops.size → (L.getD j true = true ↔ j < m)) → m + fuel = ops.size → n ≤ m →
    wpList P ops Q (ops.toList.drop m) a w → wpAny P .any ops Q fuel L a w := by
  have hc' := hc
  simp only [chk, Bool.and_eq_true, decide_eq_true_eq, beq_iff_eq] at hc'
  obtain ⟨⟨⟨⟨⟨⟨hsz, _⟩, hss⟩, hds⟩, hnd⟩, hal⟩, hcf⟩ := hc'
  intro fuel
  induction fuel with
  | zero =>
    intro m L a w hLs hL hm hnm h
    rw [List.drop_eq_nil_of_le (by simp; omega)] at h
    refine ⟨?_, h⟩
    rw [List.eq_nil_iff_forall_not_mem]
    intro i hi
    obtain ⟨h1, h2, _⟩ := mem_ready hi
    have := (hL i h1).2 (by omega)
    rw [this] at h2; cases h2
  | succ fuel ih =>
    intro m L a w hLs hL hm hnm h
    have hms : m < ops.size := by omega
    have LD : ∀ j, j < ops.size → L.getD j false = L.getD j true := fun j hj => by
      simp [Array.getD_eq_getD_getElem?, Array.getElem?_eq_getElem (show j < L.size by omega)]
    have hpre : ∀ j (o : Oper), ops[j]? = some o → ∀ e, e ∈ o.after.toList → Region.binds .any e = true → e.on < j := by
      intro j o hj e he hb
      have hk := chkFrom_get hcf j o (by simpa using hj)
      simp only [Nat.zero_add, chkOp, Bool.and_eq_true, beq_iff_eq, List.all_eq_true] at hk
      have := hk.1.1 e he
      simpa [hb] using this
    refine ⟨fun hr => ?_, fun i hi => ?_⟩
    · exfalso
      have : m ∈ Region.ready .any ops L := ready_of hms (by
          cases hx : L.getD m true with
          | false => rfl
          | true => have := (hL m hms).1 hx; omega) (fun o ho e he hb => by
          have hlt := hpre m o ho e he hb
          rw [LD _ (by omega)]
          exact (hL _ (by omega)).2 hlt)
      rw [hr] at this; cases this
    · obtain ⟨h1, h2, h3⟩ := mem_ready hi
      have hmi : m ≤ i := by
        rcases Nat.lt_or_ge i m with hlt | hge
        · have := (hL i h1).2 hlt; rw [this] at h2; cases h2
        · exact hge
      have ho : ops[i]? = some ops[i] := Array.getElem?_eq_getElem h1
      have him : i = m := by
        rcases Nat.lt_or_ge m i with hlt | hge
        · exfalso
          have hk := chkFrom_get hcf i ops[i] (by rw [Array.getElem?_toList]; exact ho)
          simp only [Nat.zero_add, chkOp, Bool.and_eq_true, beq_iff_eq, List.all_eq_true, if_neg (show ¬ i < n by omega), Bool.not_true, Bool.false_or, Bool.or_eq_true] at hk
          have hb : (ancs.getD i 0).testBit (i - 1) = true := by
            rcases hk.2.2 with h | h
            · omega
            · exact h
          have hcl : Closed ops (fun j => j < m) := fun j o hj ho' e he hb => by have := hpre j o ho' e he hb; omega
          have hdue : Due ops (fun j => j < m) i := fun o ho' e he hb => by
            have hlt' := hpre i o ho' e he hb
            have := h3 o ho' e he hb
            rw [LD _ (by omega)] at this
            exact (hL _ (by omega)).1 this
          have := due_anc (n := n) (draw := true) hcf hcl hdue ho hb
          omega
        · omega
      subst him
      rw [List.drop_eq_getElem_cons (by simpa using h1)] at h
      refine wpOp_mono ?_ (wpOp_list (by simp) h)
      intro a' w' h'
      refine ih (i + 1) _ a' w' (by simpa using hLs) (fun j hj => ?_) (by omega) (by omega) h'
      rw [getD_set_true (by omega)]
      by_cases hj' : j = i
      · subst hj'; simp
      · rw [if_neg hj', hL j hj]; omega

theorem inv_any (hc : chk ops.toList n C.n ds ancs ss true = true) (hA : AOK P C Γ H ops ds ancs ss 0 ss ops.toList)
    (hB : ∀ a w, Inv C Γ H n ds ss (fun j => j < n) a w → wpList P ops Q (ops.toList.drop n) a w) :
    ∀ fuel (L : Array Bool) a w, L.size = ops.size → (∀ j, n ≤ j → j < ops.size → L.getD j true = false) → Closed ops (fun j => j < ops.size ∧ L.getD j true = true) →
      (List.range ops.size).countP (fun j => !L.getD j true) = fuel → Inv C Γ H n ds ss (fun j => j < ops.size ∧ L.getD j true = true) a w → wpAny P .any ops Q fuel L a w := by
  have hc' := hc
  simp only [chk, Bool.and_eq_true, decide_eq_true_eq, beq_iff_eq] at hc'
  obtain ⟨⟨⟨⟨⟨⟨hsz, _⟩, hss⟩, hds⟩, hnd⟩, hal⟩, hcf⟩ := hc'
  have hsz' : n ≤ ops.size := by simpa using hsz
  have hpre : ∀ j (o : Oper), ops[j]? = some o → ∀ e, e ∈ o.after.toList → Region.binds .any e = true → e.on < j := by
    intro j o hj e he hb
    have hk := chkFrom_get hcf j o (by simpa using hj)
    simp only [Nat.zero_add, chkOp, Bool.and_eq_true, beq_iff_eq, List.all_eq_true] at hk
    have := hk.1.1 e he
    simpa [hb] using this
  have toB : ∀ fuel (L : Array Bool) a w, L.size = ops.size → (∀ j, n ≤ j → j < ops.size → L.getD j true = false) → (∀ j, j < n → L.getD j true = true) →
      (List.range ops.size).countP (fun j => !L.getD j true) = fuel → Inv C Γ H n ds ss (fun j => j < ops.size ∧ L.getD j true = true) a w → wpAny P .any ops Q fuel L a w := by
    intro fuel L a w hLs hno hall hcnt h
    have heq : (fun j => j < ops.size ∧ L.getD j true = true) = fun j => j < n := by
      funext j; apply propext
      constructor
      · rintro ⟨h1, h2⟩
        rcases Nat.lt_or_ge j n with h | h
        · exact h
        · rw [hno j h h1] at h2; cases h2
      · intro h; exact ⟨by omega, hall j h⟩
    rw [heq] at h
    refine inv_B hc fuel n L a w hLs (fun j hj => ?_) ?_ (Nat.le_refl _) (hB a w h)
    · have := congrFun heq j
      simp only [hj, true_and] at this
      exact Iff.of_eq this
    · have key : ∀ k, k ≤ ops.size → (List.range k).countP (fun j => !L.getD j true) = k - n := by
        intro k
        induction k with
        | zero => intro _; simp
        | succ k ih =>
          intro hk
          rw [List.range_succ, List.countP_append, ih (by omega), List.countP_singleton]
          rcases Nat.lt_or_ge k n with h | h
          · rw [hall k h]; simp; omega
          · rw [hno k h (by omega)]; simp; omega
      have := key ops.size (Nat.le_refl _)
      omega
  intro fuel
  induction fuel with
  | zero =>
    intro L a w hLs hno hcl hcnt h
    refine toB 0 L a w hLs hno (fun j hj => ?_) hcnt h
    have := List.countP_eq_zero.1 hcnt j (by simp; omega)
    simpa using this
  | succ fuel ih =>
    intro L a w hLs hno hcl hcnt h
    by_cases hall : ∀ j, j < n → L.getD j true = true
    · exact toB _ L a w hLs hno hall hcnt h
    · have LD : ∀ j, j < ops.size → L.getD j false = L.getD j true := fun j hj => by
        simp [Array.getD_eq_getD_getElem?, Array.getElem?_eq_getElem (show j < L.size by omega)]
      have low : ∀ i, i ∈ Region.ready .any ops L → i < n := by
        intro i hi
        obtain ⟨h1, h2, h3⟩ := mem_ready hi
        rcases Nat.lt_or_ge i n with hlt | hge
        · exact hlt
        · exfalso
          apply hall
          intro j hj
          have ho : ops[i]? = some ops[i] := Array.getElem?_eq_getElem h1
          have hk := chkFrom_get hcf i ops[i] (by rw [Array.getElem?_toList]; exact ho)
          simp only [Nat.zero_add, chkOp, Bool.and_eq_true, beq_iff_eq, List.all_eq_true, if_neg (show ¬ i < n by omega), Bool.not_true, Bool.false_or, Bool.or_eq_true] at hk
          have hb : (ancs.getD i 0).testBit j = true := by
            rw [← hk.2.1, Nat.testBit_or]
            have : (2 ^ n - 1).testBit j = true := by rw [Nat.testBit_two_pow_sub_one]; simpa using hj
            rw [this]; simp
          have hdue : Due ops (fun j => j < ops.size ∧ L.getD j true = true) i := fun o ho' e he hb => by
            have hlt' := hpre i o ho' e he hb
            have := h3 o ho' e he hb
            rw [LD _ (by omega)] at this
            exact ⟨by omega, this⟩
          exact (due_anc (n := n) (draw := true) hcf hcl hdue ho hb).2
      refine ⟨fun hr => ?_, fun i hi => ?_⟩
      · exfalso
        -- the least that is not done is ready
        have : ∃ j, j < n ∧ L.getD j true = false ∧ ∀ k, k < j → L.getD k true = true := by
          have hex : ∃ j, j < n ∧ L.getD j true = false := by
            simp only [Classical.not_forall] at hall
            obtain ⟨j, hj, hx⟩ := hall
            exact ⟨j, hj, by simpa using hx⟩
          have key : ∀ m, (∃ j, j < m ∧ j < n ∧ L.getD j true = false) → ∃ j, j < n ∧ L.getD j true = false ∧ ∀ k, k < j → L.getD k true = true := by
            intro m
            induction m with
            | zero => rintro ⟨j, hj, _⟩; omega
            | succ m ihm =>
              rintro ⟨j, hj, hjn, hx⟩
              by_cases hb : ∃ j, j < m ∧ j < n ∧ L.getD j true = false
              · exact ihm hb
              · refine ⟨j, hjn, hx, fun k hk => ?_⟩
                cases hy : L.getD k true with
                | true => rfl
                | false => exact absurd ⟨k, by omega, by omega, hy⟩ hb
          obtain ⟨j, hj, hx⟩ := hex
          exact key (j + 1) ⟨j, by omega, hj, hx⟩
        obtain ⟨j, hj, hx, hlow⟩ := this
        have hm : j ∈ Region.ready .any ops L := ready_of (by omega) hx (fun o ho e he hb => by
          have := hpre j o ho e he hb
          rw [LD _ (by omega)]
          exact hlow _ this)
        rw [hr] at hm; cases hm
      · have hin := low i hi
        obtain ⟨h1, h2, h3⟩ := mem_ready hi
        have hdue : Due ops (fun j => j < ops.size ∧ L.getD j true = true) i := fun o ho' e he hb => by
          have hlt' := hpre i o ho' e he hb
          have := h3 o ho' e he hb
          rw [LD _ (by omega)] at this
          exact ⟨by omega, this⟩
        have heq : (fun j => (j < ops.size ∧ L.getD j true = true) ∨ j = i) = fun j => j < ops.size ∧ (L.setIfInBounds i true).getD j true = true := by
          funext j; apply propext
          rw [getD_set_true (by omega)]
          by_cases hj : j = i
          · subst hj; simp [h1]
          · simp [hj]
        refine Inv.step hc hA hcl hin hdue (fun hx => by rw [h2] at hx; cases hx.2) h (fun a' w' h' => ?_)
        rw [heq] at h'
        refine ih _ a' w' (by simpa using hLs) (fun j hj hjs => ?_) (heq ▸ hcl.more hdue) ?_ h'
        · rw [getD_set_true (by omega), if_neg (by omega)]; exact hno j hj hjs
        · have := countP_set (i := i) (p := fun j => !L.getD j true) (q := fun j => !(L.setIfInBounds i true).getD j true) (by simp [h2]) (by simp [getD_set_true (show i < L.size by omega)])
            (fun j hj => by simp only [getD_set_true (show i < L.size by omega), if_neg hj]) ops.size
          rw [if_pos h1] at this
          omega
end

/-! ### Behind the region -/
def ASpec.at (s : ASpec) (ds : List Nat) (vs : Nat → Value) (i : Nat) : SRel :=
  match s.al with
  | some (j, g) => SRel.eq (g (vs j))
  | none => match s.owns with
    | [] => s.R
    | _ => ⟨fun ρ v => v = vs i ∧ s.R.p ρ v, fun h ⟨e, r⟩ => ⟨e, s.R.mono h r⟩⟩
def aft (Γ : Nat → SRel) (all : List Nat) (vs : Nat → Value) : List Nat → List ASpec → Nat → Nat → SRel
  | d :: ds, s :: ss, i => fun t => match Nat.beq d t with | true => s.at all vs i | false => aft Γ all vs ds ss (i + 1) t
  | _, _, _ => Γ
def haftO (H : Nat → Res) (u : Value) : List (Nat × (Value → Res)) → Nat → Res
  | [] => H
  | e :: l => fun t => match Nat.beq e.1 t with | true => e.2 u | false => haftO H u l t
def haft (H : Nat → Res) (vs : Nat → Value) : List ASpec → Nat → Nat → Res
  | s :: ss, i => haftO (haft H vs ss (i + 1)) (vs i) s.owns
  | [], _ => H

theorem aft_cases {Γ : Nat → SRel} {all : List Nat} {vs : Nat → Value} : ∀ {ds : List Nat} {ss : List ASpec} {i t : Nat}, ds.length = ss.length →
    (∃ (j : Nat) (s : ASpec), ss[j]? = some s ∧ ds.getD j 0 = t ∧ aft Γ all vs ds ss i t = s.at all vs (i + j)) ∨ ((∀ j, j < ds.length → ds.getD j 0 ≠ t) ∧ aft Γ all vs ds ss i t = Γ t)
  | [], [], i, t, _ => .inr ⟨fun j hj => by simp at hj, rfl⟩
  | d :: ds, s :: ss, i, t, h => by
    simp only [aft]
    cases hb : Nat.beq d t with
    | true => exact .inl ⟨0, s, rfl, Nat.eq_of_beq_eq_true hb, rfl⟩
    | false =>
      rcases aft_cases (Γ := Γ) (all := all) (vs := vs) (ds := ds) (ss := ss) (i := i + 1) (t := t) (by simpa using h) with ⟨j, s', h1, h2, h3⟩ | ⟨h1, h2⟩
      · exact .inl ⟨j + 1, s', by simpa using h1, by simpa using h2, by rw [show i + (j + 1) = i + 1 + j by omega]; exact h3⟩
      · refine .inr ⟨fun j hj => ?_, h2⟩
        cases j with
        | zero => simp; exact Nat.ne_of_beq_eq_false hb
        | succ j => have := h1 j (by simpa using hj); simpa using this
theorem haftO_cases {H : Nat → Res} {u : Value} : ∀ {l : List (Nat × (Value → Res))} {t : Nat}, (∃ e ∈ l, e.1 = t ∧ haftO H u l t = e.2 u) ∨ (t ∉ l.map (·.1) ∧ haftO H u l t = H t)
  | [], t => .inr ⟨by simp, rfl⟩
  | e :: l, t => by
    simp only [haftO]
    cases hb : Nat.beq e.1 t with
    | true => exact .inl ⟨e, by simp, Nat.eq_of_beq_eq_true hb, rfl⟩
    | false =>
      rcases haftO_cases (H := H) (u := u) (l := l) (t := t) with ⟨f, h1, h2, h3⟩ | ⟨h1, h2⟩
      · exact .inl ⟨f, by simp [h1], h2, h3⟩
      · refine .inr ⟨?_, h2⟩
        rw [List.map_cons, List.mem_cons, not_or]
        exact ⟨fun h => Nat.ne_of_beq_eq_false hb h.symm, h1⟩
theorem haft_cases {H : Nat → Res} {vs : Nat → Value} : ∀ {ss : List ASpec} {i t : Nat},
    (∃ (j : Nat) (s : ASpec) (e : Nat × (Value → Res)), ss[j]? = some s ∧ e ∈ s.owns ∧ e.1 = t ∧ haft H vs ss i t = e.2 (vs (i + j))) ∨ (t ∉ ownIds ss ∧ haft H vs ss i t = H t)
  | [], i, t => .inr ⟨by simp [ownIds], rfl⟩
  | s :: ss, i, t => by
    simp only [haft]
    rcases haftO_cases (H := haft H vs ss (i + 1)) (u := vs i) (l := s.owns) (t := t) with ⟨e, h1, h2, h3⟩ | ⟨h1, h2⟩
    · exact .inl ⟨0, s, e, rfl, h1, h2, h3⟩
    · rcases haft_cases (H := H) (vs := vs) (ss := ss) (i := i + 1) (t := t) with ⟨j, s', e, k1, k2, k3, k4⟩ | ⟨k1, k2⟩
      · exact .inl ⟨j + 1, s', e, by simpa using k1, k2, k3, by rw [h2, k4, show i + (j + 1) = i + 1 + j by omega]⟩
      · refine .inr ⟨?_, by rw [h2, k2]⟩
        simp only [ownIds, List.flatMap_cons, List.mem_append, not_or]
        exact ⟨h1, k1⟩

theorem T.region {P : Program} {C : Ctx} {Γ : Nat → SRel} {H : Nat → Res} {Q : Exit → Act → World → Prop} {id : Nat} {ops : Array Oper} {draw : Bool} (hm : P.follows .mixedOrders = true)
    (n : Nat) (ds ancs : List Nat) (ss : List ASpec) (hc : chk ops.toList n C.n ds ancs ss draw = true) (hA : AOK P C Γ H ops ds ancs ss 0 ss ops.toList)
    (k : ∀ vs, T C (aft Γ ds vs ds ss 0) (haft H vs ss 0) (wpList P ops Q (ops.toList.drop n))) : T C Γ H ((Code.region id ops draw).wp P Q) := by
  intro ρ a w st
  have hc' := hc
  simp only [chk, Bool.and_eq_true, decide_eq_true_eq, beq_iff_eq] at hc'
  obtain ⟨⟨⟨⟨⟨⟨hsz, _⟩, hss⟩, hds⟩, hnd⟩, hal⟩, hcf⟩ := hc'
  have hB : ∀ a w, Inv C Γ H n ds ss (fun j => j < n) a w → wpList P ops Q (ops.toList.drop n) a w := by
    rintro a w ⟨hdf, hsize, ρ, HD, hsat, hΓ, hleft, hHo, hHD⟩
    have hH : haft H (fun i => slot a (ds.getD i 0)) ss 0 = HD := by
      funext t
      rcases haft_cases (H := H) (vs := fun i => slot a (ds.getD i 0)) (ss := ss) (i := 0) (t := t) with ⟨j, s, e, h1, h2, h3, h4⟩ | ⟨h1, h2⟩
      · rw [h4, ← h3, hHD j s e h1 h2 (by rw [← hss]; exact (List.getElem?_eq_some_iff.1 h1).1), Nat.zero_add]
      · rw [h2, hHo t h1]
    refine k (fun i => slot a (ds.getD i 0)) ρ a w ⟨hdf, hsize, fun t => ?_, by rw [hH]; exact hsat⟩
    rcases aft_cases (Γ := Γ) (all := ds) (vs := fun i => slot a (ds.getD i 0)) (ds := ds) (ss := ss) (i := 0) (t := t) (by omega) with ⟨j, s, h1, h2, h3⟩ | ⟨h1, h2⟩
    · rw [h3, Nat.zero_add]
      have hl := hleft j s h1 (by rw [← hss]; exact (List.getElem?_eq_some_iff.1 h1).1)
      unfold ASpec.left at hl
      rw [h2] at hl
      unfold ASpec.at
      cases hal : s.al with
      | some p => obtain ⟨j', g⟩ := p; exact hl.2 j' g hal
      | none =>
        simp only []
        split
        · exact hl.1
        · exact ⟨by simp only [h2]; rfl, hl.1⟩
    · rw [h2]
      exact hΓ t fun j hj _ => h1 j (by omega)
  have start : Inv C Γ H n ds ss (fun _ => False) a w := ⟨st.defers, st.size, ρ, H, st.sat, fun t _ => st.env t, fun _ _ _ h => h.elim, fun _ _ => rfl, fun _ _ _ _ _ h => h.elim⟩
  cases draw with
  | false =>
    refine wp_region_list ?_
    have := inv_list hc hA hB n 0 a w (by omega) (by
      have : (fun j => j < 0) = fun _ : Nat => False := by funext j; simp
      rw [this]; exact start)
    simpa using this
  | true =>
    refine wp_region_any hm ?_
    have hrep : ∀ j, (Array.replicate ops.size false).getD j true = (decide (ops.size ≤ j)) := fun j => by
      rw [Array.getD_eq_getD_getElem?, Array.getElem?_replicate]
      split <;> simp <;> omega
    have heq : (fun j => j < ops.size ∧ (Array.replicate ops.size false).getD j true = true) = fun _ => False := by
      funext j; apply propext; rw [hrep]; simp
    refine inv_any hc hA hB ops.size _ a _ (by simp) (fun j _ hj => by rw [hrep]; simpa using hj) (by rw [heq]; exact fun _ _ h => h.elim) ?_ ?_
    · have key : ∀ k, k ≤ ops.size → (List.range k).countP (fun j => !(Array.replicate ops.size false).getD j true) = k := by
        intro k
        induction k with
        | zero => intro _; rfl
        | succ k ih =>
          intro hk
          rw [List.range_succ, List.countP_append, ih (by omega), List.countP_singleton, hrep]
          simp; omega
      exact key _ (Nat.le_refl _)
    · rw [heq]
      obtain ⟨h1, h2, ρ', HD, h3, h4⟩ := start
      exact ⟨h1, h2, ρ', HD, ⟨h3.le, h3.ok, h3.apart, h3.mine, h3.fr.trans (BelowX.drawn _ _ _), h3.lim, h3.sle⟩, h4⟩
end Go.Proofs.Ytnpkhhfpgedkoaa
