/-
  Words for the plain laws: loops in closed form, copying loops, elements.
-/
import Derived.Test.YtnpkhhfpgedkoaaPure
set_option linter.unusedVariables false
set_option linter.unusedSimpArgs false
namespace Go.Proofs.Ytnpkhhfpgedkoaa
open Go

theorem rounds_eq : rounds = 18446744073709551616 := by unfold rounds; rfl
/-- A loop whose states are known. -/
theorem loopN_run {σ τ : Type} {f : σ → Option (σ ⊕ τ)} (I : Nat → σ) {y : τ} : ∀ (m i k : Nat), m < k → (∀ j, i ≤ j → j < i + m → f (I j) = some (.inl (I (j + 1)))) → f (I (i + m)) = some (.inr y) → loopN k f (I i) = some y
  | _, _, 0, h, _, _ => by omega
  | 0, i, k + 1, _, _, hl => by
    unfold loopN
    rw [Nat.add_zero] at hl
    rw [hl]
  | m + 1, i, k + 1, h, hs, hl => by
    unfold loopN
    rw [hs i (Nat.le_refl _) (by omega)]
    exact loopN_run I m (i + 1) k (by omega) (fun j h1 h2 => hs j (by omega) (by omega)) (by rw [show i + 1 + m = i + (m + 1) by omega]; exact hl)
theorem loop_run {σ τ : Type} {f : σ → Option (σ ⊕ τ)} {s : σ} {y : τ} (I : Nat → σ) (m : Nat) (hm : m < 18446744073709551616) (h0 : s = I 0) (hs : ∀ j, j < m → f (I j) = some (.inl (I (j + 1)))) (hl : f (I m) = some (.inr y)) : loopN rounds f s = some y := by
  subst h0
  exact loopN_run I m 0 rounds (by rw [rounds_eq]; exact hm) (fun j _ h => hs j (by omega)) (by rw [Nat.zero_add]; exact hl)
/-- A loop that goes on while something holds, by what it keeps. -/
theorem loop_inv {σ τ : Type} {f : σ → Option (σ ⊕ τ)} (I : σ → Prop) (μ : σ → Nat) (R : τ → Prop) : ∀ (n : Nat) (s : σ) (k : Nat), μ s ≤ n → n < k → I s →
    (∀ s, I s → (∃ s', f s = some (.inl s') ∧ I s' ∧ μ s' < μ s) ∨ ∃ y, f s = some (.inr y) ∧ R y) → ∃ y, loopN k f s = some y ∧ R y
  | n, s, 0, _, h, _, _ => by omega
  | n, s, k + 1, hn, hk, hI, hs => by
    rcases hs s hI with ⟨s', h1, h2, h3⟩ | ⟨y, h1, h2⟩
    · cases n with
      | zero => omega
      | succ n =>
        obtain ⟨y, hy, hR⟩ := loop_inv I μ R n s' k (by omega) (by omega) h2 hs
        exact ⟨y, by unfold loopN; rw [h1]; exact hy, hR⟩
    · exact ⟨y, by unfold loopN; rw [h1], h2⟩
theorem loop_keep {σ τ : Type} {f : σ → Option (σ ⊕ τ)} {s : σ} (I : σ → Prop) (μ : σ → Nat) (R : τ → Prop) (hm : μ s < 18446744073709551616) (hI : I s)
    (hs : ∀ s, I s → (∃ s', f s = some (.inl s') ∧ I s' ∧ μ s' < μ s) ∨ ∃ y, f s = some (.inr y) ∧ R y) : ∃ y, loopN rounds f s = some y ∧ R y :=
  loop_inv I μ R _ s rounds (Nat.le_refl _) (by rw [rounds_eq]; exact hm) hI hs
theorem idx_nat {α : Type} {xs : List α} {i : Nat} {x : α} (h : xs[i]? = some x) : idx xs (i : Int) = some x := by simp [idx, h]
theorem idx_nth {α : Type} [Inhabited α] {xs : List α} {i : Nat} (h : i < xs.length) : idx xs (i : Int) = some (nth xs i) := idx_nat (nth_get h)
theorem idx_in {α : Type} [Inhabited α] {xs : List α} {i : Int} (h0 : 0 ≤ i) (h : i < xs.length) : idx xs i = some (nth xs i.toNat) := by
  unfold idx
  rw [if_pos h0, nth_get (by omega)]
theorem wrap64 {n : Int} (h1 : -9223372036854775808 ≤ n) (h2 : n ≤ 9223372036854775807) : IntKind.i64.wrap n = n := by
  simp only [IntKind.wrap, IntKind.bits, IntKind.signed, Int.bmod]; simp; omega
theorem wrap_in (k : IntKind) {n : Int} (h1 : k.min ≤ n) (h2 : n ≤ k.max) : k.wrap n = n := by
  cases k <;> simp only [IntKind.wrap, IntKind.min, IntKind.max, IntKind.bits, IntKind.signed, Int.bmod] at * <;> simp at * <;> omega
theorem nth_mem {α : Type} [Inhabited α] {xs : List α} {i : Nat} (h : i < xs.length) : nth xs i ∈ xs := List.mem_of_getElem? (nth_get h)
/-- Copying, element for element, through the function that turns each. -/
def conv (α : Type) {β : Type} (m : Nat) (x : List α) (g : α → Option β) : (Int × List β) → Option ((Int × List β) ⊕ (Int × List β)) := fun (s, r) =>
  if decide (s < (m : Int)) = true then (idx x s).bind fun a => (idx r s).bind fun _ => (g a).bind fun b => some (.inl (IntKind.i64.wrap (s + 1), r.set s.toNat b)) else some (.inr (s, r))
theorem take_set {β : Type} {x r : List β} {i : Nat} {b : β} (hr : r.length = x.length) (hi : i < x.length) (hb : x[i]? = some b) : (x.take i ++ r.drop i).set i b = x.take (i + 1) ++ r.drop (i + 1) := by
  apply List.ext_getElem?
  intro j
  rw [List.getElem?_set]
  have hl : (x.take i ++ r.drop i).length = x.length := by simp; omega
  by_cases hj : i = j
  · subst hj
    rw [if_pos rfl, if_pos (by omega), List.getElem?_append_left (by simp; omega), List.getElem?_take, if_pos (by omega), hb]
  · rw [if_neg hj]
    rcases Nat.lt_or_ge j i with h | h
    · rw [List.getElem?_append_left (by simp; omega), List.getElem?_append_left (by simp; omega), List.getElem?_take, List.getElem?_take, if_pos h, if_pos (by omega)]
    · rw [List.getElem?_append_right (by simp; omega), List.getElem?_append_right (by simp; omega), List.getElem?_drop, List.getElem?_drop]
      congr 1
      simp
      omega
theorem copy_loopN {α : Type} {m : Nat} {x r : List α} {f : (Int × List α) → Option ((Int × List α) ⊕ (Int × List α))} (hm : m < 1000000000) (hx : x.length = m) (hr : r.length = m)
    (hf : ∀ (i : Nat) (a : α) (r : List α), i < m → r.length = m → x[i]? = some a → f ((i : Int), r) = some (.inl (((i + 1 : Nat) : Int), r.set i a)))
    (hl : ∀ r, f ((m : Int), r) = some (.inr ((m : Int), r))) : loopN rounds f (0, r) = some ((m : Int), x) := by
  refine loop_run (fun i => ((i : Int), x.take i ++ r.drop i)) m (by omega) (by simp) (fun j hj => ?_) ?_
  · have hb : x[j]? = some x[j] := List.getElem?_eq_getElem (by omega)
    rw [hf j _ _ hj (by simp; omega) hb, take_set (by omega) (by omega) hb]
  · rw [hl, List.take_of_length_le (by omega), List.drop_eq_nil_of_le (by omega), List.append_nil]
theorem copy_loop {α : Type} {m : Nat} {x r : List α} {f : (Int × List α) → Option ((Int × List α) ⊕ (Int × List α))} (hm : m < 1000000) (hx : x.length = m) (hr : r.length = m)
    (hf : ∀ (i : Nat) (a : α) (r : List α), i < m → r.length = m → x[i]? = some a → f ((i : Int), r) = some (.inl (((i + 1 : Nat) : Int), r.set i a)))
    (hl : ∀ r, f ((m : Int), r) = some (.inr ((m : Int), r))) : loopN rounds f (0, r) = some ((m : Int), x) := by
  refine loop_run (fun i => ((i : Int), x.take i ++ r.drop i)) m (by omega) (by simp) (fun j hj => ?_) ?_
  · have hb : x[j]? = some x[j] := List.getElem?_eq_getElem (by omega)
    rw [hf j _ _ hj (by simp; omega) hb, take_set (by omega) (by omega) hb]
  · rw [hl, List.take_of_length_le (by omega), List.drop_eq_nil_of_le (by omega), List.append_nil]

/-! ### The first of which something holds -/
def idxLoop {α : Type} (xs : List α) (f : α → Option Bool) : Int → Option (Int ⊕ (Int ⊕ Int)) := fun s =>
  (if (decide (s < (xs.length : Int))) = true then (idx xs s).bind fun x => (f x).bind fun b => (if b = true then some (.inr (.inr s)) else some (.inl (IntKind.i64.wrap (s + 1)))) else some (.inr (.inl s)))
theorem idxLoop_run {α : Type} {xs : List α} {f : α → Option Bool} {p : α → Bool} (hl : xs.length ≤ 9223372036854775807) (hf : ∀ x ∈ xs, f x = some (p x)) :
    ∃ y, loopN rounds (idxLoop xs f) 0 = some y ∧ ((∃ o, y = .inl o ∧ ∀ x ∈ xs, p x = false) ∨ ∃ (i : Nat) (x : α), y = .inr (i : Int) ∧ xs[i]? = some x ∧ p x = true ∧ ∀ j y, j < i → xs[j]? = some y → p y = false) := by
  refine loop_keep (fun s => ∃ i : Nat, s = (i : Int) ∧ i ≤ xs.length ∧ ∀ j y, j < i → xs[j]? = some y → p y = false) (fun s => xs.length - s.toNat) _ (by omega) ⟨0, rfl, Nat.zero_le _, fun j _ h => by omega⟩ ?_
  rintro s ⟨i, rfl, hi, hp⟩
  unfold idxLoop
  by_cases h : i < xs.length
  · have hx : xs[i]? = some xs[i] := List.getElem?_eq_getElem h
    simp only [show ((i : Int) < (xs.length : Int)) from by omega, decide_true, if_true, idx_nat hx, Option.bind_some, hf _ (List.getElem_mem h)]
    cases hb : p xs[i] with
    | true => exact .inr ⟨_, rfl, .inr ⟨i, _, rfl, hx, hb, hp⟩⟩
    | false =>
      refine .inl ⟨_, rfl, ⟨i + 1, ?_, by omega, fun j y hj hy => ?_⟩, ?_⟩
      · rw [wrap64 (by omega) (by omega)]; rfl
      · rcases Nat.lt_or_ge j i with h1 | h1
        · exact hp j y h1 hy
        · have : j = i := by omega
          subst this
          rw [hx] at hy; cases hy; exact hb
      · rw [wrap64 (by omega) (by omega)]; omega
  · simp only [show ¬ ((i : Int) < (xs.length : Int)) from by omega, decide_false, Bool.false_eq_true, if_false]
    refine .inr ⟨_, rfl, .inl ⟨_, rfl, fun x hx => ?_⟩⟩
    obtain ⟨j, hj⟩ := List.getElem?_of_mem hx
    exact hp j x (by have := (List.getElem?_eq_some_iff.1 hj).1; omega) hj
def indexOf {α : Type} (xs : List α) (f : α → Option Bool) : Option Int := (loopN rounds (idxLoop xs f) 0).bind fun y => (match y with | .inl _ => some (-1) | .inr r => some r)
theorem containsOf {α : Type} {xs : List α} {f : α → Option Bool} {p : α → Bool} (hl : xs.length ≤ 9223372036854775807) (hf : ∀ x ∈ xs, f x = some (p x)) : (indexOf xs f).bind (fun x => some (decide (0 ≤ x))) = some (xs.any p) := by
  obtain ⟨y, hy, h⟩ := idxLoop_run hl hf
  unfold indexOf
  rw [hy]
  rcases h with ⟨o, rfl, h⟩ | ⟨i, x, rfl, hx, hp, _⟩
  · have : xs.any p = false := by rw [List.any_eq_false]; intro x hx; simp [h x hx]
    simp [this]
  · have : xs.any p = true := List.any_eq_true.2 ⟨x, List.mem_of_getElem? hx, hp⟩
    simp [this]

/-! ### Loops that count -/
/-- So many rounds of a step. -/
def fold {β : Type} (g : Nat → β → β) : Nat → β → β
  | 0, r => r
  | n + 1, r => g n (fold g n r)
theorem fold_loop {β : Type} {f : (Int × β) → Option ((Int × β) ⊕ (Int × β))} {n : Nat} {r0 : β} (g : Nat → β → β) (P : β → Prop) (hn : n ≤ 9223372036854775807) (h0 : P r0)
    (hf : ∀ (i : Nat) r, i < n → P r → f ((i : Int), r) = some (.inl (((i + 1 : Nat) : Int), g i r)) ∧ P (g i r)) (hl : ∀ r, P r → f ((n : Int), r) = some (.inr ((n : Int), r))) :
    loopN rounds f (0, r0) = some ((n : Int), fold g n r0) ∧ P (fold g n r0) := by
  have hP : ∀ j, j ≤ n → P (fold g j r0) := by
    intro j
    induction j with
    | zero => intro _; exact h0
    | succ j ih => intro hj; exact (hf j _ (by omega) (ih (by omega))).2
  exact ⟨loop_run (fun j => ((j : Int), fold g j r0)) n (by omega) rfl (fun j hj => (hf j _ hj (hP j (by omega))).1) (hl _ (hP n (Nat.le_refl _))), hP n (Nat.le_refl _)⟩
theorem fold_loop' {β τ : Type} {f : (Int × β) → Option ((Int × β) ⊕ ((Int × β) ⊕ τ))} {n : Nat} {r0 : β} (g : Nat → β → β) (P : β → Prop) (hn : n ≤ 9223372036854775807) (h0 : P r0)
    (hf : ∀ (i : Nat) r, i < n → P r → f ((i : Int), r) = some (.inl (((i + 1 : Nat) : Int), g i r)) ∧ P (g i r)) (hl : ∀ r, P r → f ((n : Int), r) = some (.inr (.inl ((n : Int), r)))) :
    loopN rounds f (0, r0) = some (.inl ((n : Int), fold g n r0)) ∧ P (fold g n r0) := by
  have hP : ∀ j, j ≤ n → P (fold g j r0) := by
    intro j
    induction j with
    | zero => intro _; exact h0
    | succ j ih => intro hj; exact (hf j _ (by omega) (ih (by omega))).2
  exact ⟨loop_run (fun j => ((j : Int), fold g j r0)) n (by omega) rfl (fun j hj => (hf j _ hj (hP j (by omega))).1) (hl _ (hP n (Nat.le_refl _))), hP n (Nat.le_refl _)⟩
/-- A loop that looks for the first place of which something holds. -/
theorem find_loop {τ : Type} {f : Int → Option (Int ⊕ (Int ⊕ τ))} {n : Nat} (p : Nat → Bool) (v : Nat → τ) (hn : n ≤ 9223372036854775807)
    (hf : ∀ i : Nat, i < n → p i = false → f (i : Int) = some (.inl ((i + 1 : Nat) : Int))) (hv : ∀ i : Nat, i < n → p i = true → f (i : Int) = some (.inr (.inr (v i)))) (hl : f (n : Int) = some (.inr (.inl (n : Int)))) :
    ((∀ i, i < n → p i = false) ∧ loopN rounds f 0 = some (.inl (n : Int))) ∨ ∃ i, i < n ∧ p i = true ∧ (∀ j, j < i → p j = false) ∧ loopN rounds f 0 = some (.inr (v i)) := by
  rcases Classical.em (∃ i, i < n ∧ p i = true) with h | h
  · obtain ⟨i, hi, hp⟩ := h
    have key : ∀ i, i < n → p i = true → ∃ k, k < n ∧ p k = true ∧ ∀ j, j < k → p j = false := by
      intro i
      induction i using Nat.strongRecOn with
      | _ i ih =>
        intro hi hp
        rcases Classical.em (∃ j, j < i ∧ p j = true) with ⟨j, hj, hpj⟩ | hno
        · exact ih j hj (by omega) hpj
        · exact ⟨i, hi, hp, fun j hj => by cases hq : p j with
            | false => rfl
            | true => exact absurd ⟨j, hj, hq⟩ hno⟩
    obtain ⟨k, hk, hpk, hj⟩ := key i hi hp
    exact .inr ⟨k, hk, hpk, hj, loop_run (fun j => (j : Int)) k (by omega) rfl (fun j hjk => hf j (by omega) (hj j hjk)) (hv k hk hpk)⟩
  · have hno : ∀ i, i < n → p i = false := fun i hi => by
      cases hq : p i with
      | false => rfl
      | true => exact absurd ⟨i, hi, hq⟩ h
    exact .inl ⟨hno, loop_run (fun j => (j : Int)) n (by omega) rfl (fun j hj => hf j hj (hno j hj)) hl⟩
theorem first_or {n : Nat} (p : Nat → Bool) : (∀ i, i < n → p i = false) ∨ ∃ i, i < n ∧ p i = true ∧ ∀ j, j < i → p j = false := by
  rcases Classical.em (∃ i, i < n ∧ p i = true) with ⟨i, hi, hp⟩ | h
  · right
    have key : ∀ i, i < n → p i = true → ∃ k, k < n ∧ p k = true ∧ ∀ j, j < k → p j = false := by
      intro i
      induction i using Nat.strongRecOn with
      | _ i ih =>
        intro hi hp
        rcases Classical.em (∃ j, j < i ∧ p j = true) with ⟨j, hj, hpj⟩ | hno
        · exact ih j hj (by omega) hpj
        · exact ⟨i, hi, hp, fun j hj => by cases hq : p j with
            | false => rfl
            | true => exact absurd ⟨j, hj, hq⟩ hno⟩
    exact key i hi hp
  · left
    intro i hi
    cases hq : p i with
    | false => rfl
    | true => exact absurd ⟨i, hi, hq⟩ h
/-- The same with a state beside the count. -/
theorem find_loopS {β τ : Type} {f : (Int × β) → Option ((Int × β) ⊕ ((Int × β) ⊕ τ))} {n : Nat} (S : Nat → β) (p : Nat → Bool) (v : Nat → τ) (hn : n ≤ 9223372036854775807)
    (hf : ∀ i : Nat, i < n → (∀ j, j < i → p j = false) → p i = false → f ((i : Int), S i) = some (.inl (((i + 1 : Nat) : Int), S (i + 1)))) (hv : ∀ i : Nat, i < n → (∀ j, j < i → p j = false) → p i = true → f ((i : Int), S i) = some (.inr (.inr (v i))))
    (hl : (∀ j, j < n → p j = false) → f ((n : Int), S n) = some (.inr (.inl ((n : Int), S n)))) :
    ((∀ i, i < n → p i = false) ∧ loopN rounds f (0, S 0) = some (.inl ((n : Int), S n))) ∨ ∃ i, i < n ∧ p i = true ∧ (∀ j, j < i → p j = false) ∧ loopN rounds f (0, S 0) = some (.inr (v i)) := by
  rcases first_or (n := n) p with h | ⟨k, hk, hpk, hj⟩
  · exact .inl ⟨h, loop_run (fun j => ((j : Int), S j)) n (by omega) rfl (fun j hjn => hf j hjn (fun q hq => h q (by omega)) (h j hjn)) (hl h)⟩
  · exact .inr ⟨k, hk, hpk, hj, loop_run (fun j => ((j : Int), S j)) k (by omega) rfl (fun j hjk => hf j (by omega) (fun q hq => hj q (by omega)) (hj j hjk)) (hv k hk hj hpk)⟩
theorem fold_loopL {β : Type} {f : (β × Int) → Option ((β × Int) ⊕ (β × Int))} {n : Nat} {r0 : β} (g : Nat → β → β) (P : Nat → β → Prop) (hn : n ≤ 9223372036854775807) (h0 : P 0 r0)
    (hf : ∀ (i : Nat) r, i < n → P i r → f (r, (i : Int)) = some (.inl (g i r, ((i + 1 : Nat) : Int))) ∧ P (i + 1) (g i r)) (hl : ∀ r, P n r → f (r, (n : Int)) = some (.inr (r, (n : Int)))) :
    loopN rounds f (r0, 0) = some (fold g n r0, (n : Int)) ∧ P n (fold g n r0) := by
  have hP : ∀ j, j ≤ n → P j (fold g j r0) := by
    intro j
    induction j with
    | zero => intro _; exact h0
    | succ j ih => intro hj; exact (hf j _ (by omega) (ih (by omega))).2
  exact ⟨loop_run (fun j => (fold g j r0, (j : Int))) n (by omega) rfl (fun j hj => (hf j _ hj (hP j (by omega))).1) (hl _ (hP n (Nat.le_refl _))), hP n (Nat.le_refl _)⟩
theorem succ16 {i : Nat} (h : i < 32767) : IntKind.i16.wrap ((i : Int) + 1) = ((i + 1 : Nat) : Int) := wrap_in .i16 (by simp [IntKind.min, IntKind.signed, IntKind.bits]; omega) (by simp [IntKind.max, IntKind.signed, IntKind.bits]; omega)
theorem fold3 {β γ : Type} {f : (γ × Int × β) → Option ((γ × Int × β) ⊕ (γ × Int × β))} {n : Nat} {s0 : γ} {r0 : β} (g : Nat → γ × β → γ × β) (P : Nat → γ × β → Prop) (hn : n ≤ 9223372036854775807) (h0 : P 0 (s0, r0))
    (hf : ∀ (i : Nat) s r, i < n → P i (s, r) → f (s, (i : Int), r) = some (.inl ((g i (s, r)).1, ((i + 1 : Nat) : Int), (g i (s, r)).2)) ∧ P (i + 1) (g i (s, r))) (hl : ∀ s r, f (s, (n : Int), r) = some (.inr (s, (n : Int), r))) :
    loopN rounds f (s0, 0, r0) = some ((fold g n (s0, r0)).1, (n : Int), (fold g n (s0, r0)).2) := by
  have hP : ∀ j, j ≤ n → P j (fold g j (s0, r0)) := by
    intro j
    induction j with
    | zero => intro _; exact h0
    | succ j ih => intro hj; exact (hf j _ _ (by omega) (ih (by omega))).2
  exact loop_run (fun j => ((fold g j (s0, r0)).1, (j : Int), (fold g j (s0, r0)).2)) n (by omega) rfl (fun j hj => (hf j _ _ hj (hP j (by omega))).1) (hl _ _)
/-- A loop that goes to its end. -/
theorem count_loop {τ : Type} {f : Int → Option (Int ⊕ τ)} {n : Nat} {y : τ} (hn : n ≤ 9223372036854775807) (hf : ∀ i : Nat, i < n → f (i : Int) = some (.inl ((i + 1 : Nat) : Int))) (hl : f (n : Int) = some (.inr y)) : loopN rounds f 0 = some y :=
  loop_run (fun j => (j : Int)) n (by omega) rfl hf hl
/-- All elements, by a loop. -/
theorem all_loop {τ α : Type} {xs : List α} {f : Int → Option (Int ⊕ (Int ⊕ τ))} (p : α → Bool) (v : τ) (hn : xs.length ≤ 9223372036854775807)
    (hf : ∀ (i : Nat) x, xs[i]? = some x → f (i : Int) = if p x = true then some (.inl ((i + 1 : Nat) : Int)) else some (.inr (.inr v))) (hl : f (xs.length : Int) = some (.inr (.inl (xs.length : Int)))) :
    loopN rounds f 0 = some (if xs.all p = true then .inl (xs.length : Int) else .inr v) := by
  have h1 : ∀ i : Nat, i < xs.length → (!((xs[i]?).map p).getD true) = false → f (i : Int) = some (.inl ((i + 1 : Nat) : Int)) := fun i hi h => by
    have hx : xs[i]? = some xs[i] := List.getElem?_eq_getElem hi
    rw [hf i _ hx, if_pos (by simpa [hx] using h)]
  have h2 : ∀ i : Nat, i < xs.length → (!((xs[i]?).map p).getD true) = true → f (i : Int) = some (.inr (.inr v)) := fun i hi h => by
    have hx : xs[i]? = some xs[i] := List.getElem?_eq_getElem hi
    rw [hf i _ hx, if_neg (by simpa [hx] using h)]
  rcases find_loop (f := f) (n := xs.length) (fun i => !((xs[i]?).map p).getD true) (fun _ => v) hn h1 h2 hl with ⟨h1, h2⟩ | ⟨i, hi, h1, _, h2⟩
  · have : xs.all p = true := by
      rw [List.all_eq_true]
      intro x hx
      obtain ⟨j, hj⟩ := List.getElem?_of_mem hx
      have := h1 j (List.getElem?_eq_some_iff.1 hj).1
      simpa [hj] using this
    rw [h2, if_pos this]
  · have hx : xs[i]? = some xs[i] := List.getElem?_eq_getElem hi
    have : ¬ xs.all p = true := by
      rw [List.all_eq_true]
      intro h
      have := h _ (List.getElem_mem hi)
      simp [hx, this] at h1
    rw [h2, if_neg this]
/-! ### Marks laid into memory, and looked for again -/
theorem mark_loop {α : Type} {L : List α} {k c : Int} {f : (Int × Int × List α) → Option ((Int × Int × List α) ⊕ (Int × Int × List α))} (M : Nat → α) (hn : L.length ≤ 9223372036854775807)
    (hf : ∀ (i : Nat) (r : List α) (x : α), i < L.length → r.length = L.length → r[i]? = some x → L[i]? = some x → f (k + c * (i : Int), (i : Int), r) = some (.inl (k + c * ((i + 1 : Nat) : Int), ((i + 1 : Nat) : Int), r.set i (M i))))
    (hl : ∀ s r, r.length = L.length → f (s, (L.length : Int), r) = some (.inr (s, (L.length : Int), r))) : loopN rounds f (k, 0, L) = some (k + c * (L.length : Int), (L.length : Int), (List.range L.length).map M) := by
  have hX : ((List.range L.length).map M).length = L.length := by simp
  refine loop_run (fun i => (k + c * (i : Int), (i : Int), ((List.range L.length).map M).take i ++ L.drop i)) L.length (by omega) (by simp) (fun j hj => ?_) ?_
  · have hx : L[j]? = some L[j] := List.getElem?_eq_getElem hj
    have hb : ((List.range L.length).map M)[j]? = some (M j) := by simp [List.getElem?_range, hj]
    rw [hf j _ _ hj (by simp; omega) (by rw [List.getElem?_append_right (by simp; omega)]; simp [Nat.min_eq_left (Nat.le_of_lt hj)]) hx, take_set hX.symm (by omega) hb]
  · rw [hl _ _ (by simp), List.take_of_length_le (by omega), List.drop_eq_nil_of_le (by omega), List.append_nil]
theorem held_loop {τ : Type} {n : Nat} {k c : Int} {f : (Int × Int) → Option ((Int × Int) ⊕ ((Int × Int) ⊕ τ))} (hn : n ≤ 9223372036854775807)
    (hf : ∀ i : Nat, i < n → f (k + c * (i : Int), (i : Int)) = some (.inl (k + c * ((i + 1 : Nat) : Int), ((i + 1 : Nat) : Int)))) (hl : f (k + c * (n : Int), (n : Int)) = some (.inr (.inl (k + c * (n : Int), (n : Int))))) :
    loopN rounds f (k, 0) = some (.inl (k + c * (n : Int), (n : Int))) :=
  loop_run (fun i => (k + c * (i : Int), (i : Int))) n (by omega) (by simp) hf hl
theorem succ64 {i : Nat} (h : i < 9223372036854775807) : IntKind.i64.wrap ((i : Int) + 1) = ((i + 1 : Nat) : Int) := by rw [wrap64 (by omega) (by omega)]; rfl
theorem app_some {α : Type} {xs ys : List α} (h : xs.length + ys.length ≤ 1073741824) : app xs ys = some (xs ++ ys) := by unfold app most; rw [if_pos h]
theorem list2 {x : List Int} (h : x.length = 2) : x = [nth x 0, nth x 1] := by
  match x, h with
  | [a, b], _ => rfl
end Go.Proofs.Ytnpkhhfpgedkoaa
