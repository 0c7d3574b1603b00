/-
  Words for the plain laws: loops in closed form, copying loops, elements.
-/
import Derived.Test.YtnpkhhfpgedkoaaPure
set_option linter.unusedVariables false
set_option linter.unusedSimpArgs false
namespace Go.Proofs.Ytnpkhhfpgedkoaa
open Go

theorem rounds_eq : rounds = 18446744073709551616 := by unfold rounds; rfl
/-- A loop whose states are known. -/
theorem loopN_run {σ τ : Type} {f : σ → Option (σ ⊕ τ)} (I : Nat → σ) {y : τ} : ∀ (m i k : Nat), m < k → (∀ j, i ≤ j → j < i + m → f (I j) = some (.inl (I (j + 1)))) → f (I (i + m)) = some (.inr y) → loopN k f (I i) = some y
  | _, _, 0, h, _, _ => by omega
  | 0, i, k + 1, _, _, hl => by
    unfold loopN
    rw [Nat.add_zero] at hl
    rw [hl]
  | m + 1, i, k + 1, h, hs, hl => by
    unfold loopN
    rw [hs i (Nat.le_refl _) (by omega)]
    exact loopN_run I m (i + 1) k (by omega) (fun j h1 h2 => hs j (by omega) (by omega)) (by rw [show i + 1 + m = i + (m + 1) by omega]; exact hl)
theorem loop_run {σ τ : Type} {f : σ → Option (σ ⊕ τ)} {s : σ} {y : τ} (I : Nat → σ) (m : Nat) (hm : m < 18446744073709551616) (h0 : s = I 0) (hs : ∀ j, j < m → f (I j) = some (.inl (I (j + 1)))) (hl : f (I m) = some (.inr y)) : loopN rounds f s = some y := by
  subst h0
  exact loopN_run I m 0 rounds (by rw [rounds_eq]; exact hm) (fun j _ h => hs j (by omega)) (by rw [Nat.zero_add]; exact hl)
/-- A loop that goes on while something holds, by what it keeps. -/
theorem loop_inv {σ τ : Type} {f : σ → Option (σ ⊕ τ)} (I : σ → Prop) (μ : σ → Nat) (R : τ → Prop) : ∀ (n : Nat) (s : σ) (k : Nat), μ s ≤ n → n < k → I s →
    (∀ s, I s → (∃ s', f s = some (.inl s') ∧ I s' ∧ μ s' < μ s) ∨ ∃ y, f s = some (.inr y) ∧ R y) → ∃ y, loopN k f s = some y ∧ R y
  | n, s, 0, _, h, _, _ => by omega
  | n, s, k + 1, hn, hk, hI, hs => by
    rcases hs s hI with ⟨s', h1, h2, h3⟩ | ⟨y, h1, h2⟩
    · cases n with
      | zero => omega
      | succ n =>
        obtain ⟨y, hy, hR⟩ := loop_inv I μ R n s' k (by omega) (by omega) h2 hs
        exact ⟨y, by unfold loopN; rw [h1]; exact hy, hR⟩
    · exact ⟨y, by unfold loopN; rw [h1], h2⟩
theorem loop_keep {σ τ : Type} {f : σ → Option (σ ⊕ τ)} {s : σ} (I : σ → Prop) (μ : σ → Nat) (R : τ → Prop) (hm : μ s < 18446744073709551616) (hI : I s)
    (hs : ∀ s, I s → (∃ s', f s = some (.inl s') ∧ I s' ∧ μ s' < μ s) ∨ ∃ y, f s = some (.inr y) ∧ R y) : ∃ y, loopN rounds f s = some y ∧ R y :=
  loop_inv I μ R _ s rounds (Nat.le_refl _) (by rw [rounds_eq]; exact hm) hI hs
theorem idx_nat {α : Type} {xs : List α} {i : Nat} {x : α} (h : xs[i]? = some x) : idx xs (i : Int) = some x := by simp [idx, h]
theorem idx_nth {α : Type} [Inhabited α] {xs : List α} {i : Nat} (h : i < xs.length) : idx xs (i : Int) = some (nth xs i) := idx_nat (nth_get h)
theorem idx_in {α : Type} [Inhabited α] {xs : List α} {i : Int} (h0 : 0 ≤ i) (h : i < xs.length) : idx xs i = some (nth xs i.toNat) := by
  unfold idx
  rw [if_pos h0, nth_get (by omega)]
theorem wrap64 {n : Int} (h1 : -9223372036854775808 ≤ n) (h2 : n ≤ 9223372036854775807) : IntKind.i64.wrap n = n := by
  simp only [IntKind.wrap, IntKind.bits, IntKind.signed, Int.bmod]; simp; omega
theorem wrap_in (k : IntKind) {n : Int} (h1 : k.min ≤ n) (h2 : n ≤ k.max) : k.wrap n = n := by
  cases k <;> simp only [IntKind.wrap, IntKind.min, IntKind.max, IntKind.bits, IntKind.signed, Int.bmod] at * <;> simp at * <;> omega
theorem nth_mem {α : Type} [Inhabited α] {xs : List α} {i : Nat} (h : i < xs.length) : nth xs i ∈ xs := List.mem_of_getElem? (nth_get h)
/-- Copying, element for element, through the function that turns each. -/
def conv (α : Type) {β : Type} (m : Nat) (x : List α) (g : α → Option β) : (Int × List β) → Option ((Int × List β) ⊕ (Int × List β)) := fun (s, r) =>
  if decide (s < (m : Int)) = true then (idx x s).bind fun a => (idx r s).bind fun _ => (g a).bind fun b => some (.inl (IntKind.i64.wrap (s + 1), r.set s.toNat b)) else some (.inr (s, r))
theorem take_set {β : Type} {x r : List β} {i : Nat} {b : β} (hr : r.length = x.length) (hi : i < x.length) (hb : x[i]? = some b) : (x.take i ++ r.drop i).set i b = x.take (i + 1) ++ r.drop (i + 1) := by
  apply List.ext_getElem?
  intro j
  rw [List.getElem?_set]
  have hl : (x.take i ++ r.drop i).length = x.length := by simp; omega
  by_cases hj : i = j
  · subst hj
    rw [if_pos rfl, if_pos (by omega), List.getElem?_append_left (by simp; omega), List.getElem?_take, if_pos (by omega), hb]
  · rw [if_neg hj]
    rcases Nat.lt_or_ge j i with h | h
    · rw [List.getElem?_append_left (by simp; omega), List.getElem?_append_left (by simp; omega), List.getElem?_take, List.getElem?_take, if_pos h, if_pos (by omega)]
    · rw [List.getElem?_append_right (by simp; omega), List.getElem?_append_right (by simp; omega), List.getElem?_drop, List.getElem?_drop]
      congr 1
      simp
      omega
theorem copy_loop {α : Type} {m : Nat} {x r : List α} {f : (Int × List α) → Option ((Int × List α) ⊕ (Int × List α))} (hm : m < 1000000) (hx : x.length = m) (hr : r.length = m)
    (hf : ∀ (i : Nat) (a : α) (r : List α), i < m → r.length = m → x[i]? = some a → f ((i : Int), r) = some (.inl (((i + 1 : Nat) : Int), r.set i a)))
    (hl : ∀ r, f ((m : Int), r) = some (.inr ((m : Int), r))) : loopN rounds f (0, r) = some ((m : Int), x) := by
  refine loop_run (fun i => ((i : Int), x.take i ++ r.drop i)) m (by omega) (by simp) (fun j hj => ?_) ?_
  · have hb : x[j]? = some x[j] := List.getElem?_eq_getElem (by omega)
    rw [hf j _ _ hj (by simp; omega) hb, take_set (by omega) (by omega) hb]
  · rw [hl, List.take_of_length_le (by omega), List.drop_eq_nil_of_le (by omega), List.append_nil]
end Go.Proofs.Ytnpkhhfpgedkoaa
