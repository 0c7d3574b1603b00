/- The plain law of FnExactSameScene, and what it leans on. -/
import Derived.Test.YtjmlfdhddbhlpaaFT
import Derived.Test.YtjmlfdhddbhlpaaWords
set_option linter.unusedVariables false
set_option linter.unusedSimpArgs false
set_option maxRecDepth 100000
set_option maxHeartbeats 1600000
namespace Go.Proofs.Ytjmlfdhddbhlpaa
open Go
def camOk (x : List Nat × List Nat × List Nat × Nat × Nat) : Prop := x.1.length = 3 ∧ x.2.1.length = 3 ∧ x.2.2.1.length = 3
/-- Element for element, as one says. -/
def all2 {α β : Type} [Inhabited α] [Inhabited β] (p : α → β → Bool) (a : List α) (b : List β) : Bool := (List.range a.length).all fun i => p (nth a i) (nth b i)
theorem all2_iff {α β : Type} [Inhabited α] [Inhabited β] {p : α → β → Bool} {a : List α} {b : List β} : all2 p a b = true ↔ ∀ i, i < a.length → p (nth a i) (nth b i) = true := by
  unfold all2
  simp [List.all_eq_true]
theorem zip_loop {α β : Type} [Inhabited α] [Inhabited β] {a : List α} {b : List β} {f : Int → Option (Int ⊕ (Int ⊕ Bool))} (p : α → β → Bool) (hn : a.length ≤ 9223372036854775806)
    (hf : ∀ i : Nat, i < a.length → f (i : Int) = if p (nth a i) (nth b i) = true then some (.inl ((i + 1 : Nat) : Int)) else some (.inr (.inr false))) (hl : f (a.length : Int) = some (.inr (.inl (a.length : Int)))) :
    loopN rounds f 0 = some (if all2 p a b = true then .inl (a.length : Int) else .inr false) := by
  rcases find_loop (f := f) (n := a.length) (fun i => !p (nth a i) (nth b i)) (fun _ => false) (by omega) (fun i hi hp => by rw [hf i hi, if_pos (by simpa using hp)]) (fun i hi hp => by rw [hf i hi, if_neg (by simpa using hp)]) hl with ⟨h1, h2⟩ | ⟨i, hi, h1, _, h2⟩
  · rw [h2, if_pos (all2_iff.2 fun i hi => by simpa using h1 i hi)]
  · rw [h2, if_neg (fun h => by have := all2_iff.1 h i hi; rw [this] at h1; cases h1)]
def facesOk (x : List (List Int)) : Prop := x.length ≤ 1048576 ∧ ∀ f ∈ x, f.length ≤ 1048576
def solidOk (x : List (List Nat) × List (List Int)) : Prop := x.1.length ≤ 1048576 ∧ facesOk x.2
/-- Whether two numbers are the same. -/
def sameF (x y : Nat) : Bool := if (isNaN .f32 x || isNaN .f32 y) = true then isNaN .f32 x && isNaN .f32 y else decide ((x : Int) = (y : Int))
def sameP (x y : List Nat) : Bool := sameF (nth x 0) (nth y 0) && sameF (nth x 1) (nth y 1) && sameF (nth x 2) (nth y 2)
def sameCam (x y : List Nat × List Nat × List Nat × Nat × Nat) : Bool := sameP x.1 y.1 && sameP x.2.1 y.2.1 && sameP x.2.2.1 y.2.2.1 && sameF x.2.2.2.1 y.2.2.2.1 && sameF x.2.2.2.2 y.2.2.2.2
theorem order_self (k : FloatKind) (x : Nat) : k.format.order x x = if isNaN k x = true then none else some .eq := by
  unfold Ieee.Format.order isNaN FloatKind.decode
  cases k.format.read x with
  | nan s t => rfl
  | infinity s => cases s <;> rfl
  | number s m e =>
    show some (compare _ _) = _
    rw [show (Ieee.Datum.number s m e).isNaN = false from rfl, if_neg (by decide)]
    congr 1
    rw [Int.compare_eq_eq]
theorem fneq_self (k : FloatKind) (x : Nat) : fneq k x x = isNaN k x := by
  unfold fneq
  rw [order_self]
  cases isNaN k x <;> rfl
theorem specSame_eq (x y : Nat) : spec_l01Same x y = some (sameF x y) := by
  unfold spec_l01Same sameF
  rw [fneq_self, fneq_self]
  cases hx : isNaN .f32 x <;> cases hy : isNaN .f32 y <;> simp [need]
theorem specSameP_eq (x y : List Nat) : spec_l01SamePoint x y = some (sameP x y) := by
  unfold spec_l01SamePoint sameP
  simp only [specSame_eq, Option.bind_some]
  cases sameF (nth x 0) (nth y 0) <;> cases sameF (nth x 1) (nth y 1) <;> simp
theorem specSameCam_eq (x y : List Nat × List Nat × List Nat × Nat × Nat) : spec_l02Same x y = some (sameCam x y) := by
  unfold spec_l02Same sameCam
  simp only [specSameP_eq, specSame_eq, Option.bind_some]
  cases sameP x.1 y.1 <;> cases sameP x.2.1 y.2.1 <;> cases sameP x.2.2.1 y.2.2.1 <;> cases sameF x.2.2.2.1 y.2.2.2.1 <;> simp
def sameSol (x y : List (List Nat) × List (List Int)) : Bool := decide (x.1.length = y.1.length) && all2 sameP x.1 y.1 && (decide (x.2.length = y.2.length) && all2 (fun a b => decide (a = b)) x.2 y.2)
/-- Two lists looked through, element for element. -/
theorem eq_loop {α : Type} [DecidableEq α] [Inhabited α] {a b : List α} {f : Int → Option (Int ⊕ (Int ⊕ Bool))} (h : a.length = b.length) (hn : a.length ≤ 9223372036854775806)
    (hf : ∀ i : Nat, i < a.length → f (i : Int) = if decide (nth a i ≠ nth b i) = true then some (.inr (.inr false)) else some (.inl ((i + 1 : Nat) : Int))) (hl : f (a.length : Int) = some (.inr (.inl (a.length : Int)))) :
    loopN rounds f 0 = some (if a = b then .inl (a.length : Int) else .inr false) := by
  rcases find_loop (f := f) (n := a.length) (fun i => decide (nth a i ≠ nth b i)) (fun _ => false) (by omega) (fun i hi hp => by rw [hf i hi, if_neg (by simpa using hp)]) (fun i hi hp => by rw [hf i hi, if_pos hp]) hl with ⟨h1, h2⟩ | ⟨i, hi, h1, _, h2⟩
  · have : a = b := by
      apply List.ext_getElem?
      intro i
      by_cases hi : i < a.length
      · rw [nth_get hi, nth_get (by omega)]
        have := h1 i hi
        simp only [ne_eq, decide_not, Bool.not_eq_false', decide_eq_true_eq] at this
        rw [this]
      · rw [List.getElem?_eq_none (by omega), List.getElem?_eq_none (by omega)]
    rw [h2, if_pos this]
  · have : a ≠ b := fun e => by subst e; simp at h1
    rw [h2, if_neg this]
theorem specSameSol_eq {x y : List (List Nat) × List (List Int)} (hs : solidOk x) : spec_l03Same x y = some (sameSol x y) := by
  obtain ⟨l1, l2, l3⟩ := hs
  unfold spec_l03Same sameSol
  by_cases h1 : x.1.length = y.1.length
  · by_cases h2 : x.2.length = y.2.length
    · have c1 : ¬ ((decide ((x.1.length : Int) ≠ (y.1.length : Int))) || (decide ((x.2.length : Int) ≠ (y.2.length : Int)))) = true := by simp; omega
      rw [if_neg c1, zip_loop (f := spec_l03Same_l1 x y) (a := x.1) (b := y.1) sameP (by omega) (fun i hi => by
        unfold spec_l03Same_l1
        rw [if_pos (by simp; omega), idx_nth hi, idx_nth (by omega)]
        simp only [Option.bind_some, spec_SamePoint, specSameP_eq]
        rw [succ64 (by omega)]
        cases sameP (nth x.1 i) (nth y.1 i) <;> simp) (by unfold spec_l03Same_l1; simp)]
      rw [zip_loop (f := spec_l03Same_l2 x y) (a := x.2) (b := y.2) (fun a b => decide (a = b)) (by omega) (fun i hi => by
        have hf := l3 _ (nth_mem hi)
        unfold spec_l03Same_l2
        rw [if_pos (by simp; omega), idx_nth hi, idx_nth (by omega)]
        simp only [Option.bind_some]
        by_cases h3 : (nth x.2 i).length = (nth y.2 i).length
        · rw [if_neg (by simp; omega), eq_loop (f := spec_l03Same_l3 x y (i : Int)) h3 (by omega) (fun j hj => by
            unfold spec_l03Same_l3
            rw [idx_nth hi, idx_nth (by omega)]
            simp only [Option.bind_some]
            rw [if_pos (by simp; omega), idx_nth hj, idx_nth (by omega)]
            simp only [Option.bind_some]
            rw [succ64 (by omega)]) (by unfold spec_l03Same_l3; rw [idx_nth hi]; simp)]
          by_cases he : nth x.2 i = nth y.2 i
          · simp only [he, if_true, Option.bind_some, decide_true]
            rw [succ64 (by omega)]
          · simp [he]
        · rw [if_pos (by simp; omega)]
          have : ¬ nth x.2 i = nth y.2 i := fun e => h3 (by rw [e])
          simp [this]) (by unfold spec_l03Same_l2; simp)]
      cases h3 : all2 sameP x.1 y.1 <;> cases h4 : all2 (fun a b => decide (a = b)) x.2 y.2 <;> simp [h1, h2]
    · rw [if_pos (by simp; omega)]
      simp [h2]
  · rw [if_pos (by simp; omega)]
    simp [h1]
abbrev SceneT := (List Nat × List Nat × List Nat × Nat × Nat) × List (List (List Nat) × List (List Int))
def sameSc (x y : SceneT) : Bool := sameCam x.1 y.1 && (decide (x.2.length = y.2.length) && all2 sameSol x.2 y.2)
theorem specSameSc_eq {x y : SceneT} (hl : x.2.length ≤ 1048576) (hs : ∀ s ∈ x.2, solidOk s) : spec_SameScene x y = some (sameSc x y) := by
  unfold spec_SameScene spec_l07Same sameSc
  rw [specSameCam_eq]
  simp only [Option.bind_some]
  cases hc : sameCam x.1 y.1
  · simp
  · by_cases h1 : x.2.length = y.2.length
    · rw [if_neg (by simp; omega), zip_loop (f := spec_l07Same_l1 x y) (a := x.2) (b := y.2) sameSol (by omega) (fun i hi => by
        unfold spec_l07Same_l1
        rw [if_pos (by simp; omega), idx_nth hi, idx_nth (by omega)]
        simp only [Option.bind_some]
        rw [specSameSol_eq (hs _ (nth_mem hi)), succ64 (by omega)]
        cases sameSol (nth x.2 i) (nth y.2 i) <;> simp) (by unfold spec_l07Same_l1; simp)]
      cases all2 sameSol x.2 y.2 <;> simp [h1]
    · rw [if_pos (by simp; omega)]
      simp [h1]
theorem implSame_eq (x y : Nat) : impl_SameNumber x y = some (sameF x y) := by
  unfold impl_SameNumber sameF
  rw [fneq_self, fneq_self]
  cases hx : isNaN .f32 x <;> cases hy : isNaN .f32 y <;> simp [need]
theorem implSameP_eq (x y : List Nat) : impl_SamePoint x y = some (sameP x y) := by
  unfold impl_SamePoint sameP
  simp only [implSame_eq, Option.bind_some]
  cases sameF (nth x 0) (nth y 0) <;> cases sameF (nth x 1) (nth y 1) <;> simp
theorem implSameCam_eq (x y : List Nat × List Nat × List Nat × Nat × Nat) : impl_SameCamera x y = some (sameCam x y) := by
  unfold impl_SameCamera sameCam
  simp only [implSameP_eq, implSame_eq, Option.bind_some]
  cases sameP x.1 y.1 <;> cases sameP x.2.1 y.2.1 <;> cases sameP x.2.2.1 y.2.2.1 <;> cases sameF x.2.2.2.1 y.2.2.2.1 <;> simp
theorem equal16_eq {a b : List Int} (hn : a.length ≤ 9223372036854775806) : slices_Equal_int16_int16 a b = some (decide (a = b)) := by
  unfold slices_Equal_int16_int16
  by_cases h : a.length = b.length
  · rw [if_neg (by simp; omega), eq_loop (f := slices_Equal_int16_int16_l1 a b) h hn (fun i hi => by
      unfold slices_Equal_int16_int16_l1
      rw [if_pos (by simp; omega), idx_nth hi, idx_nth (by omega)]
      simp only [Option.bind_some]
      rw [succ64 (by omega)]) (by unfold slices_Equal_int16_int16_l1; simp)]
    by_cases he : a = b
    · simp [he]
    · simp [he]
  · rw [if_pos (by simp; omega)]
    have : a ≠ b := fun e => h (by rw [e])
    simp [this]
theorem implSameSol_eq {x y : List (List Nat) × List (List Int)} (hs : solidOk x) : impl_SameSolid x y = some (sameSol x y) := by
  obtain ⟨l1, l2, l3⟩ := hs
  have e1 : slices_EqualFunc_Point_Point_Point_Point x.1 y.1 impl_SamePoint = some (decide (x.1.length = y.1.length) && all2 sameP x.1 y.1) := by
    unfold slices_EqualFunc_Point_Point_Point_Point
    by_cases h1 : x.1.length = y.1.length
    · rw [if_neg (by simp; omega), zip_loop (f := slices_EqualFunc_Point_Point_Point_Point_l1 x.1 y.1 impl_SamePoint) (a := x.1) (b := y.1) sameP (by omega) (fun i hi => by
        unfold slices_EqualFunc_Point_Point_Point_Point_l1
        rw [if_pos (by simp; omega), idx_nth hi, idx_nth (by omega)]
        simp only [Option.bind_some, implSameP_eq]
        rw [succ64 (by omega)]
        cases sameP (nth x.1 i) (nth y.1 i) <;> simp) (by unfold slices_EqualFunc_Point_Point_Point_Point_l1; simp)]
      cases all2 sameP x.1 y.1 <;> simp [h1]
    · rw [if_pos (by simp; omega)]
      simp [h1]
  have e2 : slices_EqualFunc_int16_int16_int16_int16 x.2 y.2 slices_Equal_int16_int16 = some (decide (x.2.length = y.2.length) && all2 (fun a b => decide (a = b)) x.2 y.2) := by
    unfold slices_EqualFunc_int16_int16_int16_int16
    by_cases h1 : x.2.length = y.2.length
    · rw [if_neg (by simp; omega), zip_loop (f := slices_EqualFunc_int16_int16_int16_int16_l1 x.2 y.2 slices_Equal_int16_int16) (a := x.2) (b := y.2) (fun a b => decide (a = b)) (by omega) (fun i hi => by
        have hf := l3 _ (nth_mem hi)
        unfold slices_EqualFunc_int16_int16_int16_int16_l1
        rw [if_pos (by simp; omega), idx_nth hi, idx_nth (by omega)]
        simp only [Option.bind_some]
        rw [equal16_eq (by omega), succ64 (by omega)]
        by_cases he : nth x.2 i = nth y.2 i <;> simp [he]) (by unfold slices_EqualFunc_int16_int16_int16_int16_l1; simp)]
      cases all2 (fun a b => decide (a = b)) x.2 y.2 <;> simp [h1]
    · rw [if_pos (by simp; omega)]
      simp [h1]
  unfold impl_SameSolid sameSol
  rw [e1, e2]
  simp only [Option.bind_some]
  cases (decide (x.1.length = y.1.length) && all2 sameP x.1 y.1) <;> simp
theorem implSameSc_eq {x y : SceneT} (hl : x.2.length ≤ 1048576) (hs : ∀ s ∈ x.2, solidOk s) : impl_SameScene x y = some (sameSc x y) := by
  have e1 : slices_EqualFunc_Solid_Solid_Solid_Solid x.2 y.2 impl_SameSolid = some (decide (x.2.length = y.2.length) && all2 sameSol x.2 y.2) := by
    unfold slices_EqualFunc_Solid_Solid_Solid_Solid
    by_cases h1 : x.2.length = y.2.length
    · rw [if_neg (by simp; omega), zip_loop (f := slices_EqualFunc_Solid_Solid_Solid_Solid_l1 x.2 y.2 impl_SameSolid) (a := x.2) (b := y.2) sameSol (by omega) (fun i hi => by
        unfold slices_EqualFunc_Solid_Solid_Solid_Solid_l1
        rw [if_pos (by simp; omega), idx_nth hi, idx_nth (by omega)]
        simp only [Option.bind_some]
        rw [implSameSol_eq (hs _ (nth_mem hi)), succ64 (by omega)]
        cases sameSol (nth x.2 i) (nth y.2 i) <;> simp) (by unfold slices_EqualFunc_Solid_Solid_Solid_Solid_l1; simp)]
      cases all2 sameSol x.2 y.2 <;> simp [h1]
    · rw [if_pos (by simp; omega)]
      simp [h1]
  unfold impl_SameScene sameSc
  rw [implSameCam_eq, e1]
  simp only [Option.bind_some]
  cases sameCam x.1 y.1 <;> simp
theorem sz_loop {α : Type} [Inhabited α] {xs : List α} {f : Int × Int → Option ((Int × Int) ⊕ ((Int × Int) ⊕ Int))} (g : α → Int → Option Int) (Q : α → Prop) {k : Int} (hn : xs.length ≤ 9223372036854775806) (h0 : 0 ≤ k) (h1 : k ≤ 1048576)
    (hg : ∀ x ∈ xs, ∀ k, 0 ≤ k → k ≤ 1048576 → ∃ v, g x k = some v ∧ v ≤ k ∧ (0 ≤ v → Q x))
    (hf : ∀ (i : Nat) s, i < xs.length → f (s, (i : Int)) = (g (nth xs i) s).bind fun v => if v < 0 then some (.inr (.inr (-1))) else some (.inl (v, ((i + 1 : Nat) : Int)))) (hl : ∀ s, f (s, (xs.length : Int)) = some (.inr (.inl (s, (xs.length : Int))))) :
    ∃ y, loopN rounds f (k, 0) = some y ∧ ((∃ v, y = .inl (v, (xs.length : Int)) ∧ 0 ≤ v ∧ v ≤ k ∧ ∀ x ∈ xs, Q x) ∨ y = .inr (-1)) := by
  refine loop_keep (fun s => ∃ i : Nat, s.2 = (i : Int) ∧ i ≤ xs.length ∧ 0 ≤ s.1 ∧ s.1 ≤ k ∧ ∀ j, j < i → Q (nth xs j)) (fun s => xs.length - s.2.toNat) _ (by omega) ⟨0, rfl, Nat.zero_le _, h0, Int.le_refl _, fun j h => by omega⟩ ?_
  rintro ⟨s, z⟩ ⟨i, hz, hi, hs0, hsk, hQ⟩
  simp only at hz hs0 hsk
  subst hz
  by_cases h : i < xs.length
  · obtain ⟨v, hv, v1, v2⟩ := hg _ (nth_mem h) s hs0 (by omega)
    rw [hf i s h, hv]
    simp only [Option.bind_some]
    by_cases hv0 : v < 0
    · rw [if_pos hv0]; exact .inr ⟨_, rfl, .inr rfl⟩
    · rw [if_neg hv0]
      refine .inl ⟨_, rfl, ⟨i + 1, rfl, by omega, by simp only; omega, by simp only; omega, fun j hj => ?_⟩, by simp only; omega⟩
      rcases Nat.lt_or_ge j i with h2 | h2
      · exact hQ j h2
      · have : j = i := by omega
        subst this; exact v2 (by omega)
  · have : i = xs.length := by omega
    subst this
    rw [hl]
    refine .inr ⟨_, rfl, .inl ⟨s, rfl, hs0, hsk, fun x hx => ?_⟩⟩
    obtain ⟨j, hj⟩ := List.getElem?_of_mem hx
    have hjl := (List.getElem?_eq_some_iff.1 hj).1
    rw [nth_get hjl] at hj
    cases hj
    exact hQ j hjl
theorem szPointS_eq {xs : List (List Nat)} {k : Int} (hl : xs.length ≤ 9223372036854775807) (h0 : 0 ≤ k) (h1 : k ≤ 1048576) : ∃ v, laws_szPointS xs k = some v ∧ v ≤ k ∧ (0 ≤ v → xs.length ≤ 1048576) := by
  unfold laws_szPointS
  rw [wrap64 (by omega) (by omega)]
  split
  · exact ⟨_, rfl, by omega, by omega⟩
  · rename_i h
    simp at h
    exact ⟨_, rfl, by omega, by omega⟩
theorem szInt16S_eq {xs : List Int} {k : Int} (hl : xs.length ≤ 9223372036854775807) (h0 : 0 ≤ k) (h1 : k ≤ 1048576) : ∃ v, laws_szInt16S xs k = some v ∧ v ≤ k ∧ (0 ≤ v → xs.length ≤ 1048576) := by
  unfold laws_szInt16S
  rw [wrap64 (by omega) (by omega)]
  split
  · exact ⟨_, rfl, by omega, by omega⟩
  · rename_i h
    simp at h
    exact ⟨_, rfl, by omega, by omega⟩
theorem szInt16SS_eq {xs : List (List Int)} {k : Int} (hl : xs.length ≤ 9223372036854775807) (hq : ∀ x ∈ xs, x.length ≤ 9223372036854775807) (h0 : 0 ≤ k) (h1 : k ≤ 1048576) : ∃ v, laws_szInt16SS xs k = some v ∧ v ≤ k ∧ (0 ≤ v → facesOk xs) := by
  unfold laws_szInt16SS
  rw [wrap64 (by omega) (by omega)]
  split
  · exact ⟨_, rfl, by omega, by omega⟩
  · rename_i h
    simp at h
    obtain ⟨y, hy, hr⟩ := sz_loop (xs := xs) (f := laws_szInt16SS_l1 xs) (k := k - (xs.length : Int)) laws_szInt16S (fun f => f.length ≤ 1048576) (by omega) (by omega) (by omega) (fun x hx k h0 h1 => szInt16S_eq (hq x hx) h0 h1) (fun i s hi => by
      unfold laws_szInt16SS_l1
      simp only
      rw [if_pos (by simp; omega), idx_nth hi]
      simp only [Option.bind_some]
      rw [succ64 (by omega)]
      simp only [decide_eq_true_eq]) (fun s => by unfold laws_szInt16SS_l1; simp)
    rw [hy]
    rcases hr with ⟨v, rfl, v0, v1, v2⟩ | rfl
    · exact ⟨v, rfl, by omega, fun _ => ⟨by omega, v2⟩⟩
    · exact ⟨-1, rfl, by omega, by omega⟩
theorem szSolid_eq {x : List (List Nat) × List (List Int)} {k : Int} (h1 : x.1.length ≤ 9223372036854775807) (h2 : x.2.length ≤ 9223372036854775807) (hq : ∀ f ∈ x.2, f.length ≤ 9223372036854775807) (k0 : 0 ≤ k) (k1 : k ≤ 1048576) : ∃ v, laws_szSolid x k = some v ∧ v ≤ k ∧ (0 ≤ v → solidOk x) := by
  obtain ⟨v, hv, v1, v2⟩ := szPointS_eq h1 k0 k1
  unfold laws_szSolid
  rw [hv]
  simp only [Option.bind_some]
  by_cases h : v < 0
  · exact ⟨-1, by simp [h], by omega, by omega⟩
  · obtain ⟨u, hu, u1, u2⟩ := szInt16SS_eq (xs := x.2) (k := v) h2 hq (by omega) (by omega)
    rw [hu]
    by_cases h' : u < 0
    · exact ⟨-1, by simp [h, h'], by omega, by omega⟩
    · exact ⟨u, by simp [h, h'], by omega, fun _ => ⟨v2 (by omega), u2 (by omega)⟩⟩
theorem szSolidS_eq {xs : List (List (List Nat) × List (List Int))} {k : Int} (hl : xs.length ≤ 9223372036854775807) (hq : ∀ x ∈ xs, x.1.length ≤ 9223372036854775807 ∧ x.2.length ≤ 9223372036854775807 ∧ ∀ f ∈ x.2, f.length ≤ 9223372036854775807) (h0 : 0 ≤ k) (h1 : k ≤ 1048576) :
    ∃ v, laws_szSolidS xs k = some v ∧ v ≤ k ∧ (0 ≤ v → xs.length ≤ 1048576 ∧ ∀ x ∈ xs, solidOk x) := by
  unfold laws_szSolidS
  rw [wrap64 (by omega) (by omega)]
  split
  · exact ⟨_, rfl, by omega, by omega⟩
  · rename_i h
    simp at h
    obtain ⟨y, hy, hr⟩ := sz_loop (xs := xs) (f := laws_szSolidS_l1 xs) (k := k - (xs.length : Int)) laws_szSolid solidOk (by omega) (by omega) (by omega) (fun x hx k h0 h1 => szSolid_eq (hq x hx).1 (hq x hx).2.1 (hq x hx).2.2 h0 h1) (fun i s hi => by
      unfold laws_szSolidS_l1
      simp only
      rw [if_pos (by simp; omega), idx_nth hi]
      simp only [Option.bind_some]
      rw [succ64 (by omega)]
      simp only [decide_eq_true_eq]) (fun s => by unfold laws_szSolidS_l1; simp)
    rw [hy]
    rcases hr with ⟨v, rfl, v0, v1, v2⟩ | rfl
    · exact ⟨v, rfl, by omega, fun _ => ⟨by omega, v2⟩⟩
    · exact ⟨-1, rfl, by omega, by omega⟩
theorem szScene_eq {x : SceneT} {k : Int} (hl : x.2.length ≤ 9223372036854775807) (hq : ∀ s ∈ x.2, s.1.length ≤ 9223372036854775807 ∧ s.2.length ≤ 9223372036854775807 ∧ ∀ f ∈ s.2, f.length ≤ 9223372036854775807) (h0 : 0 ≤ k) (h1 : k ≤ 1048576) :
    ∃ v, laws_szScene x k = some v ∧ v ≤ k ∧ (0 ≤ v → x.2.length ≤ 1048576 ∧ ∀ s ∈ x.2, solidOk s) := by
  obtain ⟨v, hv, v1, v2⟩ := szSolidS_eq hl hq h0 h1
  unfold laws_szScene
  rw [hv]
  simp only [Option.bind_some]
  by_cases h : v < 0
  · exact ⟨-1, by simp [h], by omega, by omega⟩
  · exact ⟨v, by simp [h], v1, v2⟩
theorem toPoint_eq {x : List Nat} (h : x.length = 3) : laws_toPoint x = some x := by
  unfold laws_toPoint
  rw [copy_loop (m := 3) (x := x) (by decide) h (by simp) (fun i a r hi hr ha => ?_) (fun r => ?_)]
  · rfl
  · unfold laws_toPoint_l1
    simp only
    rw [if_pos (by simp; omega), idx_nat ha]
    simp only [Option.bind_some]
    rw [idx_nat (List.getElem?_eq_getElem (show i < r.length by omega))]
    simp only [Option.bind_some]
    rw [wrap64 (by omega) (by omega)]
    simp
  · rfl
theorem toPointS_eq {xs : List (List Nat)} (h : ∀ s ∈ xs, s.length = 3) (hl : xs.length ≤ 1048576) : laws_toPointS xs = some xs := by
  unfold laws_toPointS
  rw [show need (decide (0 ≤ (xs.length : Int)) && decide ((xs.length : Int) ≤ most)) = some () from by unfold need most; rw [if_pos]; simp; omega]
  simp only [Option.bind_some]
  rw [copy_loopN (m := xs.length) (x := xs) (by omega) rfl (by simp) (fun i a r hi hr ha => ?_) (fun r => ?_)]
  · rfl
  · unfold laws_toPointS_l1
    simp only
    rw [if_pos (by simp; omega), idx_nat ha]
    simp only [Option.bind_some]
    rw [toPoint_eq (h _ (List.mem_of_getElem? ha)), idx_nat (List.getElem?_eq_getElem (show i < r.length by omega))]
    simp only [Option.bind_some]
    rw [succ64 (by omega)]
    rfl
  · unfold laws_toPointS_l1
    simp
theorem toInt16S_eq {xs : List Int} (hl : xs.length ≤ 1048576) : laws_toInt16S xs = some xs := by
  unfold laws_toInt16S
  rw [show need (decide (0 ≤ (xs.length : Int)) && decide ((xs.length : Int) ≤ most)) = some () from by unfold need most; rw [if_pos]; simp; omega]
  simp only [Option.bind_some]
  rw [copy_loopN (m := xs.length) (x := xs) (by omega) rfl (by simp) (fun i a r hi hr ha => ?_) (fun r => ?_)]
  · rfl
  · unfold laws_toInt16S_l1
    simp only
    rw [if_pos (by simp; omega), idx_nat ha]
    simp only [Option.bind_some]
    rw [idx_nat (List.getElem?_eq_getElem (show i < r.length by omega))]
    simp only [Option.bind_some]
    rw [succ64 (by omega)]
    rfl
  · unfold laws_toInt16S_l1
    simp
theorem toInt16SS_eq {xs : List (List Int)} (h : facesOk xs) : laws_toInt16SS xs = some xs := by
  obtain ⟨hl, h⟩ := h
  unfold laws_toInt16SS
  rw [show need (decide (0 ≤ (xs.length : Int)) && decide ((xs.length : Int) ≤ most)) = some () from by unfold need most; rw [if_pos]; simp; omega]
  simp only [Option.bind_some]
  rw [copy_loopN (m := xs.length) (x := xs) (by omega) rfl (by simp) (fun i a r hi hr ha => ?_) (fun r => ?_)]
  · rfl
  · unfold laws_toInt16SS_l1
    simp only
    rw [if_pos (by simp; omega), idx_nat ha]
    simp only [Option.bind_some]
    rw [toInt16S_eq (h _ (List.mem_of_getElem? ha)), idx_nat (List.getElem?_eq_getElem (show i < r.length by omega))]
    simp only [Option.bind_some]
    rw [succ64 (by omega)]
    rfl
  · unfold laws_toInt16SS_l1
    simp
theorem toSolid_eq {x : List (List Nat) × List (List Int)} (h : ∀ s ∈ x.1, s.length = 3) (hs : solidOk x) : laws_toSolid x = some x := by
  unfold laws_toSolid
  rw [toPointS_eq h hs.1, toInt16SS_eq hs.2]
  rfl
theorem toSolidS_eq {xs : List (List (List Nat) × List (List Int))} (h : ∀ x ∈ xs, ∀ s ∈ x.1, s.length = 3) (hs : ∀ x ∈ xs, solidOk x) (hl : xs.length ≤ 1048576) : laws_toSolidS xs = some xs := by
  unfold laws_toSolidS
  rw [show need (decide (0 ≤ (xs.length : Int)) && decide ((xs.length : Int) ≤ most)) = some () from by unfold need most; rw [if_pos]; simp; omega]
  simp only [Option.bind_some]
  rw [copy_loopN (m := xs.length) (x := xs) (by omega) rfl (by simp) (fun i a r hi hr ha => ?_) (fun r => ?_)]
  · rfl
  · unfold laws_toSolidS_l1
    simp only
    have hm := List.mem_of_getElem? ha
    rw [if_pos (by simp; omega), idx_nat ha]
    simp only [Option.bind_some]
    rw [toSolid_eq (h _ hm) (hs _ hm), idx_nat (List.getElem?_eq_getElem (show i < r.length by omega))]
    simp only [Option.bind_some]
    rw [succ64 (by omega)]
    rfl
  · unfold laws_toSolidS_l1
    simp
theorem toCamera_eq {x : List Nat × List Nat × List Nat × Nat × Nat} (h : camOk x) : laws_toCamera x = some x := by
  unfold laws_toCamera
  rw [toPoint_eq h.1, toPoint_eq h.2.1, toPoint_eq h.2.2]
  rfl
theorem toScene_eq {x : SceneT} (hc : camOk x.1) (h : ∀ s ∈ x.2, ∀ p ∈ s.1, p.length = 3) (hs : x.2.length ≤ 1048576 ∧ ∀ s ∈ x.2, solidOk s) : laws_toScene x = some x := by
  unfold laws_toScene
  rw [toCamera_eq hc, toSolidS_eq h hs.2 hs.1]
  rfl
theorem cut0 (s : Bool) (n : Nat) : Ieee.Toward.even.cut s n 0 = n := by
  unfold Ieee.Toward.cut
  simp [Nat.mod_one]
theorem fin64 (s : Bool) {r : Nat} (h : r < 9218868437227405312) : (FloatKind.f64.decode (FloatKind.f64.format.word s r)).isInfinity = false := by
  have e1 : FloatKind.f64.format.signWeight = 9223372036854775808 := by decide +kernel
  have e2 : FloatKind.f64.format.binade = 4503599627370496 := by decide +kernel
  have e3 : FloatKind.f64.format.infRung = 9218868437227405312 := by decide +kernel
  unfold FloatKind.decode Ieee.Format.read Ieee.Format.word
  have hr : (if s = true then 9223372036854775808 + r else r) % 9223372036854775808 = r := by split <;> omega
  simp only [e1, e2, e3, hr]
  split
  · rfl
  · first | rfl | (rw [if_pos h]; rfl)
theorem rng32 {x m : Nat} {s : Bool} {e : Int} (h : FloatKind.f32.decode x = .number s m e) : m < 16777216 ∧ -149 ≤ e ∧ e ≤ 104 := by
  have e1 : FloatKind.f32.format.signWeight = 2147483648 := by decide +kernel
  have e2 : FloatKind.f32.format.binade = 8388608 := by decide +kernel
  have e3 : FloatKind.f32.format.infRung = 2139095040 := by decide +kernel
  have e4 : FloatKind.f32.format.leastPlace = -149 := by decide +kernel
  unfold FloatKind.decode Ieee.Format.read at h
  simp only [e1, e2, e3, e4] at h
  split at h
  · simp only [Ieee.Datum.number.injEq] at h
    omega
  · split at h
    · simp only [Ieee.Datum.number.injEq] at h
      omega
    · split at h <;> cases h
/-- How far apart two marks are. -/
def distI (a b : List Int) : Int := max (max (max (nth a 0 - nth b 0) (0 - (nth a 0 - nth b 0))) (nth a 1 - nth b 1)) (0 - (nth a 1 - nth b 1))
/-- One stroke looked at: the nearest so far. -/
def nearer (xs : List (List Int × List Int × Int)) (o a : List Int) (i : Nat) (p : Int × Int × Bool) : Int × Int × Bool :=
  if o.contains (i : Int) = true then p else
    if (decide (p.1 < 0) || decide (min (distI a (nth xs i).1) (distI a (nth xs i).2.1) < p.2.1)) = true then ((i : Int), min (distI a (nth xs i).1) (distI a (nth xs i).2.1), decide (distI a (nth xs i).2.1 < distI a (nth xs i).1)) else p
def nearest (xs : List (List Int × List Int × Int)) (o a : List Int) (j : Nat) : Int × Int × Bool := fold (nearer xs o a) j (-1, 0, false)
theorem wide_ok (x : Nat) : ∃ y, fconv .f32 .f64 x = some y := by
  unfold fconv
  cases hd : FloatKind.f32.decode x with
  | nan s t => exact ⟨_, rfl⟩
  | infinity s => exact ⟨_, rfl⟩
  | number s m e =>
    obtain ⟨h1, h2, h3⟩ := rng32 hd
    simp only
    rw [if_neg]
    · exact ⟨_, rfl⟩
    · have e1 : FloatKind.f64.format.fractionBits = 52 := rfl
      have e2 : FloatKind.f64.format.binade = 4503599627370496 := by decide +kernel
      have e3 : FloatKind.f64.format.infRung = 9218868437227405312 := by decide +kernel
      have e4 : FloatKind.f64.format.leastPlace = -1074 := by decide +kernel
      have key : ∃ r, r < 9218868437227405312 ∧ FloatKind.f64.encode (.number s m e) = FloatKind.f64.format.word s r := by
        show ∃ r, r < 9218868437227405312 ∧ FloatKind.f64.format.nearest s m e = FloatKind.f64.format.word s r
        unfold Ieee.Format.nearest
        by_cases hm : m = 0
        · rw [if_pos hm]; exact ⟨0, by decide, rfl⟩
        · rw [if_neg hm]
          have hlog : m.log2 ≤ 23 := by
            have := (Nat.log2_lt hm (k := 24)).2 (by simpa using h1)
            omega
          have hself := Nat.log2_self_le hm
          have hlt := Nat.lt_log2_self (n := m)
          simp only [e1, e2, e3, e4]
          have hlast : max (e + (m.log2 : Int) - ((52 : Nat) : Int)) (-1074) = e + (m.log2 : Int) - 52 := by rw [Int.max_def]; split <;> omega
          rw [hlast]
          have hd1 : (e + (m.log2 : Int) - 52 - e).toNat = 0 := by omega
          have hd2 : (e - (e + (m.log2 : Int) - 52)).toNat = 52 - m.log2 := by omega
          rw [hd1, hd2, cut0]
          refine ⟨_, ?_, rfl⟩
          have hk : m <<< (52 - m.log2) < 9007199254740992 := by
            rw [Nat.shiftLeft_eq]
            have h5 : m * 2 ^ (52 - m.log2) < 2 ^ (m.log2 + 1) * 2 ^ (52 - m.log2) := Nat.mul_lt_mul_of_pos_right hlt (Nat.two_pow_pos _)
            rw [← Nat.pow_add] at h5
            rw [show m.log2 + 1 + (52 - m.log2) = 53 by omega] at h5
            simpa using h5
          generalize m <<< (52 - m.log2) = q at *
          have hp : (e + (m.log2 : Int) - 52 - -1074).toNat ≤ 1149 := by omega
          generalize (e + (m.log2 : Int) - 52 - -1074).toNat = p at *
          have h6 : p * 4503599627370496 ≤ 1149 * 4503599627370496 := Nat.mul_le_mul_right _ hp
          have h7 : p * 4503599627370496 + q < 1149 * 4503599627370496 + 9007199254740992 := Nat.add_lt_add_of_le_of_lt h6 hk
          exact Nat.lt_of_le_of_lt (Nat.min_le_left _ _) (Nat.lt_trans h7 (by decide))
      obtain ⟨r, hr, he⟩ := key
      rw [he, fin64 s hr]
      decide
/-- A narrow number as a wide one. -/
def wideI (x : Nat) : Nat := (fconv .f32 .f64 x).getD 0
theorem fconv_wide (x : Nat) : fconv .f32 .f64 x = some (wideI x) := by
  obtain ⟨y, hy⟩ := wide_ok x
  unfold wideI
  rw [hy]
  rfl
theorem feql_self (k : FloatKind) (x : Nat) : feql k x x = !isNaN k x := by
  unfold feql
  rw [order_self]
  cases isNaN k x <;> rfl
theorem sameFloat_self (x : Nat) : laws_sameFloat x x = some true := by
  unfold laws_sameFloat
  rw [fneq_self, feql_self]
  cases isNaN .f64 x with
  | true => rfl
  | false =>
    simp only [Bool.or_self, Bool.false_eq_true, if_false, Bool.and_self, Bool.not_false]
    split
    · simp
    · rfl
theorem eqPoint_self {x : List Nat} (h : x.length = 3) : laws_eqPoint x x = some true := by
  unfold laws_eqPoint
  rw [count_loop (n := 3) (y := .inl 3) (by decide) (fun i hi => ?_) (by simp [laws_eqPoint_l1])]
  · rfl
  · unfold laws_eqPoint_l1
    rw [if_pos (by simp; omega), idx_nth (by omega)]
    simp only [Option.bind_some, fconv_wide, sameFloat_self]
    rw [succ64 (by omega)]
    simp
theorem eqCamera_self {x : List Nat × List Nat × List Nat × Nat × Nat} (h : camOk x) : laws_eqCamera x x = some true := by
  unfold laws_eqCamera
  rw [eqPoint_self h.1, eqPoint_self h.2.1, eqPoint_self h.2.2, fconv_wide, fconv_wide]
  simp [sameFloat_self]
theorem eqPointS_self {xs : List (List Nat)} (h : ∀ s ∈ xs, s.length = 3) (hl : xs.length ≤ 9223372036854775806) : laws_eqPointS xs xs = some true := by
  unfold laws_eqPointS
  rw [if_neg (by simp), count_loop (n := xs.length) (y := .inl (xs.length : Int)) (by omega) (fun i hi => ?_) (by simp [laws_eqPointS_l1])]
  · rfl
  · unfold laws_eqPointS_l1
    rw [if_pos (by simp; omega), idx_nth hi]
    simp only [Option.bind_some]
    rw [eqPoint_self (h _ (nth_mem hi)), succ64 (by omega)]
    simp
theorem eqInt16S_self {xs : List Int} (hl : xs.length ≤ 9223372036854775806) : laws_eqInt16S xs xs = some true := by
  unfold laws_eqInt16S
  rw [if_neg (by simp), count_loop (n := xs.length) (y := .inl (xs.length : Int)) (by omega) (fun i hi => ?_) (by simp [laws_eqInt16S_l1])]
  · rfl
  · unfold laws_eqInt16S_l1
    rw [if_pos (by simp; omega), idx_nth hi]
    simp only [Option.bind_some]
    rw [succ64 (by omega)]
    simp
theorem eqInt16SS_self {xs : List (List Int)} (h : facesOk xs) : laws_eqInt16SS xs xs = some true := by
  obtain ⟨hl, h⟩ := h
  unfold laws_eqInt16SS
  rw [if_neg (by simp), count_loop (n := xs.length) (y := .inl (xs.length : Int)) (by omega) (fun i hi => ?_) (by simp [laws_eqInt16SS_l1])]
  · rfl
  · unfold laws_eqInt16SS_l1
    rw [if_pos (by simp; omega), idx_nth hi]
    simp only [Option.bind_some]
    have hf := h _ (nth_mem hi)
    rw [eqInt16S_self (by omega), succ64 (by omega)]
    simp
theorem eqSolid_self {x : List (List Nat) × List (List Int)} (h : ∀ s ∈ x.1, s.length = 3) (hs : solidOk x) : laws_eqSolid x x = some true := by
  have := hs.1
  unfold laws_eqSolid
  rw [eqPointS_self h (by omega), eqInt16SS_self hs.2]
  simp
theorem eqSolidS_self {xs : List (List (List Nat) × List (List Int))} (h : ∀ x ∈ xs, ∀ s ∈ x.1, s.length = 3) (hs : ∀ x ∈ xs, solidOk x) (hl : xs.length ≤ 1048576) : laws_eqSolidS xs xs = some true := by
  unfold laws_eqSolidS
  rw [if_neg (by simp), count_loop (n := xs.length) (y := .inl (xs.length : Int)) (by omega) (fun i hi => ?_) (by simp [laws_eqSolidS_l1])]
  · rfl
  · unfold laws_eqSolidS_l1
    rw [if_pos (by simp; omega), idx_nth hi]
    simp only [Option.bind_some]
    rw [eqSolid_self (h _ (nth_mem hi)) (hs _ (nth_mem hi)), succ64 (by omega)]
    simp
theorem eqScene_self {x : SceneT} (hc : camOk x.1) (h : ∀ s ∈ x.2, ∀ p ∈ s.1, p.length = 3) (hs : x.2.length ≤ 1048576 ∧ ∀ s ∈ x.2, solidOk s) : laws_eqScene x x = some true := by
  unfold laws_eqScene
  rw [eqCamera_self hc, eqSolidS_self h hs.2 hs.1]
  simp
theorem pure_FnExactSameScene (x0 : (((List Nat) × (List Nat) × (List Nat) × Nat × Nat) × (List ((List (List Nat)) × (List (List Int)))))) (x1 : (((List Nat) × (List Nat) × (List Nat) × Nat × Nat) × (List ((List (List Nat)) × (List (List Int))))))
    (g0 : (((x0.1.1.length = 3 ∧ ∀ e1 ∈ x0.1.1, (∃ b, e1 = cn .f32 b ∧ b < 2 ^ FloatKind.f32.format.width)) ∧ ((x0.1.2.1.length = 3 ∧ ∀ e2 ∈ x0.1.2.1, (∃ b, e2 = cn .f32 b ∧ b < 2 ^ FloatKind.f32.format.width)) ∧ ((x0.1.2.2.1.length = 3 ∧ ∀ e3 ∈ x0.1.2.2.1, (∃ b, e3 = cn .f32 b ∧ b < 2 ^ FloatKind.f32.format.width)) ∧ ((∃ b, x0.1.2.2.2.1 = cn .f32 b ∧ b < 2 ^ FloatKind.f32.format.width) ∧ (∃ b, x0.1.2.2.2.2 = cn .f32 b ∧ b < 2 ^ FloatKind.f32.format.width))))) ∧ (x0.2.length ≤ 9223372036854775807 ∧ ∀ e4 ∈ x0.2, ((e4.1.length ≤ 9223372036854775807 ∧ ∀ e5 ∈ e4.1, (e5.length = 3 ∧ ∀ e6 ∈ e5, (∃ b, e6 = cn .f32 b ∧ b < 2 ^ FloatKind.f32.format.width))) ∧ (e4.2.length ≤ 9223372036854775807 ∧ ∀ e7 ∈ e4.2, (e7.length ≤ 9223372036854775807 ∧ ∀ e8 ∈ e7, (IntKind.i16.min ≤ e8 ∧ e8 ≤ IntKind.i16.max)))))))
    (g1 : (((x1.1.1.length = 3 ∧ ∀ e9 ∈ x1.1.1, (∃ b, e9 = cn .f32 b ∧ b < 2 ^ FloatKind.f32.format.width)) ∧ ((x1.1.2.1.length = 3 ∧ ∀ e10 ∈ x1.1.2.1, (∃ b, e10 = cn .f32 b ∧ b < 2 ^ FloatKind.f32.format.width)) ∧ ((x1.1.2.2.1.length = 3 ∧ ∀ e11 ∈ x1.1.2.2.1, (∃ b, e11 = cn .f32 b ∧ b < 2 ^ FloatKind.f32.format.width)) ∧ ((∃ b, x1.1.2.2.2.1 = cn .f32 b ∧ b < 2 ^ FloatKind.f32.format.width) ∧ (∃ b, x1.1.2.2.2.2 = cn .f32 b ∧ b < 2 ^ FloatKind.f32.format.width))))) ∧ (x1.2.length ≤ 9223372036854775807 ∧ ∀ e12 ∈ x1.2, ((e12.1.length ≤ 9223372036854775807 ∧ ∀ e13 ∈ e12.1, (e13.length = 3 ∧ ∀ e14 ∈ e13, (∃ b, e14 = cn .f32 b ∧ b < 2 ^ FloatKind.f32.format.width))) ∧ (e12.2.length ≤ 9223372036854775807 ∧ ∀ e15 ∈ e12.2, (e15.length ≤ 9223372036854775807 ∧ ∀ e16 ∈ e15, (IntKind.i16.min ≤ e16 ∧ e16 ≤ IntKind.i16.max))))))) :
    laws_FnExactSameScene x0 x1 = some true := by
  have c0 : camOk x0.1 := ⟨g0.1.1.1, g0.1.2.1.1, g0.1.2.2.1.1⟩
  have c1 : camOk x1.1 := ⟨g1.1.1.1, g1.1.2.1.1, g1.1.2.2.1.1⟩
  have p0 : ∀ s ∈ x0.2, ∀ p ∈ s.1, p.length = 3 := fun s hs p hp => ((g0.2.2 s hs).1.2 p hp).1
  have p1 : ∀ s ∈ x1.2, ∀ p ∈ s.1, p.length = 3 := fun s hs p hp => ((g1.2.2 s hs).1.2 p hp).1
  obtain ⟨v, hv, v1, v2⟩ := szScene_eq (x := x0) (k := 1048576) g0.2.1 (fun s hs => ⟨(g0.2.2 s hs).1.1, (g0.2.2 s hs).2.1, fun f hf => ((g0.2.2 s hs).2.2 f hf).1⟩) (by omega) (by omega)
  unfold laws_FnExactSameScene
  rw [hv]
  simp only [Option.bind_some]
  by_cases h : v < 0
  · simp [h]
  · obtain ⟨u, hu, u1, u2⟩ := szScene_eq (x := x1) (k := v) g1.2.1 (fun s hs => ⟨(g1.2.2 s hs).1.1, (g1.2.2 s hs).2.1, fun f hf => ((g1.2.2 s hs).2.2 f hf).1⟩) (by omega) (by omega)
    rw [hu]
    simp only [Option.bind_some, h, decide_false, Bool.false_eq_true, if_false]
    by_cases h' : u < 0
    · simp [h']
    · have l0 := v2 (by omega)
      have l1 := u2 (by omega)
      simp [h', toScene_eq c0 p0 l0, toScene_eq c1 p1 l1, specSameSc_eq (x := x0) (y := x1) l0.1 l0.2, implSameSc_eq (x := x0) (y := x1) l0.1 l0.2, eqScene_self c0 p0 l0, eqScene_self c1 p1 l1]
end Go.Proofs.Ytjmlfdhddbhlpaa
