/- The plain law of FnExactOrderStrokes, and what it leans on. -/
import Derived.Test.YtjmlfdhddbhlpaaFA
import Derived.Test.YtjmlfdhddbhlpaaWords
set_option linter.unusedVariables false
set_option linter.unusedSimpArgs false
set_option maxRecDepth 100000
set_option maxHeartbeats 1600000
namespace Go.Proofs.Ytjmlfdhddbhlpaa
open Go
theorem toMark_eq {x : List Int} (h : x.length = 2) : laws_toMark x = some x := by
  unfold laws_toMark
  rw [copy_loop (m := 2) (x := x) (by decide) h (by simp) (fun i a r hi hr ha => ?_) (fun r => ?_)]
  · rfl
  · unfold laws_toMark_l1
    simp only
    rw [if_pos (by simp; omega), idx_nat ha]
    simp only [Option.bind_some]
    rw [idx_nat (List.getElem?_eq_getElem (show i < r.length by omega))]
    simp only [Option.bind_some]
    rw [wrap64 (by omega) (by omega)]
    simp
  · rfl
theorem toStroke_eq {x : List Int × List Int × Int} (h0 : x.1.length = 2) (h1 : x.2.1.length = 2) : laws_toStroke x = some x := by
  unfold laws_toStroke
  rw [toMark_eq h0, toMark_eq h1]
  rfl
/-- A mark's numbers are in reach. -/
def markOk (x : List Int) : Bool := decide (-500 ≤ nth x 0 ∧ nth x 0 ≤ 500 ∧ -500 ≤ nth x 1 ∧ nth x 1 ≤ 500)
theorem spec_mark_eq (x : List Int) : spec_l06Mark x = some (markOk x) := by
  unfold spec_l06Mark spec_l00In markOk
  simp only [Option.bind_some]
  by_cases h : (-500 ≤ nth x 0 ∧ nth x 0 ≤ 500)
  · simp [h]
  · rw [if_neg (by simpa using h), decide_eq_false (fun k => h ⟨k.1, k.2.1⟩)]; rfl
theorem impl_c1_eq (x : List Int) : impl_areMarks_c1 x = some (!markOk x) := by
  unfold impl_areMarks_c1 impl_within markOk
  simp only [Option.bind_some]
  by_cases h : (-500 ≤ nth x 0 ∧ nth x 0 ≤ 500)
  · simp [h]
  · rw [if_pos (by simp; omega), decide_eq_false (fun k => h ⟨k.1, k.2.1⟩)]; rfl
theorem areMarks_eq {xs : List (List Int)} (h : xs.length ≤ 9223372036854775807) : impl_areMarks xs = some (xs.all markOk) := by
  have e : slices_ContainsFunc_Mark_Mark xs impl_areMarks_c1 = some (xs.any fun x => !markOk x) := containsOf h fun x _ => impl_c1_eq x
  unfold impl_areMarks
  rw [e]
  simp [List.not_any_eq_all_not]
theorem isDash_eq (x : Int) : impl_isDash x = some (decide (0 ≤ x ∧ x ≤ 3)) := by
  unfold impl_isDash impl_within
  simp
theorem specDash_eq (x : Int) : spec_l06Dash x = some (decide (0 ≤ x ∧ x ≤ 3)) := by
  unfold spec_l06Dash
  simp
def strokeOk (x : List Int × List Int × Int) : Bool := markOk x.1 && markOk x.2.1 && decide (0 ≤ x.2.2 ∧ x.2.2 ≤ 3)
theorem specOk_eq (x : List Int × List Int × Int) : spec_l06Ok x = some (strokeOk x) := by
  unfold spec_l06Ok strokeOk
  simp only [spec_mark_eq, specDash_eq, Option.bind_some]
  cases markOk x.1 <;> cases markOk x.2.1 <;> simp
theorem validStroke_eq (x : List Int × List Int × Int) : impl_ValidStroke x = some (strokeOk x) := by
  unfold impl_ValidStroke strokeOk
  simp only [areMarks_eq (xs := [x.1, x.2.1]) (by simp), isDash_eq, Option.bind_some, List.all_cons, List.all_nil, Bool.and_true]
  cases markOk x.1 <;> cases markOk x.2.1 <;> simp
/-- How far apart two marks are. -/
def distI (a b : List Int) : Int := max (max (max (nth a 0 - nth b 0) (0 - (nth a 0 - nth b 0))) (nth a 1 - nth b 1)) (0 - (nth a 1 - nth b 1))
theorem markOk_rng {a : List Int} (h : markOk a = true) : -500 ≤ nth a 0 ∧ nth a 0 ≤ 500 ∧ -500 ≤ nth a 1 ∧ nth a 1 ≤ 500 := by simpa [markOk] using h
theorem implDist_eq {a b : List Int} (ha : markOk a = true) (hb : markOk b = true) : impl_DistanceOf a b = some (distI a b) := by
  have h1 := markOk_rng ha
  have h2 := markOk_rng hb
  unfold impl_DistanceOf distI
  rw [wrap64 (n := nth a 0 - nth b 0) (by omega) (by omega), wrap64 (n := nth a 1 - nth b 1) (by omega) (by omega), wrap64 (n := 0 - (nth a 0 - nth b 0)) (by omega) (by omega), wrap64 (n := 0 - (nth a 1 - nth b 1)) (by omega) (by omega)]
theorem specDist_eq {a b : List Int} (ha : markOk a = true) (hb : markOk b = true) : spec_l06Distance a b = some (distI a b) := by
  have h1 := markOk_rng ha
  have h2 := markOk_rng hb
  unfold spec_l06Distance spec_l06Far spec_l00Max distI
  generalize nth a 0 = p at *
  generalize nth a 1 = q at *
  generalize nth b 0 = r at *
  generalize nth b 1 = u at *
  rw [wrap64 (n := p - r) (by omega) (by omega), wrap64 (n := q - u) (by omega) (by omega), wrap64 (n := 0 - (p - r)) (by omega) (by omega), wrap64 (n := 0 - (q - u)) (by omega) (by omega)]
  by_cases h3 : p - r < 0 <;> by_cases h4 : q - u < 0 <;> simp only [h3, h4, decide_true, decide_false, if_true, Option.bind_some, Bool.false_eq_true, if_false]
  all_goals (split <;> simp only [Option.bind_some] <;> rename_i h5 <;> simp only [decide_eq_true_eq] at h5)
  all_goals (congr 1; simp only [Int.max_def]; (repeat' split) <;> omega)
theorem first2 (x y : Int) : impl_first [x, y] = some (if x ≠ 0 then x else y) := by
  unfold impl_first
  by_cases hx : x = 0
  · subst hx
    by_cases hy : y = 0
    · subst hy
      rw [count_loop (n := 2) (y := .inl 2) (by decide) (fun i hi => ?_) (by simp [impl_first_l1])]
      · simp
      · match i, hi with
        | 0, _ => simp [impl_first_l1, idx]; rfl
        | 1, _ => simp [impl_first_l1, idx]; rfl
    · rw [loop_run (s := 0) (fun j => (j : Int)) 1 (by decide) rfl (fun j hj => ?_) (y := .inr y) (by simp [impl_first_l1, idx, hy])]
      · simp
      · match j, hj with
        | 0, _ => simp [impl_first_l1, idx]; rfl
  · rw [loop_run (s := 0) (fun j => (j : Int)) 0 (by decide) rfl (fun j hj => by omega) (y := .inr x) (by simp [impl_first_l1, idx, hx])]
    simp [hx]
/-- The code of strokes. -/
def codeI (xs : List (List Int × List Int × Int)) : Int := if xs.all strokeOk = true then (if 60 < (xs.length : Int) then 3 else 0) else 1
theorem specCode_eq {xs : List (List Int × List Int × Int)} (h : xs.length ≤ 9223372036854775806) : spec_l06Strokes xs = some (codeI xs) := by
  unfold spec_l06Strokes codeI
  have key := all_loop (xs := xs) (f := spec_l06Strokes_l1 xs) strokeOk (1 : Int) (by omega) (fun i x hx => by
    have hi := (List.getElem?_eq_some_iff.1 hx).1
    unfold spec_l06Strokes_l1
    rw [if_pos (by simp; omega), idx_nat hx]
    simp only [Option.bind_some, specOk_eq]
    rw [succ64 (by omega)]
    cases strokeOk x <;> simp) (by
    unfold spec_l06Strokes_l1
    simp)
  rw [key]
  simp only [Option.bind_some, decide_eq_true_eq]
  split <;> rename_i h2 <;> split at h2 <;> rename_i h3 <;> cases h2
  · rw [if_pos h3]
    split <;> rfl
  · rw [if_neg h3]
theorem implCode_eq {xs : List (List Int × List Int × Int)} (h : xs.length ≤ 9223372036854775806) : impl_strokesCode xs = some (codeI xs) := by
  unfold impl_strokesCode codeI
  have e : slices_ContainsFunc_Stroke_Stroke xs impl_strokesCode_c1 = some (xs.any fun x => !strokeOk x) := containsOf (by omega) fun x _ => by unfold impl_strokesCode_c1; rw [validStroke_eq]; rfl
  rw [e]
  simp only [Option.bind_some, impl_when, ← List.not_all_eq_any_not, decide_eq_true_eq]
  cases xs.all strokeOk with
  | true => by_cases h : 60 < (xs.length : Int) <;> simp [h, first2]
  | false => by_cases h : 60 < (xs.length : Int) <;> simp [h, first2]
theorem codeI_ok {xs : List (List Int × List Int × Int)} (h : codeI xs = 0) : (∀ x ∈ xs, strokeOk x = true) ∧ xs.length ≤ 60 := by
  unfold codeI at h
  split at h
  · rename_i h1
    rw [List.all_eq_true] at h1
    split at h
    · omega
    · exact ⟨h1, by omega⟩
  · omega
theorem eqMark_self {x : List Int} (h : x.length = 2) : laws_eqMark x x = some true := by
  unfold laws_eqMark
  rw [count_loop (n := 2) (y := .inl 2) (by decide) (fun i hi => ?_) (by simp [laws_eqMark_l1])]
  · rfl
  · unfold laws_eqMark_l1
    rw [if_pos (by simp; omega), idx_nth (by omega)]
    simp only [Option.bind_some]
    rw [succ64 (by omega)]
    simp
theorem eqStroke_self {x : List Int × List Int × Int} (h0 : x.1.length = 2) (h1 : x.2.1.length = 2) : laws_eqStroke x x = some true := by
  unfold laws_eqStroke
  rw [eqMark_self h0, eqMark_self h1]
  simp
theorem eqStrokeS_self {xs : List (List Int × List Int × Int)} (h : ∀ s ∈ xs, s.1.length = 2 ∧ s.2.1.length = 2) (hl : xs.length ≤ 9223372036854775806) : laws_eqStrokeS xs xs = some true := by
  unfold laws_eqStrokeS
  rw [if_neg (by simp), count_loop (n := xs.length) (y := .inl (xs.length : Int)) (by omega) (fun i hi => ?_) (by simp [laws_eqStrokeS_l1])]
  · rfl
  · unfold laws_eqStrokeS_l1
    rw [if_pos (by simp; omega), idx_nth hi]
    simp only [Option.bind_some]
    rw [eqStroke_self (h _ (nth_mem hi)).1 (h _ (nth_mem hi)).2, succ64 (by omega)]
    simp
theorem toStrokeS_eq {xs : List (List Int × List Int × Int)} (h : ∀ s ∈ xs, s.1.length = 2 ∧ s.2.1.length = 2) (hl : xs.length ≤ 1048576) : laws_toStrokeS xs = some xs := by
  unfold laws_toStrokeS
  rw [show need (decide (0 ≤ (xs.length : Int)) && decide ((xs.length : Int) ≤ most)) = some () from by unfold need most; rw [if_pos]; simp; omega]
  simp only [Option.bind_some]
  rw [copy_loopN (m := xs.length) (x := xs) (by omega) rfl (by simp) (fun i a r hi hr ha => ?_) (fun r => ?_)]
  · rfl
  · unfold laws_toStrokeS_l1
    simp only
    have hm := List.mem_of_getElem? ha
    rw [if_pos (by simp; omega), idx_nat ha]
    simp only [Option.bind_some]
    rw [toStroke_eq (h _ hm).1 (h _ hm).2, idx_nat (List.getElem?_eq_getElem (show i < r.length by omega))]
    simp only [Option.bind_some]
    rw [succ64 (by omega)]
    rfl
  · unfold laws_toStrokeS_l1
    simp
theorem szStrokeS_eq {xs : List (List Int × List Int × Int)} (hl : xs.length ≤ 9223372036854775807) : ∃ v, laws_szStrokeS xs 1048576 = some v ∧ (0 ≤ v → xs.length ≤ 1048576) := by
  unfold laws_szStrokeS
  rw [wrap64 (by omega) (by omega)]
  split
  · exact ⟨_, rfl, by omega⟩
  · rename_i h
    simp at h
    exact ⟨_, rfl, by omega⟩
theorem eqInt64S_self {xs : List Int} (hl : xs.length ≤ 9223372036854775806) : laws_eqInt64S xs xs = some true := by
  unfold laws_eqInt64S
  rw [if_neg (by simp), count_loop (n := xs.length) (y := .inl (xs.length : Int)) (by omega) (fun i hi => ?_) (by simp [laws_eqInt64S_l1])]
  · rfl
  · unfold laws_eqInt64S_l1
    rw [if_pos (by simp; omega), idx_nth hi]
    simp only [Option.bind_some]
    rw [succ64 (by omega)]
    simp
theorem eqBoolS_self {xs : List Bool} (hl : xs.length ≤ 9223372036854775806) : laws_eqBoolS xs xs = some true := by
  unfold laws_eqBoolS
  rw [if_neg (by simp), count_loop (n := xs.length) (y := .inl (xs.length : Int)) (by omega) (fun i hi => ?_) (by simp [laws_eqBoolS_l1])]
  · rfl
  · unfold laws_eqBoolS_l1
    rw [if_pos (by simp; omega), idx_nth hi]
    simp only [Option.bind_some]
    rw [succ64 (by omega)]
    simp
/-- Which numbers have been told. -/
def told (o : List Int) (n i : Nat) : List Bool := (List.range n).map fun (j : Nat) => (o.take i).contains (j : Int)
/-- Where a stroke begins and ends. -/
def endsI (s : List Int × List Int × Int) (b : Bool) : List Int × List Int := if b = true then (s.2.1, s.1) else (s.1, s.2.1)
theorem specEnds_eq (s : List Int × List Int × Int) (b : Bool) : spec_l06Ends s b = some (endsI s b) := by
  unfold spec_l06Ends endsI
  split <;> rfl
theorem implEnds_eq (s : List Int × List Int × Int) (b : Bool) : impl_Stroke_ends s b = some (endsI s b) := by
  unfold impl_Stroke_ends endsI
  split <;> rfl
theorem ends_ok {s : List Int × List Int × Int} {b : Bool} (h : strokeOk s = true) : markOk (endsI s b).1 = true ∧ markOk (endsI s b).2 = true := by
  simp only [strokeOk, Bool.and_eq_true] at h
  unfold endsI
  split
  · exact ⟨h.1.2, h.1.1⟩
  · exact ⟨h.1.1, h.1.2⟩
theorem markInt64S_eq {xs : List Int} {k : Int} (hl : xs.length ≤ 1000000000) (h0 : 0 ≤ k) (h1 : k ≤ 1000000000000) : laws_markInt64S xs k = some ((List.range xs.length).map (fun (i : Nat) => k + 1 * (i : Int)), k + 1 * (xs.length : Int)) := by
  unfold laws_markInt64S
  have key := mark_loop (L := xs) (k := k) (c := 1) (f := laws_markInt64S_l1) (fun (i : Nat) => k + 1 * (i : Int)) (by omega) (fun i r x hi hr hx hx0 => by
    unfold laws_markInt64S_l1
    simp only
    rw [if_pos (by simp; omega), idx_nat hx]
    simp only [Option.bind_some]
    rw [succ64 (by omega), wrap64 (by omega) (by omega)]
    simp
    omega) (fun s r hr => by
    unfold laws_markInt64S_l1
    simp [hr])
  rw [key]
  rfl
theorem heldInt64S_eq {n : Nat} {k : Int} (hl : n ≤ 1000000000) (h0 : 0 ≤ k) (h1 : k ≤ 1000000000000) : laws_heldInt64S ((List.range n).map (fun (i : Nat) => k + 1 * (i : Int))) k = some (k + 1 * (n : Int)) := by
  unfold laws_heldInt64S
  have key := held_loop (n := n) (k := k) (c := 1) (f := laws_heldInt64S_l1 ((List.range n).map (fun (i : Nat) => k + 1 * (i : Int)))) (by omega) (fun i hi => by
    have hx : ((List.range n).map (fun (i : Nat) => k + 1 * (i : Int)))[i]? = some (k + 1 * (i : Int)) := by simp [hi]
    unfold laws_heldInt64S_l1
    simp only
    rw [if_pos (by simp; omega), idx_nat hx]
    simp only [Option.bind_some]
    rw [succ64 (by omega), wrap64 (by omega) (by omega)]
    simp
    omega) (by
    unfold laws_heldInt64S_l1
    simp)
  rw [key]
  rfl
theorem markBoolS_eq {xs : List Bool} {k : Int} (hl : xs.length ≤ 1000000000) (h0 : 0 ≤ k) (h1 : k ≤ 1000000000000) : laws_markBoolS xs k = some ((List.range xs.length).map (fun (i : Nat) => decide (Int.tmod (k + 1 * (i : Int)) 3 = 0)), k + 1 * (xs.length : Int)) := by
  unfold laws_markBoolS
  have key := mark_loop (L := xs) (k := k) (c := 1) (f := laws_markBoolS_l1) (fun (i : Nat) => decide (Int.tmod (k + 1 * (i : Int)) 3 = 0)) (by omega) (fun i r x hi hr hx hx0 => by
    unfold laws_markBoolS_l1
    simp only
    rw [if_pos (by simp; omega), idx_nat hx]
    simp only [Option.bind_some]
    rw [succ64 (by omega), wrap64 (by omega) (by omega)]
    simp
    omega) (fun s r hr => by
    unfold laws_markBoolS_l1
    simp [hr])
  rw [key]
  rfl
theorem heldBoolS_eq {n : Nat} {k : Int} (hl : n ≤ 1000000000) (h0 : 0 ≤ k) (h1 : k ≤ 1000000000000) : laws_heldBoolS ((List.range n).map (fun (i : Nat) => decide (Int.tmod (k + 1 * (i : Int)) 3 = 0))) k = some (k + 1 * (n : Int)) := by
  unfold laws_heldBoolS
  have key := held_loop (n := n) (k := k) (c := 1) (f := laws_heldBoolS_l1 ((List.range n).map (fun (i : Nat) => decide (Int.tmod (k + 1 * (i : Int)) 3 = 0)))) (by omega) (fun i hi => by
    have hx : ((List.range n).map (fun (i : Nat) => decide (Int.tmod (k + 1 * (i : Int)) 3 = 0)))[i]? = some (decide (Int.tmod (k + 1 * (i : Int)) 3 = 0)) := by simp [hi]
    unfold laws_heldBoolS_l1
    simp only
    rw [if_pos (by simp; omega), idx_nat hx]
    simp only [Option.bind_some]
    rw [succ64 (by omega), wrap64 (by omega) (by omega)]
    simp
    omega) (by
    unfold laws_heldBoolS_l1
    simp)
  rw [key]
  rfl
/-- A stroke as it is laid. -/
def laidS (k : Int) (i : Nat) : List Int × List Int × Int := ([IntKind.i16.wrap (k + 5 * (i : Int)), IntKind.i16.wrap (k + 5 * (i : Int) + 1)], [IntKind.i16.wrap (k + 5 * (i : Int) + 2), IntKind.i16.wrap (k + 5 * (i : Int) + 3)], IntKind.i8.wrap (k + 5 * (i : Int) + 4))
theorem markS_l2 {i : Nat} {s : Int} {r : List (List Int × List Int × Int)} {x : List Int × List Int × Int} (hx : r[i]? = some x) (h2 : x.1.length = 2) (h0 : 0 ≤ s) (h1 : s ≤ 1000000000000) :
    loopN rounds (laws_markStrokeS_l2 (i : Int)) (s, 0, r) = some (s + 2, 2, r.set i ([IntKind.i16.wrap s, IntKind.i16.wrap (s + 1)], x.2.1, x.2.2)) := by
  have hi := (List.getElem?_eq_some_iff.1 hx).1
  obtain ⟨a, b, d⟩ := x
  match a, h2 with
  | [p, q], _ =>
    refine loop_run (fun j => (s + (j : Int), (j : Int), match j with | 0 => r | 1 => r.set i ([IntKind.i16.wrap s, q], b, d) | _ => r.set i ([IntKind.i16.wrap s, IntKind.i16.wrap (s + 1)], b, d))) 2 (by decide) (by simp) (fun j hj => ?_) (by simp [laws_markStrokeS_l2])
    match j, hj with
    | 0, _ =>
      unfold laws_markStrokeS_l2
      simp only
      rw [if_pos (by decide), idx_nat hx]
      simp only [Option.bind_some]
      rw [idx_in (by decide) (by simp)]
      simp only [Option.bind_some]
      rw [wrap64 (n := s + ((0 : Nat) : Int) + 1) (by simp; omega) (by simp; omega)]
      simp
      rfl
    | 1, _ =>
      unfold laws_markStrokeS_l2
      simp only
      rw [if_pos (by decide), idx_nat (x := ([IntKind.i16.wrap s, q], b, d)) (by simp [hi])]
      simp only [Option.bind_some]
      rw [idx_in (by decide) (by simp)]
      simp only [Option.bind_some]
      rw [wrap64 (n := s + ((1 : Nat) : Int) + 1) (by simp; omega) (by simp; omega)]
      simp
      exact ⟨by omega, rfl⟩
theorem markS_l3 {i : Nat} {s : Int} {r : List (List Int × List Int × Int)} {x : List Int × List Int × Int} (hx : r[i]? = some x) (h2 : x.2.1.length = 2) (h0 : 0 ≤ s) (h1 : s ≤ 1000000000000) :
    loopN rounds (laws_markStrokeS_l3 (i : Int)) (s, 0, r) = some (s + 2, 2, r.set i (x.1, [IntKind.i16.wrap s, IntKind.i16.wrap (s + 1)], x.2.2)) := by
  have hi := (List.getElem?_eq_some_iff.1 hx).1
  obtain ⟨b, a, d⟩ := x
  match a, h2 with
  | [p, q], _ =>
    refine loop_run (fun j => (s + (j : Int), (j : Int), match j with | 0 => r | 1 => r.set i (b, [IntKind.i16.wrap s, q], d) | _ => r.set i (b, [IntKind.i16.wrap s, IntKind.i16.wrap (s + 1)], d))) 2 (by decide) (by simp) (fun j hj => ?_) (by simp [laws_markStrokeS_l3])
    match j, hj with
    | 0, _ =>
      unfold laws_markStrokeS_l3
      simp only
      rw [if_pos (by decide), idx_nat hx]
      simp only [Option.bind_some]
      rw [idx_in (by decide) (by simp)]
      simp only [Option.bind_some]
      rw [wrap64 (n := s + ((0 : Nat) : Int) + 1) (by simp; omega) (by simp; omega)]
      simp
      rfl
    | 1, _ =>
      unfold laws_markStrokeS_l3
      simp only
      rw [if_pos (by decide), idx_nat (x := (b, [IntKind.i16.wrap s, q], d)) (by simp [hi])]
      simp only [Option.bind_some]
      rw [idx_in (by decide) (by simp)]
      simp only [Option.bind_some]
      rw [wrap64 (n := s + ((1 : Nat) : Int) + 1) (by simp; omega) (by simp; omega)]
      simp
      exact ⟨by omega, rfl⟩
theorem markStrokeS_eq {xs : List (List Int × List Int × Int)} {k : Int} (h : ∀ s ∈ xs, s.1.length = 2 ∧ s.2.1.length = 2) (hl : xs.length ≤ 1000000000) (h0 : 0 ≤ k) (h1 : k ≤ 100000000000) : laws_markStrokeS xs k = some ((List.range xs.length).map (laidS k), k + 5 * (xs.length : Int)) := by
  unfold laws_markStrokeS
  have key := mark_loop (L := xs) (k := k) (c := 5) (f := laws_markStrokeS_l1) (laidS k) (by omega) (fun i r x hi hr hx hx0 => by
    have hm := h _ (List.mem_of_getElem? hx0)
    unfold laws_markStrokeS_l1
    simp only
    have hi' := (List.getElem?_eq_some_iff.1 hx).1
    rw [if_pos (by simp; omega), markS_l2 hx hm.1 (by omega) (by omega)]
    simp only [Option.bind_some]
    rw [markS_l3 (x := ([IntKind.i16.wrap (k + 5 * (i : Int)), IntKind.i16.wrap (k + 5 * (i : Int) + 1)], x.2.1, x.2.2)) (by simp [hi']) hm.2 (by omega) (by omega)]
    simp only [Option.bind_some]
    rw [idx_nat (x := ([IntKind.i16.wrap (k + 5 * (i : Int)), IntKind.i16.wrap (k + 5 * (i : Int) + 1)], [IntKind.i16.wrap (k + 5 * (i : Int) + 2), IntKind.i16.wrap (k + 5 * (i : Int) + 2 + 1)], x.2.2)) (by simp [hi'])]
    simp only [Option.bind_some]
    rw [succ64 (by omega), wrap64 (by omega) (by omega)]
    have e1 : k + 5 * (i : Int) + 2 + 1 = k + 5 * (i : Int) + 3 := by omega
    have e2 : k + 5 * (i : Int) + 2 + 2 = k + 5 * (i : Int) + 4 := by omega
    have e3 : k + 5 * (i : Int) + 4 + 1 = k + 5 * ((i + 1 : Nat) : Int) := by omega
    rw [e2, e1, e3]
    simp [laidS]) (fun s r hr => by
    unfold laws_markStrokeS_l1
    simp [hr])
  rw [key]
  rfl
theorem all_in {n : Nat} : ∀ {o : List Int}, (∀ j : Nat, j < n → (j : Int) ∈ o) → n ≤ o.length := by
  induction n with
  | zero => intro o _; exact Nat.zero_le _
  | succ n ih =>
    intro o h
    have hn := h n (by omega)
    have h2 : ∀ j : Nat, j < n → (j : Int) ∈ o.erase (n : Int) := fun j hj => (List.mem_erase_of_ne (by omega)).2 (h j (by omega))
    have h3 := ih h2
    have h4 := List.length_erase_of_mem hn
    have h5 : 0 < o.length := List.length_pos_of_mem hn
    omega
/-- One stroke looked at: the nearest so far. -/
def nearer (xs : List (List Int × List Int × Int)) (o a : List Int) (i : Nat) (p : Int × Int × Bool) : Int × Int × Bool :=
  if o.contains (i : Int) = true then p else
    if (decide (p.1 < 0) || decide (min (distI a (nth xs i).1) (distI a (nth xs i).2.1) < p.2.1)) = true then ((i : Int), min (distI a (nth xs i).1) (distI a (nth xs i).2.1), decide (distI a (nth xs i).2.1 < distI a (nth xs i).1)) else p
def nearest (xs : List (List Int × List Int × Int)) (o a : List Int) (j : Nat) : Int × Int × Bool := fold (nearer xs o a) j (-1, 0, false)
theorem nearest_in {xs : List (List Int × List Int × Int)} {o a : List Int} : ∀ j : Nat, ((nearest xs o a j).1 = -1 ∧ ∀ i : Nat, i < j → (i : Int) ∈ o) ∨ (0 ≤ (nearest xs o a j).1 ∧ (nearest xs o a j).1 < (j : Int))
  | 0 => .inl ⟨rfl, fun i h => by omega⟩
  | j + 1 => by
    have ih := nearest_in (xs := xs) (o := o) (a := a) j
    unfold nearest at *
    simp only [fold]
    generalize fold (nearer xs o a) j (-1, 0, false) = p at *
    unfold nearer
    split
    · rename_i hc
      have hc : (j : Int) ∈ o := by simpa using hc
      rcases ih with ⟨h1, h2⟩ | ⟨h1, h2⟩
      · refine .inl ⟨h1, fun i hi => ?_⟩
        rcases Nat.lt_or_ge i j with h | h
        · exact h2 i h
        · have : i = j := by omega
          subst this; exact hc
      · exact .inr ⟨h1, by omega⟩
    · split
      · exact .inr ⟨by simp, by simp; omega⟩
      · rename_i hq
        rcases ih with ⟨h1, h2⟩ | ⟨h1, h2⟩
        · rw [h1] at hq; simp at hq
        · exact .inr ⟨h1, by omega⟩
theorem nearest_ok {xs : List (List Int × List Int × Int)} {o a : List Int} (h : o.length < xs.length) : 0 ≤ (nearest xs o a xs.length).1 ∧ (nearest xs o a xs.length).1 < (xs.length : Int) := by
  rcases nearest_in (xs := xs) (o := o) (a := a) xs.length with ⟨_, h2⟩ | h
  · have := all_in h2
    omega
  · exact h
/-- What has been told, number by number. -/
def usedL (o : List Int) (n : Nat) : List Bool := (List.range n).map fun (j : Nat) => o.contains (j : Int)
theorem usedL_next {o : List Int} {n : Nat} {b : Int} (h0 : 0 ≤ b) (h1 : b < (n : Int)) : (usedL o n).set b.toNat true = usedL (o ++ [b]) n := by
  apply List.ext_getElem?
  intro j
  unfold usedL
  rw [List.getElem?_set]
  simp only [List.length_map, List.length_range, List.getElem?_map]
  by_cases hj : j < n
  · rw [List.getElem?_range hj]
    simp only [Option.map_some]
    by_cases he : b.toNat = j
    · rw [if_pos he, if_pos (by omega)]
      have : (j : Int) = b := by omega
      simp [this]
    · rw [if_neg he]
      have : ¬ (j : Int) = b := by omega
      simp [this]
  · have : ¬ b.toNat = j := by omega
    rw [if_neg this]
    simp [List.getElem?_eq_none (l := List.range n) (i := j) (by simp; omega)]
theorem contains_eq {o : List Int} {x : Int} (hl : o.length ≤ 9223372036854775806) : slices_Contains_int64_int64 o x = some (o.contains x) := by
  unfold slices_Contains_int64_int64 slices_Index_int64_int64
  rcases find_loop (f := slices_Index_int64_int64_l1 o x) (n := o.length) (fun i => decide (x = nth o i)) (fun i => (i : Int)) (by omega) (fun i hi hp => by
      unfold slices_Index_int64_int64_l1
      rw [if_pos (by simp; omega), idx_nth hi]
      simp only [Option.bind_some]
      rw [if_neg (by simpa using hp), succ64 (by omega)]) (fun i hi hp => by
      unfold slices_Index_int64_int64_l1
      rw [if_pos (by simp; omega), idx_nth hi]
      simp only [Option.bind_some]
      rw [if_pos (by simpa using hp)]) (by unfold slices_Index_int64_int64_l1; simp) with ⟨h1, h2⟩ | ⟨i, hi, h1, _, h2⟩
  · have : o.contains x = false := by
      simp only [List.contains_eq_mem, decide_eq_false_iff_not]
      intro hm
      obtain ⟨k, hk⟩ := List.getElem?_of_mem hm
      have hkl := (List.getElem?_eq_some_iff.1 hk).1
      rw [nth_get hkl] at hk
      have := h1 k hkl
      simp only [decide_eq_false_iff_not] at this
      exact this (Option.some.inj hk).symm
    rw [h2, this]
    rfl
  · have : o.contains x = true := by
      simp only [List.contains_eq_mem, decide_eq_true_eq]
      have h1 : x = nth o i := by simpa using h1
      rw [h1]; exact nth_mem hi
    rw [h2, this]
    simp
theorem specNearest_eq {xs : List (List Int × List Int × Int)} {o a : List Int} (hx : ∀ x ∈ xs, strokeOk x = true) (ha : markOk a = true) (hl : xs.length ≤ 2000000) :
    loopN rounds (spec_OrderStrokes_l2 xs (usedL o xs.length) a) (-1, 0, false, 0) = some ((nearest xs o a xs.length).1, (nearest xs o a xs.length).2.1, (nearest xs o a xs.length).2.2, (xs.length : Int)) := by
  refine loop_run (fun j => ((nearest xs o a j).1, (nearest xs o a j).2.1, (nearest xs o a j).2.2, (j : Int))) xs.length (by omega) rfl (fun j hj => ?_) (by unfold spec_OrderStrokes_l2; simp)
  have hs := hx _ (nth_mem hj)
  simp only [strokeOk, Bool.and_eq_true] at hs
  have hu : idx (usedL o xs.length) (j : Int) = some (o.contains (j : Int)) := by
    refine idx_nat ?_
    unfold usedL
    simp [hj]
  unfold spec_OrderStrokes_l2
  simp only
  rw [if_pos (by simp; omega), hu]
  simp only [Option.bind_some]
  have e : nearest xs o a (j + 1) = nearer xs o a j (nearest xs o a j) := rfl
  rw [e]
  generalize nearest xs o a j = p
  unfold nearer
  by_cases hc : o.contains (j : Int) = true
  · simp only [hc, if_true, spec_OrderStrokes_k1]
    rw [succ64 (by omega)]
  · simp only [hc, if_false, Bool.false_eq_true]
    rw [idx_nth hj]
    simp only [Option.bind_some]
    rw [specDist_eq ha hs.1.1, specDist_eq ha hs.1.2]
    simp only [Option.bind_some, spec_l00Min]
    have hm : (if decide (distI a (nth xs j).1 < distI a (nth xs j).2.1) = true then some (distI a (nth xs j).1) else some (distI a (nth xs j).2.1)) = some (min (distI a (nth xs j).1) (distI a (nth xs j).2.1)) := by
      simp only [decide_eq_true_eq, Int.min_def]
      split
      · rw [if_pos (by omega)]
      · split
        · congr 1; omega
        · rfl
    rw [hm]
    simp only [Option.bind_some]
    split
    · simp only [Option.bind_some, spec_OrderStrokes_k1]
      rw [succ64 (by omega)]
    · simp only [Option.bind_some, spec_OrderStrokes_k1]
      rw [succ64 (by omega)]
theorem implNearest_eq {xs : List (List Int × List Int × Int)} {o a : List Int} (hx : ∀ x ∈ xs, strokeOk x = true) (ha : markOk a = true) (hl : xs.length ≤ 2000000) (ho : o.length ≤ 2000000) :
    loopN rounds (impl_OrderStrokes_l2 xs o a) (-1, false, 0, 0) = some ((nearest xs o a xs.length).1, (nearest xs o a xs.length).2.2, (nearest xs o a xs.length).2.1, (xs.length : Int)) := by
  refine loop_run (fun j => ((nearest xs o a j).1, (nearest xs o a j).2.2, (nearest xs o a j).2.1, (j : Int))) xs.length (by omega) rfl (fun j hj => ?_) (by unfold impl_OrderStrokes_l2; simp)
  have hs := hx _ (nth_mem hj)
  simp only [strokeOk, Bool.and_eq_true] at hs
  unfold impl_OrderStrokes_l2
  simp only
  rw [if_pos (by simp; omega), idx_nth hj]
  simp only [Option.bind_some]
  rw [contains_eq (by omega)]
  simp only [Option.bind_some]
  have e : nearest xs o a (j + 1) = nearer xs o a j (nearest xs o a j) := rfl
  rw [e]
  generalize nearest xs o a j = p
  unfold nearer
  by_cases hc : o.contains (j : Int) = true
  · simp only [hc, if_true, impl_OrderStrokes_k1]
    rw [succ64 (by omega)]
  · simp only [hc, if_false, Bool.false_eq_true]
    rw [implDist_eq ha hs.1.1, implDist_eq ha hs.1.2]
    simp only [Option.bind_some]
    split
    · simp only [Option.bind_some, impl_OrderStrokes_k1]
      rw [succ64 (by omega)]
    · simp only [Option.bind_some, impl_OrderStrokes_k1]
      rw [succ64 (by omega)]
/-- One stroke further in the order: the order, what is turned, where the pen is. -/
def ordStep (xs : List (List Int × List Int × Int)) (i : Nat) (p : List Int × List Bool × List Int) : List Int × List Bool × List Int :=
  (p.1 ++ [(nearest xs p.1 p.2.2 xs.length).1], p.2.1 ++ [(nearest xs p.1 p.2.2 xs.length).2.2], (endsI (nth xs (nearest xs p.1 p.2.2 xs.length).1.toNat) (nearest xs p.1 p.2.2 xs.length).2.2).2)
def ordI (xs : List (List Int × List Int × Int)) (s : List Int) (i : Nat) : List Int × List Bool × List Int := fold (ordStep xs) i ([], [], s)
theorem ordI_keep {xs : List (List Int × List Int × Int)} {s : List Int} (hx : ∀ x ∈ xs, strokeOk x = true) (hs : markOk s = true) : ∀ i, i ≤ xs.length → (ordI xs s i).1.length = i ∧ (ordI xs s i).2.1.length = i ∧ markOk (ordI xs s i).2.2 = true
  | 0, _ => ⟨rfl, rfl, hs⟩
  | i + 1, hi => by
    obtain ⟨h1, h2, h3⟩ := ordI_keep hx hs i (by omega)
    have hb := nearest_ok (xs := xs) (o := (ordI xs s i).1) (a := (ordI xs s i).2.2) (by omega)
    have e : ordI xs s (i + 1) = ordStep xs i (ordI xs s i) := rfl
    rw [e]
    unfold ordStep
    refine ⟨by simp [h1], by simp [h2], ?_⟩
    exact (ends_ok (hx _ (nth_mem (by omega)))).2
theorem orders_eq {xs : List (List Int × List Int × Int)} {s : List Int} (hl : xs.length ≤ 2000000) : ∃ y, spec_OrderStrokes xs s = some y ∧ impl_OrderStrokes xs s = some y ∧ y.1.length ≤ 60 ∧ y.2.1.length ≤ 60 := by
  unfold spec_OrderStrokes impl_OrderStrokes
  rw [specCode_eq (by omega), implCode_eq (by omega), areMarks_eq (by simp)]
  simp only [Option.bind_some, spec_mark_eq, impl_when, List.all_cons, List.all_nil, Bool.and_true]
  by_cases hs : markOk s = true
  · simp only [hs, Bool.not_true, Bool.false_eq_true, if_false, Option.bind_some, first2]
    by_cases hc : codeI xs = 0
    · obtain ⟨k1, k2⟩ := codeI_ok hc
      simp only [hc, ne_eq, not_true_eq_false, decide_false, Bool.false_eq_true, if_false]
      rw [show need (decide (0 ≤ (xs.length : Int)) && decide ((xs.length : Int) ≤ most)) = some () from by unfold need most; rw [if_pos]; simp; omega]
      simp only [Option.bind_some]
      have u0 : List.replicate (xs.length : Int).toNat false = usedL [] xs.length := by
        unfold usedL
        apply List.ext_getElem?
        intro j
        simp only [Int.toNat_natCast, List.getElem?_replicate, List.getElem?_map]
        by_cases hj : j < xs.length
        · simp [hj]
        · simp [hj]
      rw [u0]
      have s1 : loopN rounds (spec_OrderStrokes_l1 xs) (0, usedL [] xs.length, [], [], s) = some ((xs.length : Int), usedL (ordI xs s xs.length).1 xs.length, (ordI xs s xs.length).1, (ordI xs s xs.length).2.1, (ordI xs s xs.length).2.2) := by
        refine loop_run (fun i => ((i : Int), usedL (ordI xs s i).1 xs.length, (ordI xs s i).1, (ordI xs s i).2.1, (ordI xs s i).2.2)) xs.length (by omega) rfl (fun i hi => ?_) (by unfold spec_OrderStrokes_l1; simp)
        obtain ⟨h1, h2, h3⟩ := ordI_keep k1 hs i (by omega)
        have hb := nearest_ok (xs := xs) (o := (ordI xs s i).1) (a := (ordI xs s i).2.2) (by omega)
        unfold spec_OrderStrokes_l1
        simp only
        rw [if_pos (by simp; omega), specNearest_eq k1 h3 (by omega)]
        simp only [Option.bind_some]
        rw [idx_in hb.1 (by unfold usedL; simp; omega)]
        simp only [Option.bind_some]
        rw [app_some (by simp; omega)]
        simp only [Option.bind_some]
        rw [app_some (by simp; omega)]
        simp only [Option.bind_some]
        rw [idx_in hb.1 (by omega)]
        simp only [Option.bind_some, specEnds_eq]
        rw [succ64 (by omega), usedL_next hb.1 hb.2]
        rfl
      have s2 : loopN rounds (impl_OrderStrokes_l1 xs) ([], [], s) = some (ordI xs s xs.length) := by
        refine loop_run (fun i => ordI xs s i) xs.length (by omega) rfl (fun i hi => ?_) ?_
        · obtain ⟨h1, h2, h3⟩ := ordI_keep k1 hs i (by omega)
          have hb := nearest_ok (xs := xs) (o := (ordI xs s i).1) (a := (ordI xs s i).2.2) (by omega)
          have e : ordI xs s (i + 1) = ordStep xs i (ordI xs s i) := rfl
          rw [e]
          generalize ordI xs s i = p at *
          obtain ⟨po, pt, pa⟩ := p
          simp only at *
          unfold impl_OrderStrokes_l1 ordStep
          simp only
          rw [if_pos (by simp; omega), implNearest_eq k1 h3 (by omega) (by omega)]
          simp only [Option.bind_some]
          rw [idx_in hb.1 (by omega)]
          simp only [Option.bind_some, implEnds_eq]
          rw [app_some (by simp; omega)]
          simp only [Option.bind_some]
          rw [app_some (by simp; omega)]
          simp only [Option.bind_some]
        · obtain ⟨h1, h2, h3⟩ := ordI_keep k1 hs xs.length (Nat.le_refl _)
          generalize ordI xs s xs.length = p at *
          obtain ⟨po, pt, pa⟩ := p
          unfold impl_OrderStrokes_l1
          simp only at *
          rw [if_neg (by simp; omega)]
      rw [s1, s2]
      obtain ⟨h1, h2, h3⟩ := ordI_keep k1 hs xs.length (Nat.le_refl _)
      exact ⟨((ordI xs s xs.length).1, (ordI xs s xs.length).2.1, 0), rfl, rfl, by simp only; omega, by simp only; omega⟩
    · simp only [hc, ne_eq, not_true_eq_false, not_false_eq_true, decide_true, if_true, if_false]
      exact ⟨_, rfl, rfl, by simp, by simp⟩
  · simp only [hs, Bool.not_false, if_true, Option.bind_some, first2]
    exact ⟨([], [], 1), by simp, by simp, by simp, by simp⟩
theorem pure_FnExactOrderStrokes (x0 : (List ((List Int) × (List Int) × Int))) (x1 : (List Int)) (g0 : (x0.length ≤ 9223372036854775807 ∧ ∀ e ∈ x0, ((e.1.length = 2 ∧ ∀ e1 ∈ e.1, (IntKind.i16.min ≤ e1 ∧ e1 ≤ IntKind.i16.max)) ∧ ((e.2.1.length = 2 ∧ ∀ e1 ∈ e.2.1, (IntKind.i16.min ≤ e1 ∧ e1 ≤ IntKind.i16.max)) ∧ (IntKind.i8.min ≤ e.2.2 ∧ e.2.2 ≤ IntKind.i8.max)))))
    (g1 : (x1.length = 2 ∧ ∀ e ∈ x1, (IntKind.i16.min ≤ e ∧ e ≤ IntKind.i16.max))) : laws_FnExactOrderStrokes x0 x1 = some true := by
  have h2 : ∀ s ∈ x0, s.1.length = 2 ∧ s.2.1.length = 2 := fun s hs => ⟨(g0.2 s hs).1.1, (g0.2 s hs).2.1.1⟩
  obtain ⟨v, hv, hl⟩ := szStrokeS_eq g0.1
  unfold laws_FnExactOrderStrokes
  rw [hv]
  simp only [Option.bind_some]
  by_cases h : v < 0
  · simp [h]
  · have hl := hl (by omega)
    obtain ⟨y, e1, e2, l1, l2⟩ := orders_eq (xs := x0) (s := x1) (by omega)
    have m1 := markStrokeS_eq (xs := x0) (k := 1) h2 (by omega) (by omega) (by omega)
    have m2 := markInt64S_eq (xs := y.1) (k := 1) (by omega) (by omega) (by omega)
    have m3 := markBoolS_eq (xs := y.2.1) (k := 1 + 1 * (y.1.length : Int)) (by omega) (by omega) (by omega)
    have n2 := heldInt64S_eq (n := y.1.length) (k := 1) (by omega) (by omega) (by omega)
    have n3 := heldBoolS_eq (n := y.2.1.length) (k := 1 + 1 * (y.1.length : Int)) (by omega) (by omega) (by omega)
    have q1 : ¬ (1 + 5 * (x0.length : Int) < 0) := by omega
    have q2 : ¬ (1 + 1 * (y.1.length : Int) < 0) := by omega
    have q3 : ¬ (1 + 1 * (y.1.length : Int) + 1 * (y.2.1.length : Int) < 0) := by omega
    simp only [h, toMark_eq g1.1, toStrokeS_eq h2 hl, e1, e2, eqStrokeS_self h2 (show x0.length ≤ 9223372036854775806 by omega), eqInt64S_self (xs := y.1) (by omega), eqBoolS_self (xs := y.2.1) (by omega), m1, m2, m3, n2, n3, q1, q2, q3, Option.bind_some, decide_false, Bool.false_eq_true, if_false, Bool.not_true, ne_eq, not_true_eq_false, Bool.or_self]
/-- A mark as it is laid. -/
def laid (k : Int) (i : Nat) : List Int := [IntKind.i16.wrap (k + 2 * (i : Int)), IntKind.i16.wrap (k + 2 * (i : Int) + 1)]
end Go.Proofs.Ytjmlfdhddbhlpaa
