/- The plain law of MarksOf: both sides list the same marks. -/
import Derived.Test.YtnpkhhfpgedkoaaPureD
import Derived.Test.YtnpkhhfpgedkoaaFE
set_option linter.unusedVariables false
set_option maxRecDepth 100000
set_option maxHeartbeats 1600000
namespace Go.Proofs.Ytnpkhhfpgedkoaa
open Go
theorem marksI_two {a b : List Int} (ha : a.length = 2) : ∀ m ∈ marksI a b, m.length = 2 := by
  intro m hm
  unfold marksI at hm
  split at hm
  · simp at hm; subst hm; exact ha
  · simp only [List.mem_map] at hm
    obtain ⟨t, _, rfl⟩ := hm
    rfl
theorem eqMarkS_self {xs : List (List Int)} (h : ∀ s ∈ xs, s.length = 2) (hl : xs.length ≤ 9223372036854775806) : laws_eqMarkS xs xs = some true := by
  unfold laws_eqMarkS
  rw [if_neg (by simp), count_loop (n := xs.length) (y := .inl (xs.length : Int)) (by omega) (fun i hi => ?_) (by simp [laws_eqMarkS_l1])]
  · rfl
  · unfold laws_eqMarkS_l1
    rw [if_pos (by simp; omega), idx_nth hi]
    simp only [Option.bind_some]
    rw [eqMark_self (h _ (nth_mem hi)), succ64 (by omega)]
    simp
/-- A mark as it is laid. -/
def laid (k : Int) (i : Nat) : List Int := [IntKind.i16.wrap (k + 2 * (i : Int)), IntKind.i16.wrap (k + 2 * (i : Int) + 1)]
theorem mark_l2 {i : Nat} {s : Int} {r : List (List Int)} {x : List Int} (hx : r[i]? = some x) (h2 : x.length = 2) (h0 : 0 ≤ s) (h1 : s ≤ 1000000000000) :
    loopN rounds (laws_markMarkS_l2 (i : Int)) (s, 0, r) = some (s + 2, 2, r.set i [IntKind.i16.wrap s, IntKind.i16.wrap (s + 1)]) := by
  have hi := (List.getElem?_eq_some_iff.1 hx).1
  match x, h2 with
  | [p, q], _ =>
    refine loop_run (fun j => (s + (j : Int), (j : Int), match j with | 0 => r | 1 => r.set i [IntKind.i16.wrap s, q] | _ => r.set i [IntKind.i16.wrap s, IntKind.i16.wrap (s + 1)])) 2 (by decide) (by simp) (fun j hj => ?_) (by simp [laws_markMarkS_l2])
    match j, hj with
    | 0, _ =>
      unfold laws_markMarkS_l2
      simp only
      rw [if_pos (by decide), idx_nat hx]
      simp only [Option.bind_some]
      rw [idx_in (by decide) (by simp)]
      simp only [Option.bind_some]
      rw [wrap64 (n := s + ((0 : Nat) : Int) + 1) (by simp; omega) (by simp; omega)]
      simp
      rfl
    | 1, _ =>
      unfold laws_markMarkS_l2
      simp only
      rw [if_pos (by decide), idx_nat (x := [IntKind.i16.wrap s, q]) (by simp [hi])]
      simp only [Option.bind_some]
      rw [idx_in (by decide) (by simp)]
      simp only [Option.bind_some]
      rw [wrap64 (n := s + ((1 : Nat) : Int) + 1) (by simp; omega) (by simp; omega)]
      simp
      exact ⟨by omega, rfl⟩
theorem mark_eq {xs : List (List Int)} (h : ∀ s ∈ xs, s.length = 2) (hl : xs.length ≤ 1000000000) : laws_markMarkS xs 1 = some ((List.range xs.length).map (laid 1), 1 + 2 * (xs.length : Int)) := by
  unfold laws_markMarkS
  have key := mark_loop (L := xs) (k := 1) (c := 2) (f := laws_markMarkS_l1) (laid 1) (by omega) (fun i r x hi hr hx hx0 => by
    unfold laws_markMarkS_l1
    simp only
    rw [if_pos (by simp; omega), mark_l2 hx (h _ (List.mem_of_getElem? hx0)) (by omega) (by omega)]
    simp only [Option.bind_some]
    rw [succ64 (by omega)]
    simp [laid]
    omega) (fun s r hr => by
    unfold laws_markMarkS_l1
    simp [hr])
  rw [key]
  rfl
theorem held_eq {n : Nat} (hl : n ≤ 1000000000) : laws_heldMarkS ((List.range n).map (laid 1)) 1 = some (1 + 2 * (n : Int)) := by
  unfold laws_heldMarkS
  have key := held_loop (n := n) (k := 1) (c := 2) (f := laws_heldMarkS_l1 ((List.range n).map (laid 1))) (by omega) (fun i hi => by
    have hx : ((List.range n).map (laid 1))[i]? = some (laid 1 i) := by simp [hi]
    have inner : loopN rounds (laws_heldMarkS_l2 ((List.range n).map (laid 1)) (i : Int)) (1 + 2 * (i : Int), 0) = some (.inl (1 + 2 * (i : Int) + 2, 2)) := by
      refine loop_run (fun j => (1 + 2 * (i : Int) + (j : Int), (j : Int))) 2 (by decide) (by simp) (fun j hj => ?_) (by simp [laws_heldMarkS_l2])
      match j, hj with
      | 0, _ =>
        unfold laws_heldMarkS_l2
        simp only
        rw [if_pos (by decide), idx_nat hx]
        simp only [Option.bind_some]
        rw [idx_in (by decide) (by simp [laid])]
        simp only [Option.bind_some]
        rw [wrap64 (n := 1 + 2 * (i : Int) + ((0 : Nat) : Int) + 1) (by simp; omega) (by simp; omega)]
        simp [laid, nth]
        rfl
      | 1, _ =>
        unfold laws_heldMarkS_l2
        simp only
        rw [if_pos (by decide), idx_nat hx]
        simp only [Option.bind_some]
        rw [idx_in (by decide) (by simp [laid])]
        simp only [Option.bind_some]
        rw [wrap64 (n := 1 + 2 * (i : Int) + ((1 : Nat) : Int) + 1) (by simp; omega) (by simp; omega)]
        simp [laid, nth]
        exact ⟨by omega, rfl⟩
    unfold laws_heldMarkS_l1
    simp only
    rw [if_pos (by simp; omega), inner]
    simp only [Option.bind_some]
    rw [succ64 (by omega)]
    simp
    omega) (by
    unfold laws_heldMarkS_l1
    simp)
  rw [key]
  rfl
theorem pure_FnExactMarksOf (x0 : ((List Int) × (List Int) × Int)) (g0 : ((x0.1.length = 2 ∧ ∀ e ∈ x0.1, (IntKind.i16.min ≤ e ∧ e ≤ IntKind.i16.max)) ∧ ((x0.2.1.length = 2 ∧ ∀ e ∈ x0.2.1, (IntKind.i16.min ≤ e ∧ e ≤ IntKind.i16.max)) ∧ (IntKind.i8.min ≤ x0.2.2 ∧ x0.2.2 ≤ IntKind.i8.max)))) : laws_FnExactMarksOf x0 = some true := by
  have e : ∃ y, spec_MarksOf x0 = some y ∧ impl_MarksOf x0 = some y ∧ (∀ m ∈ y.1, m.length = 2) ∧ y.1.length ≤ 1001 := by
    unfold spec_MarksOf impl_MarksOf
    rw [specOk_eq, validStroke_eq]
    simp only [Option.bind_some]
    by_cases h : strokeOk x0 = true
    · have hs : strokeIs x0 := ⟨g0.1.1, g0.2.1.1, h⟩
      obtain ⟨m1, m2⟩ := strokeIs_marks hs
      refine ⟨(marksI x0.1 x0.2.1, 0), ?_, ?_, marksI_two hs.1, marksI_len m1 m2⟩
      · simp [h, specMarks_eq hs.1 hs.2.1 m1 m2]
      · rw [show impl_Stroke_marks x0 = some (marksI x0.1 x0.2.1) from implMarks_eq hs.1 hs.2.1 m1 m2]; simp [h]
    · exact ⟨([], 1), by simp [h], by simp [h], by simp, by simp⟩
  obtain ⟨y, e1, e2, e3, e4⟩ := e
  unfold laws_FnExactMarksOf
  rw [toStroke_eq g0.1.1 g0.2.1.1]
  simp only [Option.bind_some]
  rw [e1, e2]
  simp only [Option.bind_some]
  rw [eqMarkS_self e3 (by omega), mark_eq e3 (by omega)]
  simp only [Option.bind_some]
  rw [held_eq (by omega)]
  have h0 : ¬ (1 + 2 * (y.1.length : Int) < 0) := by omega
  simp [h0]
end Go.Proofs.Ytnpkhhfpgedkoaa
