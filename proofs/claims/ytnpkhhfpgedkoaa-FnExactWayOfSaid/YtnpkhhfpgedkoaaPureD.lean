/- Plain laws: strokes drawn. -/
import Derived.Test.YtnpkhhfpgedkoaaFB
import Derived.Test.YtnpkhhfpgedkoaaPureB
set_option linter.unusedVariables false
set_option maxRecDepth 100000
set_option maxHeartbeats 1600000
namespace Go.Proofs.Ytnpkhhfpgedkoaa
open Go
theorem wrapUv (X : BitVec 64) : IntKind.u64.wrap (X.toNat : Int) = (X.toNat : Int) :=
  wrap_in .u64 (by simp [IntKind.min, IntKind.signed]) (by have := X.isLt; simp [IntKind.max, IntKind.signed, IntKind.bits]; omega)
theorem ofInt_toNat (X : BitVec 64) : BitVec.ofInt 64 (X.toNat : Int) = X := by simp
theorem or_andNot (v b : Int) : bitop .or .u64 (bitop .andNot .u64 v b) b = bitop .or .u64 v b := by
  have e : bitop .andNot .u64 v b = ((BitVec.ofInt 64 v &&& ~~~ BitVec.ofInt 64 b).toNat : Int) := wrapUv _
  have o : ∀ u w, bitop .or .u64 u w = ((BitVec.ofInt 64 u ||| BitVec.ofInt 64 w).toNat : Int) := fun u w => wrapUv _
  rw [e, o, o, ofInt_toNat]
  congr 2
  ext i hi
  simp only [BitVec.getElem_or, BitVec.getElem_and, BitVec.getElem_not]
  cases (BitVec.ofInt 64 v)[i] <;> cases (BitVec.ofInt 64 b)[i] <;> rfl
/-- A mark set on a sheet. -/
def putOn (x m : List Int) : List Int :=
  if 0 ≤ nth m 0 ∧ nth m 0 < 64 ∧ 0 ≤ nth m 1 ∧ nth m 1 < 64 then x.set (nth m 1).toNat (bitop .or .u64 (nth x (nth m 1).toNat) (IntKind.u64.wrap (1 * 2 ^ (min (nth m 0).toNat IntKind.u64.bits)))) else x
theorem putOn_len (x m : List Int) : (putOn x m).length = x.length := by unfold putOn; split <;> simp
theorem specPut_eq {x m : List Int} (hx : x.length = 64) : spec_l06Put x m true = some (putOn x m) := by
  unfold spec_l06Put putOn
  simp only [spec_isOn_eq, Option.bind_some]
  by_cases h : (0 ≤ nth m 0 ∧ nth m 0 < 64 ∧ 0 ≤ nth m 1 ∧ nth m 1 < 64)
  · simp only [h, and_self, decide_true, Bool.not_true, Bool.false_eq_true, if_false, if_true]
    rw [idx_in h.2.2.1 (by omega), wrap_in .u64 (n := nth m 0) (by have := h.1; simp [IntKind.min, IntKind.signed]; exact this) (by simp [IntKind.max, IntKind.signed, IntKind.bits]; omega)]
    simp
  · simp only [h, decide_false, Bool.not_false, if_true, if_false]
theorem implSet_eq {x m : List Int} (hx : x.length = 64) : impl_Sheet_set x m true = some (putOn x m) := by
  unfold impl_Sheet_set putOn
  simp only [impl_isOn_eq, Option.bind_some]
  by_cases h : (0 ≤ nth m 0 ∧ nth m 0 < 64 ∧ 0 ≤ nth m 1 ∧ nth m 1 < 64)
  · simp only [h, and_self, decide_true, Bool.not_true, Bool.false_eq_true, if_false, if_true, need]
    rw [idx_in h.2.2.1 (by omega)]
    simp only [Option.bind_some]
    rw [idx_in h.2.2.1 (by rw [List.length_set]; omega)]
    simp only [Option.bind_some]
    have e : ∀ v : Int, nth (x.set (nth m 1).toNat v) (nth m 1).toNat = v := fun v => by
      have := nth_get (xs := x.set (nth m 1).toNat v) (i := (nth m 1).toNat) (by rw [List.length_set]; omega)
      rw [List.getElem?_set_self (by omega)] at this
      exact (Option.some.inj this).symm
    rw [e, or_andNot, List.set_set]
  · simp only [h, decide_false, Bool.not_false, if_true, if_false]
/-- The nearest whole number to a quotient. -/
def nearI (q d : Int) : Int := if Int.tmod (2 * q + d) (2 * d) < 0 then Int.tdiv (2 * q + d) (2 * d) - 1 else Int.tdiv (2 * q + d) (2 * d)
theorem tdiv_small {n d : Int} (hd : 1 ≤ d) (h1 : -1099511627776 ≤ n) (h2 : n ≤ 1099511627776) : -1099511627776 ≤ Int.tdiv n d ∧ Int.tdiv n d ≤ 1099511627776 := by
  have h3 : (Int.tdiv n d).natAbs ≤ n.natAbs := by rw [Int.natAbs_tdiv]; exact Nat.div_le_self _ _
  omega
theorem near_core {q d : Int} (hd : 0 < d) (hd2 : d ≤ 1048576) (h1 : -274877906944 ≤ q) (h2 : q ≤ 274877906944) :
    ((need (decide ((IntKind.i64.wrap (2 * d)) ≠ 0))).bind fun _ => (need (decide ((IntKind.i64.wrap (2 * d)) ≠ 0))).bind fun _ => (if (decide ((Int.tmod (IntKind.i64.wrap ((IntKind.i64.wrap (2 * q)) + d)) (IntKind.i64.wrap (2 * d))) < 0)) = true then some (IntKind.i64.wrap ((IntKind.i64.wrap (Int.tdiv (IntKind.i64.wrap ((IntKind.i64.wrap (2 * q)) + d)) (IntKind.i64.wrap (2 * d)))) - 1)) else some (IntKind.i64.wrap (Int.tdiv (IntKind.i64.wrap ((IntKind.i64.wrap (2 * q)) + d)) (IntKind.i64.wrap (2 * d))))).bind fun y6 => some y6) = some (nearI q d) := by
  have hb := tdiv_small (n := 2 * q + d) (d := 2 * d) (by omega) (by omega) (by omega)
  rw [wrap64 (n := 2 * d) (by omega) (by omega), wrap64 (n := 2 * q) (by omega) (by omega), wrap64 (n := 2 * q + d) (by omega) (by omega), wrap64 (n := Int.tdiv (2 * q + d) (2 * d)) (by omega) (by omega), wrap64 (n := Int.tdiv (2 * q + d) (2 * d) - 1) (by omega) (by omega)]
  unfold nearI
  simp only [need, show (2 * d ≠ 0) from by omega, ne_eq, not_false_eq_true, decide_true, if_true, Option.bind_some, decide_eq_true_eq]
  split <;> rfl
theorem specNear_eq {q d : Int} (hd : 0 < d) (hd2 : d ≤ 1048576) (h1 : -274877906944 ≤ q) (h2 : q ≤ 274877906944) : spec_l06Near q d = some (nearI q d) := near_core hd hd2 h1 h2
theorem roundQ_eq {q d : Int} (hd : 0 < d) (hd2 : d ≤ 1048576) (h1 : -274877906944 ≤ q) (h2 : q ≤ 274877906944) : impl_roundQuotient q d = some (nearI q d) := by
  have := near_core hd hd2 h1 h2
  unfold impl_roundQuotient
  rw [if_neg (by simp; omega)]
  simpa using this
theorem near_zero {d : Int} (hd : 0 < d) : nearI 0 d = 0 := by
  unfold nearI
  have h1 : Int.tmod (2 * 0 + d) (2 * d) = d := by rw [Int.mul_zero, Int.zero_add, Int.tmod_eq_of_lt (by omega) (by omega)]
  have h2 : Int.tdiv (2 * 0 + d) (2 * d) = 0 := by rw [Int.mul_zero, Int.zero_add, Int.tdiv_eq_zero_of_lt (by omega) (by omega)]
  rw [h1, h2, if_neg (by omega)]
/-- How far apart two marks are. -/
def distI (a b : List Int) : Int := max (max (max (nth a 0 - nth b 0) (0 - (nth a 0 - nth b 0))) (nth a 1 - nth b 1)) (0 - (nth a 1 - nth b 1))
theorem markOk_rng {a : List Int} (h : markOk a = true) : -500 ≤ nth a 0 ∧ nth a 0 ≤ 500 ∧ -500 ≤ nth a 1 ∧ nth a 1 ≤ 500 := by simpa [markOk] using h
theorem dist_rng {a b : List Int} (ha : markOk a = true) (hb : markOk b = true) : 0 ≤ distI a b ∧ distI a b ≤ 1000 := by
  have h1 := markOk_rng ha
  have h2 := markOk_rng hb
  unfold distI
  simp only [Int.max_def]
  (repeat' split) <;> omega
theorem implDist_eq {a b : List Int} (ha : markOk a = true) (hb : markOk b = true) : impl_DistanceOf a b = some (distI a b) := by
  have h1 := markOk_rng ha
  have h2 := markOk_rng hb
  unfold impl_DistanceOf distI
  rw [wrap64 (n := nth a 0 - nth b 0) (by omega) (by omega), wrap64 (n := nth a 1 - nth b 1) (by omega) (by omega), wrap64 (n := 0 - (nth a 0 - nth b 0)) (by omega) (by omega), wrap64 (n := 0 - (nth a 1 - nth b 1)) (by omega) (by omega)]
theorem specDist_eq {a b : List Int} (ha : markOk a = true) (hb : markOk b = true) : spec_l06Distance a b = some (distI a b) := by
  have h1 := markOk_rng ha
  have h2 := markOk_rng hb
  unfold spec_l06Distance spec_l06Far spec_l00Max distI
  generalize nth a 0 = p at *
  generalize nth a 1 = q at *
  generalize nth b 0 = r at *
  generalize nth b 1 = u at *
  rw [wrap64 (n := p - r) (by omega) (by omega), wrap64 (n := q - u) (by omega) (by omega), wrap64 (n := 0 - (p - r)) (by omega) (by omega), wrap64 (n := 0 - (q - u)) (by omega) (by omega)]
  by_cases h3 : p - r < 0 <;> by_cases h4 : q - u < 0 <;> simp only [h3, h4, decide_true, decide_false, if_true, Option.bind_some, Bool.false_eq_true, if_false]
  all_goals (split <;> simp only [Option.bind_some] <;> rename_i h5 <;> simp only [decide_eq_true_eq] at h5)
  all_goals (congr 1; simp only [Int.max_def]; (repeat' split) <;> omega)
theorem wrap16_add (a n : Int) : IntKind.i16.wrap (a + IntKind.i16.wrap n) = IntKind.i16.wrap (a + n) := by
  simp only [IntKind.wrap, IntKind.bits, IntKind.signed]
  simp
  (repeat' split) <;> omega
theorem near_rng {q d : Int} (hd : 0 < d) (h1 : -274877906944 ≤ q) (h2 : q ≤ 274877906944) (hd2 : d ≤ 1048576) : -1099511627777 ≤ nearI q d ∧ nearI q d ≤ 1099511627776 := by
  have hb := tdiv_small (n := 2 * q + d) (d := 2 * d) (by omega) (by omega) (by omega)
  unfold nearI
  split <;> omega
/-- One mark of a stroke. -/
def markAt (a b : List Int) (d t : Int) : List Int := [IntKind.i16.wrap (nth a 0 + nearI (t * (nth b 0 - nth a 0)) d), IntKind.i16.wrap (nth a 1 + nearI (t * (nth b 1 - nth a 1)) d)]
theorem mul_rng {t u : Int} (h0 : 0 ≤ t) (h1 : t ≤ 1000) (h2 : -1000 ≤ u) (h3 : u ≤ 1000) : -1000000 ≤ t * u ∧ t * u ≤ 1000000 := by
  constructor
  · have := Int.mul_le_mul_of_nonneg_left h2 h0
    omega
  · have := Int.mul_le_mul_of_nonneg_left h3 h0
    omega
section
variable {a b : List Int} {d t : Int} (ha : a.length = 2) (hb : b.length = 2) (hma : markOk a = true) (hmb : markOk b = true)
include ha hb hma hmb
theorem spec_l2_eq (hd : 0 < d) (hd2 : d ≤ 1000) (h0 : 0 ≤ t) (h1 : t ≤ d) : loopN rounds (spec_l06Marks_l2 a b d t) (0, List.replicate 2 0) = some (2, markAt a b d t) := by
  have ra := markOk_rng hma
  have rb := markOk_rng hmb
  have m0 := mul_rng (u := nth b 0 - nth a 0) h0 (by omega) (by omega) (by omega)
  have m1 := mul_rng (u := nth b 1 - nth a 1) h0 (by omega) (by omega) (by omega)
  have n0 := near_rng (q := t * (nth b 0 - nth a 0)) hd (by omega) (by omega) (by omega)
  have n1 := near_rng (q := t * (nth b 1 - nth a 1)) hd (by omega) (by omega) (by omega)
  have s0 := specNear_eq (q := t * (nth b 0 - nth a 0)) hd (by omega) (by omega) (by omega)
  have s1 := specNear_eq (q := t * (nth b 1 - nth a 1)) hd (by omega) (by omega) (by omega)
  refine loop_run (fun j => ((j : Int), match j with | 0 => [0, 0] | 1 => [IntKind.i16.wrap (nth a 0 + nearI (t * (nth b 0 - nth a 0)) d), 0] | _ => markAt a b d t)) 2 (by decide) rfl (fun j hj => ?_) rfl
  match j, hj with
  | 0, _ =>
    unfold spec_l06Marks_l2
    simp only
    rw [if_pos (by decide), idx_in (by decide) (by simp [ha]), idx_in (by decide) (by simp [hb])]
    simp only [Option.bind_some]
    rw [show (((0 : Nat) : Int)).toNat = 0 from rfl, wrap64 (n := nth b 0 - nth a 0) (by omega) (by omega), wrap64 (n := t * (nth b 0 - nth a 0)) (by omega) (by omega), s0]
    simp only [Option.bind_some]
    rw [idx_in (by decide) (by simp)]
    simp only [Option.bind_some]
    rw [wrap64 (n := nth a 0 + nearI (t * (nth b 0 - nth a 0)) d) (by omega) (by omega)]
    rfl
  | 1, _ =>
    unfold spec_l06Marks_l2
    simp only
    rw [if_pos (by decide), idx_in (by decide) (by simp [ha]), idx_in (by decide) (by simp [hb])]
    simp only [Option.bind_some]
    rw [show (((1 : Nat) : Int)).toNat = 1 from rfl, wrap64 (n := nth b 1 - nth a 1) (by omega) (by omega), wrap64 (n := t * (nth b 1 - nth a 1)) (by omega) (by omega), s1]
    simp only [Option.bind_some]
    rw [idx_in (by decide) (by simp)]
    simp only [Option.bind_some]
    rw [wrap64 (n := nth a 1 + nearI (t * (nth b 1 - nth a 1)) d) (by omega) (by omega)]
    rfl
theorem impl_l2_eq {z : Int} (hd : 0 < d) (hd2 : d ≤ 1000) (h0 : 0 ≤ t) (h1 : t ≤ d) : loopN rounds (impl_Stroke_marks_l2 (a, b, z) d t) (0, List.replicate 2 0) = some (2, markAt a b d t) := by
  have ra := markOk_rng hma
  have rb := markOk_rng hmb
  have m0 := mul_rng (u := nth b 0 - nth a 0) h0 (by omega) (by omega) (by omega)
  have m1 := mul_rng (u := nth b 1 - nth a 1) h0 (by omega) (by omega) (by omega)
  have s0 := roundQ_eq (q := t * (nth b 0 - nth a 0)) hd (by omega) (by omega) (by omega)
  have s1 := roundQ_eq (q := t * (nth b 1 - nth a 1)) hd (by omega) (by omega) (by omega)
  refine loop_run (fun j => ((j : Int), match j with | 0 => [0, 0] | 1 => [IntKind.i16.wrap (nth a 0 + nearI (t * (nth b 0 - nth a 0)) d), 0] | _ => markAt a b d t)) 2 (by decide) rfl (fun j hj => ?_) rfl
  match j, hj with
  | 0, _ =>
    unfold impl_Stroke_marks_l2
    simp only
    rw [if_pos (by decide), idx_in (by decide) (by simp [ha]), idx_in (by decide) (by simp [hb])]
    simp only [Option.bind_some]
    rw [show (((0 : Nat) : Int)).toNat = 0 from rfl, wrap64 (n := nth b 0 - nth a 0) (by omega) (by omega), wrap64 (n := t * (nth b 0 - nth a 0)) (by omega) (by omega), s0]
    simp only [Option.bind_some]
    rw [idx_in (by decide) (by simp)]
    simp only [Option.bind_some]
    rw [wrap16_add]
    rfl
  | 1, _ =>
    unfold impl_Stroke_marks_l2
    simp only
    rw [if_pos (by decide), idx_in (by decide) (by simp [ha]), idx_in (by decide) (by simp [hb])]
    simp only [Option.bind_some]
    rw [show (((1 : Nat) : Int)).toNat = 1 from rfl, wrap64 (n := nth b 1 - nth a 1) (by omega) (by omega), wrap64 (n := t * (nth b 1 - nth a 1)) (by omega) (by omega), s1]
    simp only [Option.bind_some]
    rw [idx_in (by decide) (by simp)]
    simp only [Option.bind_some]
    rw [wrap16_add]
    rfl
/-- The marks of a stroke. -/
def marksI (a b : List Int) : List (List Int) := if distI a b = 0 then [a] else (List.range ((distI a b).toNat + 1)).map fun (t : Nat) => markAt a b (distI a b) (t : Int)
omit hb hmb in
theorem mark_first (hd : 0 < d) : markAt a b d 0 = a := by
  have ra := markOk_rng hma
  unfold markAt
  rw [Int.zero_mul, Int.zero_mul, near_zero hd, Int.add_zero, Int.add_zero, wrap_in .i16 (n := nth a 0) (by simp [IntKind.min, IntKind.signed, IntKind.bits]; omega) (by simp [IntKind.max, IntKind.signed, IntKind.bits]; omega), wrap_in .i16 (n := nth a 1) (by simp [IntKind.min, IntKind.signed, IntKind.bits]; omega) (by simp [IntKind.max, IntKind.signed, IntKind.bits]; omega)]
  exact (list2 ha).symm
theorem specMarks_eq : spec_l06Marks a b = some (marksI a b) := by
  unfold spec_l06Marks marksI
  have hr := dist_rng hma hmb
  rw [specDist_eq hma hmb]
  simp only [Option.bind_some, decide_eq_true_eq]
  generalize hD : distI a b = D at *
  obtain ⟨n, rfl⟩ := Int.eq_ofNat_of_zero_le hr.1
  split
  · rfl
  · rename_i h0
    have key : loopN rounds (spec_l06Marks_l1 a b (n : Int)) (0, []) = some (((n + 1 : Nat) : Int), (List.range (n + 1)).map fun (t : Nat) => markAt a b (n : Int) (t : Int)) := by
      refine loop_run (fun j => ((j : Int), (List.range j).map fun (t : Nat) => markAt a b (n : Int) (t : Int))) (n + 1) (by omega) rfl (fun j hj => ?_) ?_
      · unfold spec_l06Marks_l1
        simp only
        rw [if_pos (by simp; omega), spec_l2_eq ha hb hma hmb (by omega) (by omega) (by omega) (by omega)]
        simp only [Option.bind_some]
        rw [app_some (by simp; omega), succ64 (by omega)]
        simp [List.range_succ]
      · unfold spec_l06Marks_l1
        simp only
        rw [if_neg (by simp; omega)]
    rw [key]
    simp
theorem implMarks_eq {z : Int} : impl_Stroke_marks (a, b, z) = some (marksI a b) := by
  unfold impl_Stroke_marks marksI
  have hr := dist_rng hma hmb
  rw [implDist_eq hma hmb]
  simp only [Option.bind_some]
  generalize hD : distI a b = D at *
  obtain ⟨n, rfl⟩ := Int.eq_ofNat_of_zero_le hr.1
  have h1 : [a] = if (n : Int) = 0 then [a] else (List.range 1).map fun (t : Nat) => markAt a b (n : Int) (t : Int) := by
    split
    · rfl
    · simp only [List.range_one, List.map_cons, List.map_nil]
      rw [show ((0 : Nat) : Int) = 0 from rfl, mark_first ha hma (by omega)]
  have key : loopN rounds (impl_Stroke_marks_l1 (a, b, z) (n : Int)) (1, [a]) = some (((n + 1 : Nat) : Int), if (n : Int) = 0 then [a] else (List.range (n + 1)).map fun (t : Nat) => markAt a b (n : Int) (t : Int)) := by
    refine loop_run (fun j => (((j + 1 : Nat) : Int), if (n : Int) = 0 then [a] else (List.range (j + 1)).map fun (t : Nat) => markAt a b (n : Int) (t : Int))) n (by omega) (by simp only [Nat.zero_add]; rw [← h1]; rfl) (fun j hj => ?_) ?_
    · unfold impl_Stroke_marks_l1
      simp only
      rw [if_pos (by simp; omega), impl_l2_eq ha hb hma hmb (by omega) (by omega) (by omega) (by omega), if_neg (by omega), if_neg (by omega)]
      simp only [Option.bind_some]
      rw [app_some (by simp; omega), succ64 (by omega)]
      simp [List.range_succ]
    · unfold impl_Stroke_marks_l1
      simp only
      rw [if_neg (by simp; omega)]
  rw [key]
  simp
end
theorem marksI_len {a b : List Int} (hma : markOk a = true) (hmb : markOk b = true) : (marksI a b).length ≤ 1001 := by
  have hr := dist_rng hma hmb
  unfold marksI
  split
  · simp
  · simp; omega
/-- Whether a mark of a stroke is drawn. -/
def drawnB (dash k : Int) : Bool := if dash = 0 then true else if dash = 1 then decide (Int.tmod k 6 < 4) else if dash = 2 then decide (Int.tmod k 2 = 0) else if dash = 3 then decide (Int.tmod k 8 < 5) || decide (Int.tmod k 8 = 6) else false
theorem specDrawn_eq (z k : Int) : spec_l06Drawn z k = some (drawnB z k) := by
  unfold spec_l06Drawn drawnB
  simp only [decide_eq_true_eq]
  (repeat' split) <;> rfl
theorem implDrawn_eq {z k : Int} (h : 0 ≤ k) : impl_IsDrawn z k = some (drawnB z k) := by
  unfold impl_IsDrawn drawnB
  simp only [decide_eq_true_eq]
  rw [if_neg (by omega)]
  (repeat' split) <;> rfl
/-- A stroke drawn on a sheet. -/
def drawOn (s : List Int × List Int × Int) (x : List Int) : List Int := fold (fun i r => if drawnB s.2.2 (i : Int) = true then putOn r (nth (marksI s.1 s.2.1) i) else r) (marksI s.1 s.2.1).length x
/-- A stroke's numbers. -/
def strokeIs (s : List Int × List Int × Int) : Prop := s.1.length = 2 ∧ s.2.1.length = 2 ∧ strokeOk s = true
theorem strokeIs_marks {s : List Int × List Int × Int} (h : strokeIs s) : markOk s.1 = true ∧ markOk s.2.1 = true := by
  have := h.2.2
  simp only [strokeOk, Bool.and_eq_true] at this
  exact this.1
theorem specStroke_eq {s : List Int × List Int × Int} {x : List Int} (h : strokeIs s) (hx : x.length = 64) : spec_l06Stroke x s = some (drawOn s x) ∧ (drawOn s x).length = 64 := by
  obtain ⟨m1, m2⟩ := strokeIs_marks h
  have hl := marksI_len m1 m2
  unfold spec_l06Stroke drawOn
  rw [specMarks_eq h.1 h.2.1 m1 m2]
  simp only [Option.bind_some]
  have key := fold_loop (f := spec_l06Stroke_l1 s (marksI s.1 s.2.1)) (n := (marksI s.1 s.2.1).length) (fun i r => if drawnB s.2.2 (i : Int) = true then putOn r (nth (marksI s.1 s.2.1) i) else r) (fun r => r.length = 64) (by omega) hx (fun i r hi hr => ?_) (fun r hr => ?_)
  · rw [key.1]; exact ⟨rfl, key.2⟩
  · refine ⟨?_, by (try dsimp only); split <;> simp [putOn_len, hr]⟩
    unfold spec_l06Stroke_l1
    simp only
    rw [if_pos (by simp; omega), specDrawn_eq, idx_nth hi]
    simp only [Option.bind_some]
    rw [specPut_eq hr, succ64 (by omega)]
    simp only [Option.bind_some]
    split <;> rfl
  · unfold spec_l06Stroke_l1
    simp
theorem implDraw_eq {s : List Int × List Int × Int} {x : List Int} (h : strokeIs s) (hx : x.length = 64) : impl_Sheet_draw x s true = some (drawOn s x) := by
  obtain ⟨m1, m2⟩ := strokeIs_marks h
  have hl := marksI_len m1 m2
  unfold impl_Sheet_draw drawOn
  rw [show impl_Stroke_marks s = some (marksI s.1 s.2.1) from implMarks_eq h.1 h.2.1 m1 m2]
  simp only [Option.bind_some]
  have key := fold_loop (f := impl_Sheet_draw_l1 s true (marksI s.1 s.2.1)) (n := (marksI s.1 s.2.1).length) (fun i r => if drawnB s.2.2 (i : Int) = true then putOn r (nth (marksI s.1 s.2.1) i) else r) (fun r => r.length = 64) (by omega) hx (fun i r hi hr => ?_) (fun r hr => ?_)
  · rw [key.1]; rfl
  · refine ⟨?_, by (try dsimp only); split <;> simp [putOn_len, hr]⟩
    unfold impl_Sheet_draw_l1
    simp only
    rw [if_pos (by simp; omega), implDrawn_eq (by omega), idx_nth hi]
    simp only [Option.bind_some]
    rw [implSet_eq hr, succ64 (by omega)]
    simp only [Option.bind_some]
    split <;> rfl
  · unfold impl_Sheet_draw_l1
    simp
/-- The first number that is not nought. -/
def firstI : List Int → Int
  | [] => 0
  | x :: xs => if x ≠ 0 then x else firstI xs
theorem first2 (x y : Int) : impl_first [x, y] = some (if x ≠ 0 then x else y) := by
  unfold impl_first
  by_cases hx : x = 0
  · subst hx
    by_cases hy : y = 0
    · subst hy
      rw [count_loop (n := 2) (y := .inl 2) (by decide) (fun i hi => ?_) (by simp [impl_first_l1])]
      · simp
      · match i, hi with
        | 0, _ => simp [impl_first_l1, idx]; rfl
        | 1, _ => simp [impl_first_l1, idx]; rfl
    · rw [loop_run (s := 0) (fun j => (j : Int)) 1 (by decide) rfl (fun j hj => ?_) (y := .inr y) (by simp [impl_first_l1, idx, hy])]
      · simp
      · match j, hj with
        | 0, _ => simp [impl_first_l1, idx]; rfl
  · rw [loop_run (s := 0) (fun j => (j : Int)) 0 (by decide) rfl (fun j hj => by omega) (y := .inr x) (by simp [impl_first_l1, idx, hx])]
    simp [hx]
/-- The code of strokes. -/
def codeI (xs : List (List Int × List Int × Int)) : Int := if xs.all strokeOk = true then (if 60 < (xs.length : Int) then 3 else 0) else 1
theorem specCode_eq {xs : List (List Int × List Int × Int)} (h : xs.length ≤ 9223372036854775806) : spec_l06Strokes xs = some (codeI xs) := by
  unfold spec_l06Strokes codeI
  have key := all_loop (xs := xs) (f := spec_l06Strokes_l1 xs) strokeOk (1 : Int) (by omega) (fun i x hx => by
    have hi := (List.getElem?_eq_some_iff.1 hx).1
    unfold spec_l06Strokes_l1
    rw [if_pos (by simp; omega), idx_nat hx]
    simp only [Option.bind_some, specOk_eq]
    rw [succ64 (by omega)]
    cases strokeOk x <;> simp) (by
    unfold spec_l06Strokes_l1
    simp)
  rw [key]
  simp only [Option.bind_some, decide_eq_true_eq]
  split <;> rename_i h2 <;> split at h2 <;> rename_i h3 <;> cases h2
  · rw [if_pos h3]
    split <;> rfl
  · rw [if_neg h3]
theorem implCode_eq {xs : List (List Int × List Int × Int)} (h : xs.length ≤ 9223372036854775806) : impl_strokesCode xs = some (codeI xs) := by
  unfold impl_strokesCode codeI
  have e : slices_ContainsFunc_Stroke_Stroke xs impl_strokesCode_c1 = some (xs.any fun x => !strokeOk x) := containsOf (by omega) fun x _ => by unfold impl_strokesCode_c1; rw [validStroke_eq]; rfl
  rw [e]
  simp only [Option.bind_some, impl_when, ← List.not_all_eq_any_not, decide_eq_true_eq]
  cases xs.all strokeOk with
  | true => by_cases h : 60 < (xs.length : Int) <;> simp [h, first2]
  | false => by_cases h : 60 < (xs.length : Int) <;> simp [h, first2]
theorem codeI_ok {xs : List (List Int × List Int × Int)} (h : codeI xs = 0) : (∀ x ∈ xs, strokeOk x = true) ∧ xs.length ≤ 60 := by
  unfold codeI at h
  split at h
  · rename_i h1
    rw [List.all_eq_true] at h1
    split at h
    · omega
    · exact ⟨h1, by omega⟩
  · omega
/-- Strokes drawn one behind the other. -/
def drawAll (xs : List (List Int × List Int × Int)) (x : List Int) : List Int := fold (fun i r => drawOn (nth xs i) r) xs.length x
theorem draws_eq {xs : List (List Int × List Int × Int)} {x : List Int} (h : ∀ s ∈ xs, s.1.length = 2 ∧ s.2.1.length = 2) (hx : x.length = 64) (hl : xs.length ≤ 9223372036854775806) :
    ∃ y, y.1.length = 64 ∧ spec_DrawStrokes x xs = some y ∧ impl_DrawStrokes x xs = some y := by
  unfold spec_DrawStrokes impl_DrawStrokes
  rw [specCode_eq hl, implCode_eq hl]
  simp only [Option.bind_some]
  by_cases hc : codeI xs = 0
  · obtain ⟨h1, h2⟩ := codeI_ok hc
    simp only [hc, ne_eq, not_true_eq_false, decide_false, Bool.false_eq_true, if_false]
    have is : ∀ i, i < xs.length → strokeIs (nth xs i) := fun i hi => ⟨(h _ (nth_mem hi)).1, (h _ (nth_mem hi)).2, h1 _ (nth_mem hi)⟩
    have k1 := fold_loop (f := spec_DrawStrokes_l1 xs) (n := xs.length) (r0 := x) (fun i r => drawOn (nth xs i) r) (fun r => r.length = 64) (by omega) hx (fun i r hi hr => ⟨by
      unfold spec_DrawStrokes_l1
      simp only
      rw [if_pos (by simp; omega), idx_nth hi]
      simp only [Option.bind_some]
      rw [(specStroke_eq (is i hi) hr).1, succ64 (by omega)]
      rfl, (specStroke_eq (is i hi) hr).2⟩) (fun r hr => by unfold spec_DrawStrokes_l1; simp)
    have k2 := fold_loop (f := impl_DrawStrokes_l1 xs) (n := xs.length) (r0 := x) (fun i r => drawOn (nth xs i) r) (fun r => r.length = 64) (by omega) hx (fun i r hi hr => ⟨by
      unfold impl_DrawStrokes_l1
      simp only
      rw [if_pos (by simp; omega), idx_nth hi]
      simp only [Option.bind_some]
      rw [implDraw_eq (is i hi) hr, succ64 (by omega)]
      rfl, (specStroke_eq (is i hi) hr).2⟩) (fun r hr => by unfold impl_DrawStrokes_l1; simp)
    rw [k1.1, k2.1]
    exact ⟨_, k1.2, rfl, rfl⟩
  · simp only [hc, ne_eq, not_false_eq_true, decide_true, if_true]
    exact ⟨_, by simp, rfl, rfl⟩
theorem eqSheet_self {x : List Int} (h : x.length = 64) : laws_eqSheet x x = some true := by
  unfold laws_eqSheet
  rw [count_loop (n := 64) (y := .inl 64) (by decide) (fun i hi => ?_) (by simp [laws_eqSheet_l1])]
  · rfl
  · unfold laws_eqSheet_l1
    rw [if_pos (by simp; omega), idx_nth (by omega)]
    simp only [Option.bind_some]
    rw [succ64 (by omega)]
    simp
theorem eqMark_self {x : List Int} (h : x.length = 2) : laws_eqMark x x = some true := by
  unfold laws_eqMark
  rw [count_loop (n := 2) (y := .inl 2) (by decide) (fun i hi => ?_) (by simp [laws_eqMark_l1])]
  · rfl
  · unfold laws_eqMark_l1
    rw [if_pos (by simp; omega), idx_nth (by omega)]
    simp only [Option.bind_some]
    rw [succ64 (by omega)]
    simp
theorem eqStroke_self {x : List Int × List Int × Int} (h0 : x.1.length = 2) (h1 : x.2.1.length = 2) : laws_eqStroke x x = some true := by
  unfold laws_eqStroke
  rw [eqMark_self h0, eqMark_self h1]
  simp
theorem eqStrokeS_self {xs : List (List Int × List Int × Int)} (h : ∀ s ∈ xs, s.1.length = 2 ∧ s.2.1.length = 2) (hl : xs.length ≤ 9223372036854775806) : laws_eqStrokeS xs xs = some true := by
  unfold laws_eqStrokeS
  rw [if_neg (by simp), count_loop (n := xs.length) (y := .inl (xs.length : Int)) (by omega) (fun i hi => ?_) (by simp [laws_eqStrokeS_l1])]
  · rfl
  · unfold laws_eqStrokeS_l1
    rw [if_pos (by simp; omega), idx_nth hi]
    simp only [Option.bind_some]
    rw [eqStroke_self (h _ (nth_mem hi)).1 (h _ (nth_mem hi)).2, succ64 (by omega)]
    simp
theorem toStrokeS_eq {xs : List (List Int × List Int × Int)} (h : ∀ s ∈ xs, s.1.length = 2 ∧ s.2.1.length = 2) (hl : xs.length ≤ 1048576) : laws_toStrokeS xs = some xs := by
  unfold laws_toStrokeS
  rw [show need (decide (0 ≤ (xs.length : Int)) && decide ((xs.length : Int) ≤ most)) = some () from by unfold need most; rw [if_pos]; simp; omega]
  simp only [Option.bind_some]
  rw [copy_loopN (m := xs.length) (x := xs) (by omega) rfl (by simp) (fun i a r hi hr ha => ?_) (fun r => ?_)]
  · rfl
  · unfold laws_toStrokeS_l1
    simp only
    have hm := List.mem_of_getElem? ha
    rw [if_pos (by simp; omega), idx_nat ha]
    simp only [Option.bind_some]
    rw [toStroke_eq (h _ hm).1 (h _ hm).2, idx_nat (List.getElem?_eq_getElem (show i < r.length by omega))]
    simp only [Option.bind_some]
    rw [succ64 (by omega)]
    rfl
  · unfold laws_toStrokeS_l1
    simp
theorem szStrokeS_eq {xs : List (List Int × List Int × Int)} (hl : xs.length ≤ 9223372036854775807) : ∃ v, laws_szStrokeS xs 1048576 = some v ∧ (0 ≤ v → xs.length ≤ 1048576) := by
  unfold laws_szStrokeS
  rw [wrap64 (by omega) (by omega)]
  split
  · exact ⟨_, rfl, by omega⟩
  · rename_i h
    simp at h
    exact ⟨_, rfl, by omega⟩
end Go.Proofs.Ytnpkhhfpgedkoaa
