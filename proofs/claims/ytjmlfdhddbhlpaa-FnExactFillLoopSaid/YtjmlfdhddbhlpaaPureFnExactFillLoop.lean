/- The plain law of FnExactFillLoop, and what it leans on. -/
import Derived.Test.YtjmlfdhddbhlpaaFB
import Derived.Test.YtjmlfdhddbhlpaaWords
set_option linter.unusedVariables false
set_option linter.unusedSimpArgs false
set_option maxRecDepth 100000
set_option maxHeartbeats 1600000
namespace Go.Proofs.Ytjmlfdhddbhlpaa
open Go
theorem toSheet_eq {x : List Int} (h : x.length = 64) : laws_toSheet x = some x := by
  unfold laws_toSheet
  rw [copy_loop (m := 64) (x := x) (by decide) h (by simp) (fun i a r hi hr ha => ?_) (fun r => ?_)]
  · rfl
  · unfold laws_toSheet_l1
    simp only
    rw [if_pos (by simp; omega), idx_nat ha]
    simp only [Option.bind_some]
    rw [idx_nat (List.getElem?_eq_getElem (show i < r.length by omega))]
    simp only [Option.bind_some]
    rw [wrap64 (by omega) (by omega)]
    simp
  · rfl
theorem eqSheet_self {x : List Int} (h : x.length = 64) : laws_eqSheet x x = some true := by
  unfold laws_eqSheet
  rw [count_loop (n := 64) (y := .inl 64) (by decide) (fun i hi => ?_) (by simp [laws_eqSheet_l1])]
  · rfl
  · unfold laws_eqSheet_l1
    rw [if_pos (by simp; omega), idx_nth (by omega)]
    simp only [Option.bind_some]
    rw [succ64 (by omega)]
    simp
/-- A mark's numbers are in reach. -/
def markOk (x : List Int) : Bool := decide (-500 ≤ nth x 0 ∧ nth x 0 ≤ 500 ∧ -500 ≤ nth x 1 ∧ nth x 1 ≤ 500)
theorem impl_c1_eq (x : List Int) : impl_areMarks_c1 x = some (!markOk x) := by
  unfold impl_areMarks_c1 impl_within markOk
  simp only [Option.bind_some]
  by_cases h : (-500 ≤ nth x 0 ∧ nth x 0 ≤ 500)
  · simp [h]
  · rw [if_pos (by simp; omega), decide_eq_false (fun k => h ⟨k.1, k.2.1⟩)]; rfl
theorem areMarks_eq {xs : List (List Int)} (h : xs.length ≤ 9223372036854775807) : impl_areMarks xs = some (xs.all markOk) := by
  have e : slices_ContainsFunc_Mark_Mark xs impl_areMarks_c1 = some (xs.any fun x => !markOk x) := containsOf h fun x _ => impl_c1_eq x
  unfold impl_areMarks
  rw [e]
  simp [List.not_any_eq_all_not]
theorem first2 (x y : Int) : impl_first [x, y] = some (if x ≠ 0 then x else y) := by
  unfold impl_first
  by_cases hx : x = 0
  · subst hx
    by_cases hy : y = 0
    · subst hy
      rw [count_loop (n := 2) (y := .inl 2) (by decide) (fun i hi => ?_) (by simp [impl_first_l1])]
      · simp
      · match i, hi with
        | 0, _ => simp [impl_first_l1, idx]; rfl
        | 1, _ => simp [impl_first_l1, idx]; rfl
    · rw [loop_run (s := 0) (fun j => (j : Int)) 1 (by decide) rfl (fun j hj => ?_) (y := .inr y) (by simp [impl_first_l1, idx, hy])]
      · simp
      · match j, hj with
        | 0, _ => simp [impl_first_l1, idx]; rfl
  · rw [loop_run (s := 0) (fun j => (j : Int)) 0 (by decide) rfl (fun j hj => by omega) (y := .inr x) (by simp [impl_first_l1, idx, hx])]
    simp [hx]
theorem within_eq3 (a b c : Int) : impl_within a b c = some (decide (b ≤ a ∧ a ≤ c)) := by
  unfold impl_within
  simp
/-- A mark given ink, or taken it. -/
def putI (x m : List Int) (ink : Bool) : List Int :=
  if 0 ≤ nth m 0 ∧ nth m 0 < 64 ∧ 0 ≤ nth m 1 ∧ nth m 1 < 64 then x.set (nth m 1).toNat (if ink = true then bitop .or .u64 (nth x (nth m 1).toNat) (IntKind.u64.wrap (1 * 2 ^ (min (nth m 0).toNat IntKind.u64.bits))) else bitop .andNot .u64 (nth x (nth m 1).toNat) (IntKind.u64.wrap (1 * 2 ^ (min (nth m 0).toNat IntKind.u64.bits)))) else x
/-- The corner behind. -/
def nextI (l : List (List Int)) (i : Nat) : List Int := nth l ((i + 1) % l.length)
/-- Whether a side crosses to the right of a mark. -/
def crossB (a b : List Int) (x y : Int) : Bool :=
  if ((decide (nth a 1 ≤ y)) == (decide (nth b 1 ≤ y))) = true then false else
    ((decide (0 < (IntKind.i64.wrap ((IntKind.i64.wrap ((IntKind.i64.wrap ((nth b 0) - (nth a 0))) * (IntKind.i64.wrap (y - (nth a 1))))) - (IntKind.i64.wrap ((IntKind.i64.wrap (x - (nth a 0))) * (IntKind.i64.wrap ((nth b 1) - (nth a 1))))))))) && (decide ((nth a 1) < (nth b 1)))) ||
      ((decide ((IntKind.i64.wrap ((IntKind.i64.wrap ((IntKind.i64.wrap ((nth b 0) - (nth a 0))) * (IntKind.i64.wrap (y - (nth a 1))))) - (IntKind.i64.wrap ((IntKind.i64.wrap (x - (nth a 0))) * (IntKind.i64.wrap ((nth b 1) - (nth a 1))))))) < 0)) && (decide ((nth b 1) < (nth a 1))))
def inB (l : List (List Int)) (x y : Int) : Bool := fold (fun k b => if crossB (nth l k) (nextI l k) x y = true then !b else b) l.length false
/-- A row filled. -/
def rowI (l : List (List Int)) (ink : Bool) (y : Nat) (x : List Int) : List Int := fold (fun i r => if inB l (i : Int) (y : Int) = true then putI r [(i : Int), (y : Int)] ink else r) 64 x
def insideI (l : List (List Int)) (ink : Bool) (x : List Int) : List Int := fold (rowI l ink) 64 x
/-- How far apart two marks are. -/
def distI (a b : List Int) : Int := max (max (max (nth a 0 - nth b 0) (0 - (nth a 0 - nth b 0))) (nth a 1 - nth b 1)) (0 - (nth a 1 - nth b 1))
/-- The nearest whole number to a quotient. -/
def nearI (q d : Int) : Int := if Int.tmod (2 * q + d) (2 * d) < 0 then Int.tdiv (2 * q + d) (2 * d) - 1 else Int.tdiv (2 * q + d) (2 * d)
/-- One mark of a stroke. -/
def markAt (a b : List Int) (d t : Int) : List Int := [IntKind.i16.wrap (nth a 0 + nearI (t * (nth b 0 - nth a 0)) d), IntKind.i16.wrap (nth a 1 + nearI (t * (nth b 1 - nth a 1)) d)]
/-- The marks of a stroke. -/
def marksI (a b : List Int) : List (List Int) := if distI a b = 0 then [a] else (List.range ((distI a b).toNat + 1)).map fun (t : Nat) => markAt a b (distI a b) (t : Int)
/-- A side given ink, or taken it. -/
def inkOn (ink : Bool) (a b x : List Int) : List Int := fold (fun i r => putI r (nth (marksI a b) i) ink) (marksI a b).length x
/-- A loop filled: what lies in it, then its sides. -/
def bordI (l : List (List Int)) (ink : Bool) (x : List Int) : List Int := fold (fun i r => inkOn ink (nth l i) (nextI l i) r) l.length x
theorem markOk_rng {a : List Int} (h : markOk a = true) : -500 ≤ nth a 0 ∧ nth a 0 ≤ 500 ∧ -500 ≤ nth a 1 ∧ nth a 1 ≤ 500 := by simpa [markOk] using h
theorem dist_rng {a b : List Int} (ha : markOk a = true) (hb : markOk b = true) : 0 ≤ distI a b ∧ distI a b ≤ 1000 := by
  have h1 := markOk_rng ha
  have h2 := markOk_rng hb
  unfold distI
  simp only [Int.max_def]
  (repeat' split) <;> omega
theorem specDist_eq {a b : List Int} (ha : markOk a = true) (hb : markOk b = true) : spec_l06Distance a b = some (distI a b) := by
  have h1 := markOk_rng ha
  have h2 := markOk_rng hb
  unfold spec_l06Distance spec_l06Far spec_l00Max distI
  generalize nth a 0 = p at *
  generalize nth a 1 = q at *
  generalize nth b 0 = r at *
  generalize nth b 1 = u at *
  rw [wrap64 (n := p - r) (by omega) (by omega), wrap64 (n := q - u) (by omega) (by omega), wrap64 (n := 0 - (p - r)) (by omega) (by omega), wrap64 (n := 0 - (q - u)) (by omega) (by omega)]
  by_cases h3 : p - r < 0 <;> by_cases h4 : q - u < 0 <;> simp only [h3, h4, decide_true, decide_false, if_true, Option.bind_some, Bool.false_eq_true, if_false]
  all_goals (split <;> simp only [Option.bind_some] <;> rename_i h5 <;> simp only [decide_eq_true_eq] at h5)
  all_goals (congr 1; simp only [Int.max_def]; (repeat' split) <;> omega)
theorem tdiv_small {n d : Int} (hd : 1 ≤ d) (h1 : -1099511627776 ≤ n) (h2 : n ≤ 1099511627776) : -1099511627776 ≤ Int.tdiv n d ∧ Int.tdiv n d ≤ 1099511627776 := by
  have h3 : (Int.tdiv n d).natAbs ≤ n.natAbs := by rw [Int.natAbs_tdiv]; exact Nat.div_le_self _ _
  omega
theorem near_core {q d : Int} (hd : 0 < d) (hd2 : d ≤ 1048576) (h1 : -274877906944 ≤ q) (h2 : q ≤ 274877906944) :
    ((need (decide ((IntKind.i64.wrap (2 * d)) ≠ 0))).bind fun _ => (need (decide ((IntKind.i64.wrap (2 * d)) ≠ 0))).bind fun _ => (if (decide ((Int.tmod (IntKind.i64.wrap ((IntKind.i64.wrap (2 * q)) + d)) (IntKind.i64.wrap (2 * d))) < 0)) = true then some (IntKind.i64.wrap ((IntKind.i64.wrap (Int.tdiv (IntKind.i64.wrap ((IntKind.i64.wrap (2 * q)) + d)) (IntKind.i64.wrap (2 * d)))) - 1)) else some (IntKind.i64.wrap (Int.tdiv (IntKind.i64.wrap ((IntKind.i64.wrap (2 * q)) + d)) (IntKind.i64.wrap (2 * d))))).bind fun y6 => some y6) = some (nearI q d) := by
  have hb := tdiv_small (n := 2 * q + d) (d := 2 * d) (by omega) (by omega) (by omega)
  rw [wrap64 (n := 2 * d) (by omega) (by omega), wrap64 (n := 2 * q) (by omega) (by omega), wrap64 (n := 2 * q + d) (by omega) (by omega), wrap64 (n := Int.tdiv (2 * q + d) (2 * d)) (by omega) (by omega), wrap64 (n := Int.tdiv (2 * q + d) (2 * d) - 1) (by omega) (by omega)]
  unfold nearI
  simp only [need, show (2 * d ≠ 0) from by omega, ne_eq, not_false_eq_true, decide_true, if_true, Option.bind_some, decide_eq_true_eq]
  split <;> rfl
theorem specNear_eq {q d : Int} (hd : 0 < d) (hd2 : d ≤ 1048576) (h1 : -274877906944 ≤ q) (h2 : q ≤ 274877906944) : spec_l06Near q d = some (nearI q d) := near_core hd hd2 h1 h2
theorem near_rng {q d : Int} (hd : 0 < d) (h1 : -274877906944 ≤ q) (h2 : q ≤ 274877906944) (hd2 : d ≤ 1048576) : -1099511627777 ≤ nearI q d ∧ nearI q d ≤ 1099511627776 := by
  have hb := tdiv_small (n := 2 * q + d) (d := 2 * d) (by omega) (by omega) (by omega)
  unfold nearI
  split <;> omega
theorem mul_rng {t u : Int} (h0 : 0 ≤ t) (h1 : t ≤ 1000) (h2 : -1000 ≤ u) (h3 : u ≤ 1000) : -1000000 ≤ t * u ∧ t * u ≤ 1000000 := by
  constructor
  · have := Int.mul_le_mul_of_nonneg_left h2 h0
    omega
  · have := Int.mul_le_mul_of_nonneg_left h3 h0
    omega
theorem spec_l2_eq {a b : List Int} {d t : Int} (ha : a.length = 2) (hb : b.length = 2) (hma : markOk a = true) (hmb : markOk b = true) (hd : 0 < d) (hd2 : d ≤ 1000) (h0 : 0 ≤ t) (h1 : t ≤ d) : loopN rounds (spec_l06Marks_l2 a b d t) (0, List.replicate 2 0) = some (2, markAt a b d t) := by
  have ra := markOk_rng hma
  have rb := markOk_rng hmb
  have m0 := mul_rng (u := nth b 0 - nth a 0) h0 (by omega) (by omega) (by omega)
  have m1 := mul_rng (u := nth b 1 - nth a 1) h0 (by omega) (by omega) (by omega)
  have n0 := near_rng (q := t * (nth b 0 - nth a 0)) hd (by omega) (by omega) (by omega)
  have n1 := near_rng (q := t * (nth b 1 - nth a 1)) hd (by omega) (by omega) (by omega)
  have s0 := specNear_eq (q := t * (nth b 0 - nth a 0)) hd (by omega) (by omega) (by omega)
  have s1 := specNear_eq (q := t * (nth b 1 - nth a 1)) hd (by omega) (by omega) (by omega)
  refine loop_run (fun j => ((j : Int), match j with | 0 => [0, 0] | 1 => [IntKind.i16.wrap (nth a 0 + nearI (t * (nth b 0 - nth a 0)) d), 0] | _ => markAt a b d t)) 2 (by decide) rfl (fun j hj => ?_) rfl
  match j, hj with
  | 0, _ =>
    unfold spec_l06Marks_l2
    simp only
    rw [if_pos (by decide), idx_in (by decide) (by simp [ha]), idx_in (by decide) (by simp [hb])]
    simp only [Option.bind_some]
    rw [show (((0 : Nat) : Int)).toNat = 0 from rfl, wrap64 (n := nth b 0 - nth a 0) (by omega) (by omega), wrap64 (n := t * (nth b 0 - nth a 0)) (by omega) (by omega), s0]
    simp only [Option.bind_some]
    rw [idx_in (by decide) (by simp)]
    simp only [Option.bind_some]
    rw [wrap64 (n := nth a 0 + nearI (t * (nth b 0 - nth a 0)) d) (by omega) (by omega)]
    rfl
  | 1, _ =>
    unfold spec_l06Marks_l2
    simp only
    rw [if_pos (by decide), idx_in (by decide) (by simp [ha]), idx_in (by decide) (by simp [hb])]
    simp only [Option.bind_some]
    rw [show (((1 : Nat) : Int)).toNat = 1 from rfl, wrap64 (n := nth b 1 - nth a 1) (by omega) (by omega), wrap64 (n := t * (nth b 1 - nth a 1)) (by omega) (by omega), s1]
    simp only [Option.bind_some]
    rw [idx_in (by decide) (by simp)]
    simp only [Option.bind_some]
    rw [wrap64 (n := nth a 1 + nearI (t * (nth b 1 - nth a 1)) d) (by omega) (by omega)]
    rfl
theorem specMarks_eq {a b : List Int} (ha : a.length = 2) (hb : b.length = 2) (hma : markOk a = true) (hmb : markOk b = true) : spec_l06Marks a b = some (marksI a b) := by
  unfold spec_l06Marks marksI
  have hr := dist_rng hma hmb
  rw [specDist_eq hma hmb]
  simp only [Option.bind_some, decide_eq_true_eq]
  generalize hD : distI a b = D at *
  obtain ⟨n, rfl⟩ := Int.eq_ofNat_of_zero_le hr.1
  split
  · rfl
  · rename_i h0
    have key : loopN rounds (spec_l06Marks_l1 a b (n : Int)) (0, []) = some (((n + 1 : Nat) : Int), (List.range (n + 1)).map fun (t : Nat) => markAt a b (n : Int) (t : Int)) := by
      refine loop_run (fun j => ((j : Int), (List.range j).map fun (t : Nat) => markAt a b (n : Int) (t : Int))) (n + 1) (by omega) rfl (fun j hj => ?_) ?_
      · unfold spec_l06Marks_l1
        simp only
        rw [if_pos (by simp; omega), spec_l2_eq ha hb hma hmb (by omega) (by omega) (by omega) (by omega)]
        simp only [Option.bind_some]
        rw [app_some (by simp; omega), succ64 (by omega)]
        simp [List.range_succ]
      · unfold spec_l06Marks_l1
        simp only
        rw [if_neg (by simp; omega)]
    rw [key]
    simp
theorem implDist_eq {a b : List Int} (ha : markOk a = true) (hb : markOk b = true) : impl_DistanceOf a b = some (distI a b) := by
  have h1 := markOk_rng ha
  have h2 := markOk_rng hb
  unfold impl_DistanceOf distI
  rw [wrap64 (n := nth a 0 - nth b 0) (by omega) (by omega), wrap64 (n := nth a 1 - nth b 1) (by omega) (by omega), wrap64 (n := 0 - (nth a 0 - nth b 0)) (by omega) (by omega), wrap64 (n := 0 - (nth a 1 - nth b 1)) (by omega) (by omega)]
theorem roundQ_eq {q d : Int} (hd : 0 < d) (hd2 : d ≤ 1048576) (h1 : -274877906944 ≤ q) (h2 : q ≤ 274877906944) : impl_roundQuotient q d = some (nearI q d) := by
  have := near_core hd hd2 h1 h2
  unfold impl_roundQuotient
  rw [if_neg (by simp; omega)]
  simpa using this
theorem wrap16_add (a n : Int) : IntKind.i16.wrap (a + IntKind.i16.wrap n) = IntKind.i16.wrap (a + n) := by
  simp only [IntKind.wrap, IntKind.bits, IntKind.signed]
  simp
  (repeat' split) <;> omega
theorem impl_l2_eq {a b : List Int} {d t : Int} (ha : a.length = 2) (hb : b.length = 2) (hma : markOk a = true) (hmb : markOk b = true) {z : Int} (hd : 0 < d) (hd2 : d ≤ 1000) (h0 : 0 ≤ t) (h1 : t ≤ d) : loopN rounds (impl_Stroke_marks_l2 (a, b, z) d t) (0, List.replicate 2 0) = some (2, markAt a b d t) := by
  have ra := markOk_rng hma
  have rb := markOk_rng hmb
  have m0 := mul_rng (u := nth b 0 - nth a 0) h0 (by omega) (by omega) (by omega)
  have m1 := mul_rng (u := nth b 1 - nth a 1) h0 (by omega) (by omega) (by omega)
  have s0 := roundQ_eq (q := t * (nth b 0 - nth a 0)) hd (by omega) (by omega) (by omega)
  have s1 := roundQ_eq (q := t * (nth b 1 - nth a 1)) hd (by omega) (by omega) (by omega)
  refine loop_run (fun j => ((j : Int), match j with | 0 => [0, 0] | 1 => [IntKind.i16.wrap (nth a 0 + nearI (t * (nth b 0 - nth a 0)) d), 0] | _ => markAt a b d t)) 2 (by decide) rfl (fun j hj => ?_) rfl
  match j, hj with
  | 0, _ =>
    unfold impl_Stroke_marks_l2
    simp only
    rw [if_pos (by decide), idx_in (by decide) (by simp [ha]), idx_in (by decide) (by simp [hb])]
    simp only [Option.bind_some]
    rw [show (((0 : Nat) : Int)).toNat = 0 from rfl, wrap64 (n := nth b 0 - nth a 0) (by omega) (by omega), wrap64 (n := t * (nth b 0 - nth a 0)) (by omega) (by omega), s0]
    simp only [Option.bind_some]
    rw [idx_in (by decide) (by simp)]
    simp only [Option.bind_some]
    rw [wrap16_add]
    rfl
  | 1, _ =>
    unfold impl_Stroke_marks_l2
    simp only
    rw [if_pos (by decide), idx_in (by decide) (by simp [ha]), idx_in (by decide) (by simp [hb])]
    simp only [Option.bind_some]
    rw [show (((1 : Nat) : Int)).toNat = 1 from rfl, wrap64 (n := nth b 1 - nth a 1) (by omega) (by omega), wrap64 (n := t * (nth b 1 - nth a 1)) (by omega) (by omega), s1]
    simp only [Option.bind_some]
    rw [idx_in (by decide) (by simp)]
    simp only [Option.bind_some]
    rw [wrap16_add]
    rfl
theorem near_zero {d : Int} (hd : 0 < d) : nearI 0 d = 0 := by
  unfold nearI
  have h1 : Int.tmod (2 * 0 + d) (2 * d) = d := by rw [Int.mul_zero, Int.zero_add, Int.tmod_eq_of_lt (by omega) (by omega)]
  have h2 : Int.tdiv (2 * 0 + d) (2 * d) = 0 := by rw [Int.mul_zero, Int.zero_add, Int.tdiv_eq_zero_of_lt (by omega) (by omega)]
  rw [h1, h2, if_neg (by omega)]
theorem mark_first {a b : List Int} {d : Int} (ha : a.length = 2) (hma : markOk a = true) (hd : 0 < d) : markAt a b d 0 = a := by
  have ra := markOk_rng hma
  unfold markAt
  rw [Int.zero_mul, Int.zero_mul, near_zero hd, Int.add_zero, Int.add_zero, wrap_in .i16 (n := nth a 0) (by simp [IntKind.min, IntKind.signed, IntKind.bits]; omega) (by simp [IntKind.max, IntKind.signed, IntKind.bits]; omega), wrap_in .i16 (n := nth a 1) (by simp [IntKind.min, IntKind.signed, IntKind.bits]; omega) (by simp [IntKind.max, IntKind.signed, IntKind.bits]; omega)]
  exact (list2 ha).symm
theorem implMarks_eq {a b : List Int} (ha : a.length = 2) (hb : b.length = 2) (hma : markOk a = true) (hmb : markOk b = true) {z : Int} : impl_Stroke_marks (a, b, z) = some (marksI a b) := by
  unfold impl_Stroke_marks marksI
  have hr := dist_rng hma hmb
  rw [implDist_eq hma hmb]
  simp only [Option.bind_some]
  generalize hD : distI a b = D at *
  obtain ⟨n, rfl⟩ := Int.eq_ofNat_of_zero_le hr.1
  have h1 : [a] = if (n : Int) = 0 then [a] else (List.range 1).map fun (t : Nat) => markAt a b (n : Int) (t : Int) := by
    split
    · rfl
    · simp only [List.range_one, List.map_cons, List.map_nil]
      rw [show ((0 : Nat) : Int) = 0 from rfl, mark_first ha hma (by omega)]
  have key : loopN rounds (impl_Stroke_marks_l1 (a, b, z) (n : Int)) (1, [a]) = some (((n + 1 : Nat) : Int), if (n : Int) = 0 then [a] else (List.range (n + 1)).map fun (t : Nat) => markAt a b (n : Int) (t : Int)) := by
    refine loop_run (fun j => (((j + 1 : Nat) : Int), if (n : Int) = 0 then [a] else (List.range (j + 1)).map fun (t : Nat) => markAt a b (n : Int) (t : Int))) n (by omega) (by simp only [Nat.zero_add]; rw [← h1]; rfl) (fun j hj => ?_) ?_
    · unfold impl_Stroke_marks_l1
      simp only
      rw [if_pos (by simp; omega), impl_l2_eq ha hb hma hmb (by omega) (by omega) (by omega) (by omega), if_neg (by omega), if_neg (by omega)]
      simp only [Option.bind_some]
      rw [app_some (by simp; omega), succ64 (by omega)]
      simp [List.range_succ]
    · unfold impl_Stroke_marks_l1
      simp only
      rw [if_neg (by simp; omega)]
  rw [key]
  simp
theorem marksI_len {a b : List Int} (hma : markOk a = true) (hmb : markOk b = true) : (marksI a b).length ≤ 1001 := by
  have hr := dist_rng hma hmb
  unfold marksI
  split
  · simp
  · simp; omega
/-- Whether a mark of a stroke is drawn. -/
def drawnB (dash k : Int) : Bool := if dash = 0 then true else if dash = 1 then decide (Int.tmod k 6 < 4) else if dash = 2 then decide (Int.tmod k 2 = 0) else if dash = 3 then decide (Int.tmod k 8 < 5) || decide (Int.tmod k 8 = 6) else false
theorem implDrawn_eq {z k : Int} (h : 0 ≤ k) : impl_IsDrawn z k = some (drawnB z k) := by
  unfold impl_IsDrawn drawnB
  simp only [decide_eq_true_eq]
  rw [if_neg (by omega)]
  (repeat' split) <;> rfl
theorem putI_len (x m : List Int) (ink : Bool) : (putI x m ink).length = x.length := by unfold putI; split <;> simp
theorem within_eq (a : Int) : impl_within a 0 63 = some (decide (0 ≤ a ∧ a < 64)) := by
  unfold impl_within
  congr 1
  rw [Bool.eq_iff_iff]
  simp
  omega
theorem impl_isOn_eq (x : List Int) : impl_isOn x = some (decide (0 ≤ nth x 0 ∧ nth x 0 < 64 ∧ 0 ≤ nth x 1 ∧ nth x 1 < 64)) := by
  unfold impl_isOn
  simp only [within_eq, Option.bind_some]
  by_cases h : (0 ≤ nth x 0 ∧ nth x 0 < 64)
  · simp [h]
  · rw [if_neg (by simpa using h), decide_eq_false (fun k => h ⟨k.1, k.2.1⟩)]; rfl
theorem wrapUv (X : BitVec 64) : IntKind.u64.wrap (X.toNat : Int) = (X.toNat : Int) :=
  wrap_in .u64 (by simp [IntKind.min, IntKind.signed]) (by have := X.isLt; simp [IntKind.max, IntKind.signed, IntKind.bits]; omega)
theorem ofInt_toNat (X : BitVec 64) : BitVec.ofInt 64 (X.toNat : Int) = X := by simp
theorem or_andNot (v b : Int) : bitop .or .u64 (bitop .andNot .u64 v b) b = bitop .or .u64 v b := by
  have e : bitop .andNot .u64 v b = ((BitVec.ofInt 64 v &&& ~~~ BitVec.ofInt 64 b).toNat : Int) := wrapUv _
  have o : ∀ u w, bitop .or .u64 u w = ((BitVec.ofInt 64 u ||| BitVec.ofInt 64 w).toNat : Int) := fun u w => wrapUv _
  rw [e, o, o, ofInt_toNat]
  congr 2
  ext i hi
  simp only [BitVec.getElem_or, BitVec.getElem_and, BitVec.getElem_not]
  cases (BitVec.ofInt 64 v)[i] <;> cases (BitVec.ofInt 64 b)[i] <;> rfl
theorem nth_set {x : List Int} {i : Nat} (h : i < x.length) (v : Int) : nth (x.set i v) i = v := by
  have := nth_get (xs := x.set i v) (i := i) (by rw [List.length_set]; exact h)
  rw [List.getElem?_set_self h] at this
  exact (Option.some.inj this).symm
theorem implSetI_eq {x m : List Int} {ink : Bool} (hx : x.length = 64) : impl_Sheet_set x m ink = some (putI x m ink) := by
  unfold impl_Sheet_set putI
  simp only [impl_isOn_eq, Option.bind_some]
  by_cases h : (0 ≤ nth m 0 ∧ nth m 0 < 64 ∧ 0 ≤ nth m 1 ∧ nth m 1 < 64)
  · simp only [h, and_self, decide_true, Bool.not_true, Bool.false_eq_true, if_false, if_true, need]
    rw [idx_in h.2.2.1 (by omega)]
    simp only [Option.bind_some]
    cases ink with
    | false => simp
    | true =>
      simp only [if_true]
      rw [idx_in h.2.2.1 (by rw [List.length_set]; omega)]
      simp only [Option.bind_some]
      rw [nth_set (by omega), or_andNot, List.set_set]
  · simp only [h, decide_false, Bool.not_false, if_true, if_false]
theorem implInk_eq {a b x : List Int} {ink : Bool} (ha : a.length = 2) (hb : b.length = 2) (hma : markOk a = true) (hmb : markOk b = true) (hx : x.length = 64) : impl_Sheet_draw x (a, b, 0) ink = some (inkOn ink a b x) ∧ (inkOn ink a b x).length = 64 := by
  have hl := marksI_len hma hmb
  unfold impl_Sheet_draw inkOn
  rw [implMarks_eq ha hb hma hmb]
  simp only [Option.bind_some]
  have key := fold_loop (f := impl_Sheet_draw_l1 (a, b, 0) ink (marksI a b)) (n := (marksI a b).length) (fun i r => putI r (nth (marksI a b) i) ink) (fun r => r.length = 64) (by omega) hx (fun i r hi hr => ?_) (fun r hr => ?_)
  · rw [key.1]; exact ⟨rfl, key.2⟩
  · refine ⟨?_, by (try dsimp only); rw [putI_len]; exact hr⟩
    unfold impl_Sheet_draw_l1
    simp only
    rw [if_pos (by simp; omega), implDrawn_eq (by omega), idx_nth hi]
    simp only [Option.bind_some, drawnB, if_true]
    rw [implSetI_eq hr, succ64 (by omega)]
    rfl
  · unfold impl_Sheet_draw_l1
    simp
theorem spec_isOn_eq (x : List Int) : spec_l06On x = some (decide (0 ≤ nth x 0 ∧ nth x 0 < 64 ∧ 0 ≤ nth x 1 ∧ nth x 1 < 64)) := by
  unfold spec_l06On
  simp [Bool.and_assoc]
theorem or_xor (v b : Int) : bitop .xor .u64 (bitop .or .u64 v b) b = bitop .andNot .u64 v b := by
  have o : ∀ u w, bitop .or .u64 u w = ((BitVec.ofInt 64 u ||| BitVec.ofInt 64 w).toNat : Int) := fun u w => wrapUv _
  have e : ∀ u w, bitop .xor .u64 u w = ((BitVec.ofInt 64 u ^^^ BitVec.ofInt 64 w).toNat : Int) := fun u w => wrapUv _
  have n : ∀ u w, bitop .andNot .u64 u w = ((BitVec.ofInt 64 u &&& ~~~ BitVec.ofInt 64 w).toNat : Int) := fun u w => wrapUv _
  rw [o, e, n, ofInt_toNat]
  congr 2
  ext i hi
  simp only [BitVec.getElem_or, BitVec.getElem_and, BitVec.getElem_not, BitVec.getElem_xor]
  cases (BitVec.ofInt 64 v)[i] <;> cases (BitVec.ofInt 64 b)[i] <;> rfl
theorem specPutI_eq {x m : List Int} {ink : Bool} (hx : x.length = 64) : spec_l06Put x m ink = some (putI x m ink) := by
  unfold spec_l06Put putI
  simp only [spec_isOn_eq, Option.bind_some]
  by_cases h : (0 ≤ nth m 0 ∧ nth m 0 < 64 ∧ 0 ≤ nth m 1 ∧ nth m 1 < 64)
  · simp only [h, and_self, decide_true, Bool.not_true, Bool.false_eq_true, if_false, if_true]
    rw [idx_in h.2.2.1 (by omega), wrap_in .u64 (n := nth m 0) (by have := h.1; simp [IntKind.min, IntKind.signed]; exact this) (by simp [IntKind.max, IntKind.signed, IntKind.bits]; omega)]
    cases ink with
    | true => simp
    | false =>
      simp only [Option.bind_some, Bool.not_false, if_true, Bool.false_eq_true, if_false]
      rw [idx_in h.2.2.1 (by rw [List.length_set]; omega)]
      simp only [Option.bind_some]
      rw [nth_set (by omega), or_xor, List.set_set]
  · simp only [h, decide_false, Bool.not_false, if_true, if_false]
theorem specInk_eq {a b x : List Int} {ink : Bool} (hma : markOk a = true) (hmb : markOk b = true) (hx : x.length = 64) : loopN rounds (spec_l06Sides_l2 ink (marksI a b)) (0, x) = some (((marksI a b).length : Int), inkOn ink a b x) := by
  have hl := marksI_len hma hmb
  unfold inkOn
  exact (fold_loop (f := spec_l06Sides_l2 ink (marksI a b)) (n := (marksI a b).length) (fun i r => putI r (nth (marksI a b) i) ink) (fun r => r.length = 64) (by omega) hx (fun i r hi hr => ⟨by
    unfold spec_l06Sides_l2
    simp only
    rw [if_pos (by simp; omega), idx_nth hi]
    simp only [Option.bind_some]
    rw [specPutI_eq hr, succ64 (by omega)]
    rfl, by (try dsimp only); rw [putI_len]; exact hr⟩) (fun r hr => by unfold spec_l06Sides_l2; simp)).1
theorem tmod_next {i n : Nat} (hi : i < n) (hn : n ≤ 9223372036854775806) : Int.tmod (IntKind.i64.wrap ((i : Int) + 1)) (n : Int) = (((i + 1) % n : Nat) : Int) := by
  rw [succ64 (by omega)]
  rfl
theorem idx_next {l : List (List Int)} {i : Nat} (hi : i < l.length) (hn : l.length ≤ 9223372036854775806) : idx l (Int.tmod (IntKind.i64.wrap ((i : Int) + 1)) (l.length : Int)) = some (nextI l i) := by
  rw [tmod_next hi hn, idx_nth (Nat.mod_lt _ (by omega))]
  rfl
/-- The sides of a loop. -/
def sidesI (l : List (List Int)) : List (List Int × List Int × Int) := (List.range l.length).map fun i => (nth l i, nextI l i, 0)
theorem sides_eq {l : List (List Int)} (hn : l.length ≤ 1000000) : impl_sidesOf l = some (sidesI l) := by
  unfold impl_sidesOf sidesI
  have key : loopN rounds (impl_sidesOf_l1 l) (0, []) = some ((l.length : Int), (List.range l.length).map fun i => (nth l i, nextI l i, (0 : Int))) := by
    refine loop_run (fun j => ((j : Int), (List.range j).map fun i => (nth l i, nextI l i, (0 : Int)))) l.length (by omega) rfl (fun j hj => ?_) (by unfold impl_sidesOf_l1; simp)
    unfold impl_sidesOf_l1
    simp only
    rw [if_pos (by simp; omega), idx_nth hj, show need (decide ((l.length : Int) ≠ 0)) = some () from by unfold need; rw [if_pos]; simp; intro h; subst h; simp at hj]
    simp only [Option.bind_some]
    rw [idx_next hj (by omega)]
    simp only [Option.bind_some]
    rw [app_some (by simp; omega), succ64 (by omega)]
    simp [List.range_succ]
  rw [key]
  rfl
theorem sidesI_at {l : List (List Int)} {i : Nat} (hi : i < l.length) : idx (sidesI l) (i : Int) = some (nth l i, nextI l i, 0) := by
  refine idx_nat ?_
  unfold sidesI
  simp [hi]
theorem specCross_eq (a b : List Int) (x y : Int) : spec_l06Crosses a b x y = some (crossB a b x y) := by
  unfold spec_l06Crosses crossB
  split <;> rfl
theorem specIn_eq {l : List (List Int)} {x y : Int} (hn : l.length ≤ 1000000) : loopN rounds (spec_l06Fill_l3 l y x) (false, 0) = some (inB l x y, (l.length : Int)) := by
  refine (fold_loopL (f := spec_l06Fill_l3 l y x) (n := l.length) (fun k b => if crossB (nth l k) (nextI l k) x y = true then !b else b) (fun _ _ => True) (by omega) trivial (fun i r hi _ => ⟨?_, trivial⟩) (fun r _ => by unfold spec_l06Fill_l3; simp)).1
  unfold spec_l06Fill_l3
  simp only
  rw [if_pos (by simp; omega), idx_nth hi, show need (decide ((l.length : Int) ≠ 0)) = some () from by unfold need; rw [if_pos]; simp; intro h; subst h; simp at hi]
  simp only [Option.bind_some]
  rw [idx_next hi (by omega)]
  simp only [Option.bind_some, specCross_eq]
  rw [succ64 (by omega)]
  split <;> rfl
theorem specRow_eq {l : List (List Int)} {ink : Bool} {y : Nat} {x : List Int} (hn : l.length ≤ 1000000) (hy : y < 64) (hx : x.length = 64) : loopN rounds (spec_l06Fill_l2 l ink (y : Int)) (0, x) = some (64, rowI l ink y x) ∧ (rowI l ink y x).length = 64 := by
  unfold rowI
  refine fold_loop (f := spec_l06Fill_l2 l ink (y : Int)) (n := 64) (fun i r => if inB l (i : Int) (y : Int) = true then putI r [(i : Int), (y : Int)] ink else r) (fun r => r.length = 64) (by omega) hx (fun i r hi hr => ⟨?_, by (try dsimp only); split <;> simp [putI_len, hr]⟩) (fun r hr => by unfold spec_l06Fill_l2; simp)
  unfold spec_l06Fill_l2
  simp only
  rw [if_pos (by simp; omega), specIn_eq hn]
  simp only [Option.bind_some]
  rw [succ64 (by omega), wrap_in .i16 (n := (i : Int)) (by simp [IntKind.min, IntKind.signed, IntKind.bits] <;> omega) (by simp [IntKind.max, IntKind.signed, IntKind.bits]; omega), wrap_in .i16 (n := (y : Int)) (by simp [IntKind.min, IntKind.signed, IntKind.bits] <;> omega) (by simp [IntKind.max, IntKind.signed, IntKind.bits]; omega), specPutI_eq hr]
  split <;> rfl
theorem implIn_eq {l : List (List Int)} {x y : Int} (h2 : ∀ m ∈ l, m.length = 2) (hn : l.length ≤ 1000000) : impl_isIn (sidesI l) [x, y] = some (inB l x y) := by
  unfold impl_isIn
  have hsl : (sidesI l).length = l.length := by unfold sidesI; simp
  have key := (fold_loopL (f := impl_isIn_l1 (sidesI l) [x, y]) (n := l.length) (r0 := false) (fun k b => if crossB (nth l k) (nextI l k) x y = true then !b else b) (fun _ _ => True) (by omega) trivial (fun i r hi _ => ⟨?_, trivial⟩) (fun r _ => by unfold impl_isIn_l1; simp [hsl])).1
  · rw [key]; rfl
  · unfold impl_isIn_l1
    simp only
    rw [if_pos (by simp [hsl]; omega), sidesI_at hi]
    have la : (nth l i).length = 2 := h2 _ (nth_mem hi)
    have lb : (nextI l i).length = 2 := h2 _ (nth_mem (Nat.mod_lt _ (by omega)))
    generalize nth l i = a at *
    generalize nextI l i = b at *
    have e0 : ∀ u : List Int, u.length = 2 → idx u 0 = some (nth u 0) := fun u hu => idx_in (by decide) (by simp [hu])
    have e1 : ∀ u : List Int, u.length = 2 → idx u 1 = some (nth u 1) := fun u hu => idx_in (by decide) (by simp [hu])
    have n0 : nth [x, y] 0 = x := rfl
    have n1 : nth [x, y] 1 = y := rfl
    simp only [Option.bind_some, impl_Stroke_crosses, impl_isIn_c1, impl_isIn_k1, e0 a la, e1 a la, e0 b lb, e1 b lb, e0 [x, y] rfl, e1 [x, y] rfl, n0, n1, crossB]
    rw [succ64 (show i < 9223372036854775807 by omega)]
    by_cases hq : (decide (nth a 1 ≤ y) == decide (nth b 1 ≤ y)) = true
    · have : (decide (nth a 1 ≤ y) != decide (nth b 1 ≤ y)) = false := by simp only [bne, hq, Bool.not_true]
      simp only [this, Bool.not_false, if_true, if_pos hq, Bool.false_eq_true, if_false]
    · have : (decide (nth a 1 ≤ y) != decide (nth b 1 ≤ y)) = true := by simp only [bne, (Bool.not_eq_true _).mp hq, Bool.not_false]
      simp only [this, Bool.not_true, Bool.false_eq_true, if_false, if_neg hq]
      split <;> rfl
theorem implRow_eq {l : List (List Int)} {ink : Bool} {y : Nat} {x : List Int} (h2 : ∀ m ∈ l, m.length = 2) (hn : l.length ≤ 1000000) (hy : y < 64) (hx : x.length = 64) : loopN rounds (impl_Sheet_fill_l3 ink (sidesI l) (y : Int)) (0, x) = some (64, rowI l ink y x) := by
  unfold rowI
  refine (fold_loop (f := impl_Sheet_fill_l3 ink (sidesI l) (y : Int)) (n := 64) (fun i r => if inB l (i : Int) (y : Int) = true then putI r [(i : Int), (y : Int)] ink else r) (fun r => r.length = 64) (by omega) hx (fun i r hi hr => ⟨?_, by (try dsimp only); split <;> simp [putI_len, hr]⟩) (fun r hr => by unfold impl_Sheet_fill_l3; simp)).1
  unfold impl_Sheet_fill_l3
  simp only
  rw [if_pos (by simp; omega), implIn_eq h2 hn]
  simp only [Option.bind_some]
  rw [succ16 (by omega), implSetI_eq hr]
  split <;> rfl
theorem insideI_len {l : List (List Int)} {ink : Bool} {x : List Int} (hn : l.length ≤ 1000000) (hx : x.length = 64) : ∀ n, n ≤ 64 → (fold (rowI l ink) n x).length = 64
  | 0, _ => hx
  | n + 1, h => (specRow_eq hn (show n < 64 by omega) (insideI_len hn hx n (by omega))).2
theorem fill_eq {l : List (List Int)} {ink : Bool} {x : List Int} (h2 : ∀ m ∈ l, m.length = 2) (hm : ∀ m ∈ l, markOk m = true) (hn : l.length ≤ 1000000) (hx : x.length = 64) : spec_l06Fill x l ink = some (bordI l ink (insideI l ink x)) ∧ impl_Sheet_fill x l ink = some (bordI l ink (insideI l ink x)) ∧ (bordI l ink (insideI l ink x)).length = 64 := by
  have hsl : (sidesI l).length = l.length := by unfold sidesI; simp
  have i1 := insideI_len (l := l) (ink := ink) hn hx 64 (Nat.le_refl _)
  have s1 : loopN rounds (spec_l06Fill_l1 l ink) (0, x) = some (64, insideI l ink x) := by
    unfold insideI
    refine (fold_loop (f := spec_l06Fill_l1 l ink) (n := 64) (rowI l ink) (fun r => r.length = 64) (by omega) hx (fun i r hi hr => ⟨?_, (specRow_eq hn hi hr).2⟩) (fun r hr => by unfold spec_l06Fill_l1; simp)).1
    unfold spec_l06Fill_l1
    simp only
    rw [if_pos (by simp; omega), (specRow_eq hn hi hr).1, succ64 (by omega)]
    rfl
  have s2 : loopN rounds (impl_Sheet_fill_l1 ink (sidesI l)) (0, x) = some (64, insideI l ink x) := by
    unfold insideI
    refine (fold_loop (f := impl_Sheet_fill_l1 ink (sidesI l)) (n := 64) (rowI l ink) (fun r => r.length = 64) (by omega) hx (fun i r hi hr => ⟨?_, (specRow_eq hn hi hr).2⟩) (fun r hr => by unfold impl_Sheet_fill_l1; simp)).1
    unfold impl_Sheet_fill_l1
    simp only
    rw [if_pos (by simp; omega), implRow_eq h2 hn hi hr, succ16 (by omega)]
    rfl
  have nm : ∀ i, i < l.length → nextI l i ∈ l := fun i hi => nth_mem (Nat.mod_lt _ (by omega))
  have s3 := fold_loop (f := spec_l06Sides_l1 l ink) (n := l.length) (r0 := insideI l ink x) (fun i r => inkOn ink (nth l i) (nextI l i) r) (fun r => r.length = 64) (by omega) i1 (fun i r hi hr => ⟨by
    unfold spec_l06Sides_l1
    simp only
    rw [if_pos (by simp; omega), idx_nth hi, show need (decide ((l.length : Int) ≠ 0)) = some () from by unfold need; rw [if_pos]; simp; intro h; subst h; simp at hi]
    simp only [Option.bind_some]
    rw [idx_next hi (by omega)]
    simp only [Option.bind_some]
    rw [specMarks_eq (h2 _ (nth_mem hi)) (h2 _ (nm i hi)) (hm _ (nth_mem hi)) (hm _ (nm i hi))]
    simp only [Option.bind_some]
    rw [specInk_eq (hm _ (nth_mem hi)) (hm _ (nm i hi)) hr, succ64 (by omega)]
    rfl, (implInk_eq (h2 _ (nth_mem hi)) (h2 _ (nm i hi)) (hm _ (nth_mem hi)) (hm _ (nm i hi)) hr).2⟩) (fun r hr => by unfold spec_l06Sides_l1; simp)
  have s4 := fold_loop (f := impl_Sheet_fill_l2 ink (sidesI l)) (n := l.length) (r0 := insideI l ink x) (fun i r => inkOn ink (nth l i) (nextI l i) r) (fun r => r.length = 64) (by omega) i1 (fun i r hi hr => ⟨by
    unfold impl_Sheet_fill_l2
    simp only
    rw [if_pos (by simp [hsl]; omega), sidesI_at hi]
    simp only [Option.bind_some]
    rw [(implInk_eq (h2 _ (nth_mem hi)) (h2 _ (nm i hi)) (hm _ (nth_mem hi)) (hm _ (nm i hi)) hr).1, succ64 (by omega)]
    rfl, (implInk_eq (h2 _ (nth_mem hi)) (h2 _ (nm i hi)) (hm _ (nth_mem hi)) (hm _ (nm i hi)) hr).2⟩) (fun r hr => by unfold impl_Sheet_fill_l2; simp [hsl])
  refine ⟨?_, ?_, s3.2⟩
  · unfold spec_l06Fill spec_l06Sides
    rw [s1]
    simp only [Option.bind_some]
    rw [s3.1]
    rfl
  · unfold impl_Sheet_fill
    rw [sides_eq hn]
    simp only [Option.bind_some]
    rw [s2]
    simp only [Option.bind_some]
    rw [s4.1]
    rfl
/-- The code of a loop. -/
def loopI (l : List (List Int)) (least : Int) : Int := if l.all markOk = true then (if least ≤ (l.length : Int) ∧ (l.length : Int) ≤ 16 then 0 else 2) else 1
theorem spec_mark_eq (x : List Int) : spec_l06Mark x = some (markOk x) := by
  unfold spec_l06Mark spec_l00In markOk
  simp only [Option.bind_some]
  by_cases h : (-500 ≤ nth x 0 ∧ nth x 0 ≤ 500)
  · simp [h]
  · rw [if_neg (by simpa using h), decide_eq_false (fun k => h ⟨k.1, k.2.1⟩)]; rfl
theorem in_eq (a b c : Int) : spec_l00In a b c = some (decide (b ≤ a ∧ a ≤ c)) := by
  unfold spec_l00In
  simp
theorem specLoop_eq {l : List (List Int)} {least : Int} (h : l.length ≤ 9223372036854775806) : spec_l06Loop l least = some (loopI l least) := by
  unfold spec_l06Loop loopI
  have key := all_loop (xs := l) (f := spec_l06Loop_l1 l) markOk (1 : Int) (by omega) (fun i x hx => by
    have hi := (List.getElem?_eq_some_iff.1 hx).1
    unfold spec_l06Loop_l1
    rw [if_pos (by simp; omega), idx_nat hx]
    simp only [Option.bind_some, spec_mark_eq]
    rw [succ64 (by omega)]
    cases markOk x <;> simp) (by
    unfold spec_l06Loop_l1
    simp)
  rw [key]
  simp only [Option.bind_some, in_eq]
  by_cases ha : l.all markOk = true
  · simp only [ha, if_true]
    by_cases hb : least ≤ (l.length : Int) ∧ (l.length : Int) ≤ 16
    · simp [hb]
    · simp [hb]
  · simp only [ha, if_false]
    rfl
theorem fills_eq {x : List Int} {l : List (List Int)} {ink : Bool} (hx : x.length = 64) (h2 : ∀ m ∈ l, m.length = 2) (hn : l.length ≤ 1048576) : ∃ y, spec_FillLoop x l ink = some y ∧ impl_FillLoop x l ink = some y ∧ y.1.length = 64 := by
  unfold spec_FillLoop impl_FillLoop
  rw [specLoop_eq (by omega), areMarks_eq (by omega), within_eq3]
  simp only [Option.bind_some, impl_when]
  by_cases ha : l.all markOk = true
  · by_cases hb : 1 ≤ (l.length : Int) ∧ (l.length : Int) ≤ 16
    · have hm : ∀ m ∈ l, markOk m = true := by simpa [List.all_eq_true] using ha
      obtain ⟨e1, e2, e3⟩ := fill_eq (ink := ink) h2 hm (by omega) hx
      refine ⟨(bordI l ink (insideI l ink x), 0), ?_, ?_, e3⟩
      · simp [loopI, ha, hb, e1]
      · simp only [ha, hb, and_self, decide_true, Bool.not_true, Bool.false_eq_true, if_false, Option.bind_some, first2, ne_eq, not_true_eq_false, decide_false, e2]
    · refine ⟨(List.replicate 64 0, 2), ?_, ?_, List.length_replicate⟩
      · simp only [loopI, ha, hb, if_true, if_false, ne_eq, Int.reduceEq, not_false_eq_true, decide_true]
      · simp only [ha, hb, decide_false, Bool.not_true, Bool.not_false, Bool.false_eq_true, if_false, if_true, Option.bind_some, first2, ne_eq, not_true_eq_false, Int.reduceEq, not_false_eq_true, decide_true]
  · refine ⟨(List.replicate 64 0, 1), ?_, ?_, List.length_replicate⟩
    · simp only [loopI, ha, if_false, ne_eq, Int.reduceEq, not_false_eq_true, decide_true, if_true]
      rfl
    · have hf : l.all markOk = false := by simpa using ha
      simp only [hf, Bool.not_false, if_true, Option.bind_some, first2, ne_eq, Int.reduceEq, not_false_eq_true, decide_true]
      split <;> rfl
theorem toMark_eq {x : List Int} (h : x.length = 2) : laws_toMark x = some x := by
  unfold laws_toMark
  rw [copy_loop (m := 2) (x := x) (by decide) h (by simp) (fun i a r hi hr ha => ?_) (fun r => ?_)]
  · rfl
  · unfold laws_toMark_l1
    simp only
    rw [if_pos (by simp; omega), idx_nat ha]
    simp only [Option.bind_some]
    rw [idx_nat (List.getElem?_eq_getElem (show i < r.length by omega))]
    simp only [Option.bind_some]
    rw [wrap64 (by omega) (by omega)]
    simp
  · rfl
theorem toMarkS_eq {xs : List (List Int)} (h : ∀ s ∈ xs, s.length = 2) (hl : xs.length ≤ 1048576) : laws_toMarkS xs = some xs := by
  unfold laws_toMarkS
  rw [show need (decide (0 ≤ (xs.length : Int)) && decide ((xs.length : Int) ≤ most)) = some () from by unfold need most; rw [if_pos]; simp; omega]
  simp only [Option.bind_some]
  rw [copy_loopN (m := xs.length) (x := xs) (by omega) rfl (by simp) (fun i a r hi hr ha => ?_) (fun r => ?_)]
  · rfl
  · unfold laws_toMarkS_l1
    simp only
    have hm := List.mem_of_getElem? ha
    rw [if_pos (by simp; omega), idx_nat ha]
    simp only [Option.bind_some]
    rw [toMark_eq (h _ hm), idx_nat (List.getElem?_eq_getElem (show i < r.length by omega))]
    simp only [Option.bind_some]
    rw [succ64 (by omega)]
    rfl
  · unfold laws_toMarkS_l1
    simp
theorem szMarkS_eq {xs : List (List Int)} (hl : xs.length ≤ 9223372036854775807) : ∃ v, laws_szMarkS xs 1048576 = some v ∧ (0 ≤ v → xs.length ≤ 1048576) := by
  unfold laws_szMarkS
  rw [wrap64 (by omega) (by omega)]
  split
  · exact ⟨_, rfl, by omega⟩
  · rename_i h
    simp at h
    exact ⟨_, rfl, by omega⟩
theorem eqMark_self {x : List Int} (h : x.length = 2) : laws_eqMark x x = some true := by
  unfold laws_eqMark
  rw [count_loop (n := 2) (y := .inl 2) (by decide) (fun i hi => ?_) (by simp [laws_eqMark_l1])]
  · rfl
  · unfold laws_eqMark_l1
    rw [if_pos (by simp; omega), idx_nth (by omega)]
    simp only [Option.bind_some]
    rw [succ64 (by omega)]
    simp
theorem eqMarkS_self {xs : List (List Int)} (h : ∀ s ∈ xs, s.length = 2) (hl : xs.length ≤ 9223372036854775806) : laws_eqMarkS xs xs = some true := by
  unfold laws_eqMarkS
  rw [if_neg (by simp), count_loop (n := xs.length) (y := .inl (xs.length : Int)) (by omega) (fun i hi => ?_) (by simp [laws_eqMarkS_l1])]
  · rfl
  · unfold laws_eqMarkS_l1
    rw [if_pos (by simp; omega), idx_nth hi]
    simp only [Option.bind_some]
    rw [eqMark_self (h _ (nth_mem hi)), succ64 (by omega)]
    simp
theorem pure_FnExactFillLoop (x0 : (List Int)) (x1 : (List (List Int))) (x2 : Bool) (g0 : (x0.length = 64 ∧ ∀ e ∈ x0, (IntKind.u64.min ≤ e ∧ e ≤ IntKind.u64.max))) (g1 : (x1.length ≤ 9223372036854775807 ∧ ∀ e ∈ x1, (e.length = 2 ∧ ∀ e1 ∈ e, (IntKind.i16.min ≤ e1 ∧ e1 ≤ IntKind.i16.max)))) (g2 : True) : laws_FnExactFillLoop x0 x1 x2 = some true := by
  have h2 : ∀ s ∈ x1, s.length = 2 := fun s hs => (g1.2 s hs).1
  obtain ⟨v, hv, hl⟩ := szMarkS_eq g1.1
  unfold laws_FnExactFillLoop
  rw [hv]
  simp only [Option.bind_some]
  by_cases h : v < 0
  · simp [h]
  · have hl := hl (by omega)
    obtain ⟨y, e1, e2, e3⟩ := fills_eq (ink := x2) g0.1 h2 hl
    simp [h, toSheet_eq g0.1, toMarkS_eq h2 hl, e1, e2, eqSheet_self e3, eqMarkS_self h2 (show x1.length ≤ 9223372036854775806 by omega)]
end Go.Proofs.Ytjmlfdhddbhlpaa
