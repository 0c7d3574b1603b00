/- Plain laws: ways of a pen. -/
import Derived.Test.YtnpkhhfpgedkoaaPureD
import Derived.Test.YtnpkhhfpgedkoaaFG
set_option linter.unusedVariables false
set_option maxRecDepth 100000
set_option maxHeartbeats 1600000
namespace Go.Proofs.Ytnpkhhfpgedkoaa
open Go
theorem toInt64S_eq {xs : List Int} (hl : xs.length ≤ 1048576) : laws_toInt64S xs = some xs := by
  unfold laws_toInt64S
  rw [show need (decide (0 ≤ (xs.length : Int)) && decide ((xs.length : Int) ≤ most)) = some () from by unfold need most; rw [if_pos]; simp; omega]
  simp only [Option.bind_some]
  rw [copy_loopN (m := xs.length) (x := xs) (by omega) rfl (by simp) (fun i a r hi hr ha => ?_) (fun r => ?_)]
  · rfl
  · unfold laws_toInt64S_l1
    simp only
    rw [if_pos (by simp; omega), idx_nat ha]
    simp only [Option.bind_some]
    rw [idx_nat (List.getElem?_eq_getElem (show i < r.length by omega))]
    simp only [Option.bind_some]
    rw [succ64 (by omega)]
    rfl
  · unfold laws_toInt64S_l1
    simp
theorem toBoolS_eq {xs : List Bool} (hl : xs.length ≤ 1048576) : laws_toBoolS xs = some xs := by
  unfold laws_toBoolS
  rw [show need (decide (0 ≤ (xs.length : Int)) && decide ((xs.length : Int) ≤ most)) = some () from by unfold need most; rw [if_pos]; simp; omega]
  simp only [Option.bind_some]
  rw [copy_loopN (m := xs.length) (x := xs) (by omega) rfl (by simp) (fun i a r hi hr ha => ?_) (fun r => ?_)]
  · rfl
  · unfold laws_toBoolS_l1
    simp only
    rw [if_pos (by simp; omega), idx_nat ha]
    simp only [Option.bind_some]
    rw [idx_nat (List.getElem?_eq_getElem (show i < r.length by omega))]
    simp only [Option.bind_some]
    rw [succ64 (by omega)]
    rfl
  · unfold laws_toBoolS_l1
    simp
theorem eqInt64S_self {xs : List Int} (hl : xs.length ≤ 9223372036854775806) : laws_eqInt64S xs xs = some true := by
  unfold laws_eqInt64S
  rw [if_neg (by simp), count_loop (n := xs.length) (y := .inl (xs.length : Int)) (by omega) (fun i hi => ?_) (by simp [laws_eqInt64S_l1])]
  · rfl
  · unfold laws_eqInt64S_l1
    rw [if_pos (by simp; omega), idx_nth hi]
    simp only [Option.bind_some]
    rw [succ64 (by omega)]
    simp
theorem eqBoolS_self {xs : List Bool} (hl : xs.length ≤ 9223372036854775806) : laws_eqBoolS xs xs = some true := by
  unfold laws_eqBoolS
  rw [if_neg (by simp), count_loop (n := xs.length) (y := .inl (xs.length : Int)) (by omega) (fun i hi => ?_) (by simp [laws_eqBoolS_l1])]
  · rfl
  · unfold laws_eqBoolS_l1
    rw [if_pos (by simp; omega), idx_nth hi]
    simp only [Option.bind_some]
    rw [succ64 (by omega)]
    simp
/-- Whether the i-th number is out of range or has been told before. -/
def badAt (o : List Int) (n i : Nat) : Bool := !decide (0 ≤ nth o i ∧ nth o i ≤ (n : Int) - 1) || (o.take i).contains (nth o i)
def orderOk (o : List Int) (n : Nat) : Bool := (List.range o.length).all fun i => !badAt o n i
theorem orderOk_iff {o : List Int} {n : Nat} : orderOk o n = true ↔ ∀ i, i < o.length → badAt o n i = false := by
  unfold orderOk
  simp [List.all_eq_true]
theorem orderOk_rng {o : List Int} {n i : Nat} (h : orderOk o n = true) (hi : i < o.length) : 0 ≤ nth o i ∧ nth o i ≤ (n : Int) - 1 := by
  have := orderOk_iff.1 h i hi
  unfold badAt at this
  simp only [Bool.or_eq_false_iff, Bool.not_eq_false', decide_eq_true_eq] at this
  exact this.1
theorem in_eq (a b c : Int) : spec_l00In a b c = some (decide (b ≤ a ∧ a ≤ c)) := by
  unfold spec_l00In
  simp
theorem within_eq3 (a b c : Int) : impl_within a b c = some (decide (b ≤ a ∧ a ≤ c)) := by
  unfold impl_within
  simp
theorem spec_order_l2 {xs : List (List Int × List Int × Int)} {o : List Int} (hn : xs.length ≤ 1000000000) (ho : o.length ≤ 1000000000) :
    loopN rounds (spec_l06Order_l2 xs o) 0 = some (if orderOk o xs.length = true then .inl (o.length : Int) else .inr 2) := by
  have inner : ∀ i : Nat, i < o.length → loopN rounds (spec_l06Order_l3 o (i : Int)) 0 = some (if (o.take i).contains (nth o i) = true then .inr 2 else .inl (i : Int)) := by
    intro i hi
    rcases find_loop (f := spec_l06Order_l3 o (i : Int)) (n := i) (fun k => decide (nth o k = nth o i)) (fun _ => (2 : Int)) (by omega) (fun k hk hp => by
        unfold spec_l06Order_l3
        rw [if_pos (by simp; omega), idx_nth (by omega), idx_nth hi]
        simp only [Option.bind_some]
        rw [if_neg (by simpa using hp), succ64 (by omega)]) (fun k hk hp => by
        unfold spec_l06Order_l3
        rw [if_pos (by simp; omega), idx_nth (by omega), idx_nth hi]
        simp only [Option.bind_some]
        rw [if_pos (by simpa using hp)]) (by unfold spec_l06Order_l3; simp) with ⟨h1, h2⟩ | ⟨k, hk, h1, _, h2⟩
    · rw [h2, if_neg]
      simp only [List.contains_eq_mem, decide_eq_true_eq]
      intro hm
      obtain ⟨k, hk⟩ := List.getElem?_of_mem hm
      rw [List.getElem?_take] at hk
      split at hk
      · rename_i hki
        have := h1 k hki
        rw [nth_get (by omega)] at hk
        simp only [decide_eq_false_iff_not] at this
        exact this (Option.some.inj hk)
      · cases hk
    · rw [h2, if_pos]
      simp only [List.contains_eq_mem, decide_eq_true_eq]
      have h1 : nth o k = nth o i := by simpa using h1
      refine List.mem_of_getElem? (i := k) ?_
      rw [List.getElem?_take, if_pos hk, nth_get (by omega), h1]
  have step : ∀ i : Nat, i < o.length → spec_l06Order_l2 xs o (i : Int) = if badAt o xs.length i = true then some (.inr (.inr 2)) else some (.inl ((i + 1 : Nat) : Int)) := by
    intro i hi
    unfold spec_l06Order_l2
    rw [if_pos (by simp; omega), idx_nth hi]
    simp only [Option.bind_some]
    rw [wrap64 (n := (xs.length : Int) - 1) (by omega) (by omega), in_eq]
    simp only [Option.bind_some, inner i hi]
    unfold badAt
    by_cases h : 0 ≤ nth o i ∧ nth o i ≤ (xs.length : Int) - 1
    · simp only [h, and_self, decide_true, Bool.not_true, Bool.false_or, Bool.false_eq_true, if_false]
      cases hq : (o.take i).contains (nth o i) with
      | true => simp
      | false => simp only [succ64 (show i < 9223372036854775807 by omega)]; simp
    · simp only [h, decide_false, Bool.not_false, Bool.true_or, if_true]
  rcases find_loop (f := spec_l06Order_l2 xs o) (n := o.length) (fun i => badAt o xs.length i) (fun _ => (2 : Int)) (by omega) (fun i hi hp => by rw [step i hi, if_neg (by simpa using hp)]) (fun i hi hp => by rw [step i hi, if_pos hp]) (by unfold spec_l06Order_l2; simp) with ⟨h1, h2⟩ | ⟨i, hi, h1, _, h2⟩
  · rw [h2, if_pos (orderOk_iff.2 h1)]
  · rw [h2, if_neg (fun h => by have := orderOk_iff.1 h i hi; rw [h1] at this; cases this)]
/-- Which numbers have been told. -/
def told (o : List Int) (n i : Nat) : List Bool := (List.range n).map fun (j : Nat) => (o.take i).contains (j : Int)
theorem told_next {o : List Int} {n i : Nat} (hi : i < o.length) (h : 0 ≤ nth o i ∧ nth o i ≤ (n : Int) - 1) : (told o n i).set (nth o i).toNat true = told o n (i + 1) := by
  apply List.ext_getElem?
  intro j
  unfold told
  rw [List.getElem?_set]
  simp only [List.length_map, List.length_range, List.getElem?_map]
  have ht : o.take (i + 1) = o.take i ++ [nth o i] := by rw [List.take_add_one, nth_get hi]; rfl
  by_cases hj : j < n
  · rw [List.getElem?_range hj]
    simp only [Option.map_some, ht]
    by_cases he : (nth o i).toNat = j
    · rw [if_pos he, if_pos (by omega)]
      have : (j : Int) = nth o i := by omega
      simp [this]
    · rw [if_neg he]
      have : ¬ (j : Int) = nth o i := by omega
      simp [this]
  · have : ¬ (nth o i).toNat = j := by omega
    rw [if_neg this]
    simp [List.getElem?_eq_none (l := List.range n) (i := j) (by simp; omega)]
theorem implOrder_eq {o : List Int} {n : Nat} (hn : n ≤ 1000000000) (ho : o.length ≤ 1000000000) : impl_isOrder o (n : Int) = some (decide (o.length = n) && orderOk o n) := by
  unfold impl_isOrder
  by_cases hl : o.length = n
  · rw [if_neg (by simp; omega), show need (decide (0 ≤ (n : Int)) && decide ((n : Int) ≤ most)) = some () from by unfold need most; rw [if_pos]; simp; omega]
    simp only [Option.bind_some, hl, decide_true, Bool.true_and]
    have h0 : List.replicate (n : Int).toNat false = told o n 0 := by
      unfold told
      apply List.ext_getElem?
      intro j
      simp only [Int.toNat_natCast, List.getElem?_replicate, List.getElem?_map, List.take_zero]
      by_cases hj : j < n
      · simp [hj]
      · simp [hj]
    rw [h0]
    have step : ∀ i : Nat, i < o.length → impl_isOrder_l1 o (n : Int) ((i : Int), told o n i) = if badAt o n i = true then some (.inr (.inr false)) else some (.inl (((i + 1 : Nat) : Int), told o n (i + 1))) := by
      intro i hi
      unfold impl_isOrder_l1 badAt
      simp only
      rw [if_pos (by simp; omega), idx_nth hi]
      simp only [Option.bind_some]
      rw [wrap64 (n := (n : Int) - 1) (by omega) (by omega), within_eq3]
      simp only [Option.bind_some]
      by_cases h : 0 ≤ nth o i ∧ nth o i ≤ (n : Int) - 1
      · have hx : idx (told o n i) (nth o i) = some ((o.take i).contains (nth o i)) := by
          unfold idx told
          rw [if_pos h.1, List.getElem?_map, List.getElem?_range (by omega)]
          simp only [Option.map_some]
          rw [Int.toNat_of_nonneg h.1]
        simp only [h, and_self, decide_true, Bool.not_true, Bool.false_or, Bool.false_eq_true, if_false, hx, Option.bind_some]
        split
        · rfl
        · rw [succ64 (by omega), told_next hi h]
      · simp only [h, decide_false, Bool.not_false, Bool.true_or, if_true, Option.bind_some]
    rcases find_loopS (f := impl_isOrder_l1 o (n : Int)) (n := n) (told o n) (fun i => badAt o n i) (fun _ => false) (by omega) (fun i hi _ hp => by rw [step i (by omega), if_neg (by simpa using hp)]) (fun i hi _ hp => by rw [step i (by omega), if_pos hp]) (fun _ => by unfold impl_isOrder_l1; simp [hl]) with ⟨h1, h2⟩ | ⟨i, hi, h1, _, h2⟩
    · rw [h2, orderOk_iff.2 (fun i hi => h1 i (by omega))]
      rfl
    · have : orderOk o n = false := by
        cases hq : orderOk o n with
        | false => rfl
        | true => have := orderOk_iff.1 hq i (by omega); rw [h1] at this; cases this
      rw [h2, this]
      rfl
  · rw [if_pos (by simp; omega)]
    simp [hl]
/-- The code of strokes, an order, what is turned, and a start. -/
def penI (xs : List (List Int × List Int × Int)) (o : List Int) (t : List Bool) (s : List Int) : Int :=
  if markOk s = true then (if codeI xs ≠ 0 then codeI xs else if (decide (o.length = xs.length) && orderOk o xs.length && decide (t.length = xs.length)) = true then 0 else 2) else 1
theorem specPen_eq {xs : List (List Int × List Int × Int)} {o : List Int} {t : List Bool} {s : List Int} (hx : xs.length ≤ 1000000000) (ho : o.length ≤ 1000000000) : spec_l06Order xs o t s = some (penI xs o t s) := by
  unfold spec_l06Order penI
  have key := all_loop (xs := xs) (f := spec_l06Order_l1 xs) strokeOk (1 : Int) (by omega) (fun i x hx' => by
    have hi := (List.getElem?_eq_some_iff.1 hx').1
    unfold spec_l06Order_l1
    rw [if_pos (by simp; omega), idx_nat hx']
    simp only [Option.bind_some, specOk_eq]
    rw [succ64 (by omega)]
    cases strokeOk x <;> simp) (by
    unfold spec_l06Order_l1
    simp)
  rw [key]
  simp only [Option.bind_some, spec_mark_eq, spec_order_l2 hx ho, codeI]
  by_cases ha : xs.all strokeOk = true
  · simp only [ha, if_true]
    cases markOk s with
    | false => simp
    | true =>
      by_cases h60 : 60 < (xs.length : Int)
      · simp [h60]
      · by_cases h1 : o.length = xs.length
        · by_cases h2 : t.length = xs.length
          · cases hq : orderOk o xs.length <;> simp [h60, h1, h2]
          · have : ¬ (t.length : Int) = (xs.length : Int) := by omega
            simp [h60, h1, h2, this]
        · have : ¬ (o.length : Int) = (xs.length : Int) := by omega
          simp [h60, h1, this]
  · simp only [ha, if_false]
    cases markOk s <;> simp
theorem implPen_eq {xs : List (List Int × List Int × Int)} {o : List Int} {t : List Bool} {s : List Int} (hx : xs.length ≤ 1000000000) (ho : o.length ≤ 1000000000) : impl_penCode xs o t s true = some (penI xs o t s) := by
  unfold impl_penCode penI
  rw [areMarks_eq (by simp), implCode_eq (by omega), implOrder_eq hx ho]
  simp only [Option.bind_some, impl_when, List.all_cons, List.all_nil, Bool.and_true]
  cases markOk s with
  | false => simp [first2]; split <;> rfl
  | true =>
    by_cases hc : codeI xs = 0
    · by_cases h1 : o.length = xs.length
      · by_cases h2 : t.length = xs.length
        · cases hq : orderOk o xs.length <;> simp [hc, h1, h2, hq, first2]
        · have : ¬ (t.length : Int) = (xs.length : Int) := by omega
          simp [hc, h1, h2, this, first2]
      · simp [hc, h1, first2]
    · simp [hc, first2]; split <;> rfl
/-- Where a stroke begins and ends. -/
def endsI (s : List Int × List Int × Int) (b : Bool) : List Int × List Int := if b = true then (s.2.1, s.1) else (s.1, s.2.1)
theorem specEnds_eq (s : List Int × List Int × Int) (b : Bool) : spec_l06Ends s b = some (endsI s b) := by
  unfold spec_l06Ends endsI
  split <;> rfl
theorem implEnds_eq (s : List Int × List Int × Int) (b : Bool) : impl_Stroke_ends s b = some (endsI s b) := by
  unfold impl_Stroke_ends endsI
  split <;> rfl
theorem ends_ok {s : List Int × List Int × Int} {b : Bool} (h : strokeOk s = true) : markOk (endsI s b).1 = true ∧ markOk (endsI s b).2 = true := by
  simp only [strokeOk, Bool.and_eq_true] at h
  unfold endsI
  split
  · exact ⟨h.1.2, h.1.1⟩
  · exact ⟨h.1.1, h.1.2⟩
/-- One stroke further on the way. -/
def wayStep (xs : List (List Int × List Int × Int)) (o : List Int) (t : List Bool) (i : Nat) (p : Int × List Int) : Int × List Int :=
  (IntKind.i64.wrap (p.1 + distI p.2 (endsI (nth xs (nth o i).toNat) (nth t i)).1), (endsI (nth xs (nth o i).toNat) (nth t i)).2)
def wayI (xs : List (List Int × List Int × Int)) (o : List Int) (t : List Bool) (s : List Int) : Int := (fold (wayStep xs o t) o.length (0, s)).1
section
variable {xs : List (List Int × List Int × Int)} {o : List Int} {t : List Bool} {s : List Int} (hs : markOk s = true) (hx : ∀ x ∈ xs, strokeOk x = true) (hl : xs.length ≤ 1000000000) (h1 : o.length = xs.length) (h2 : t.length = xs.length) (ho : orderOk o xs.length = true)
include hs hx hl h1 h2 ho
theorem specWay_eq : spec_l06Way xs o t s = some (wayI xs o t s) := by
  unfold spec_l06Way wayI
  rw [fold3 (f := spec_l06Way_l1 xs o t) (n := o.length) (wayStep xs o t) (fun _ p => markOk p.2 = true) (by omega) hs (fun i c a hi ha => by
    have hr := orderOk_rng ho hi
    have hin : (nth o i).toNat < xs.length := by omega
    have he := ends_ok (b := nth t i) (hx _ (nth_mem hin))
    refine ⟨?_, he.2⟩
    unfold spec_l06Way_l1 wayStep
    simp only
    rw [if_pos (by simp; omega), idx_nth hi]
    simp only [Option.bind_some]
    rw [idx_in hr.1 (by omega), idx_nth (by omega)]
    simp only [Option.bind_some, specEnds_eq]
    rw [specDist_eq ha he.1, succ64 (by omega)]
    rfl) (fun c a => by unfold spec_l06Way_l1; simp)]
  rfl
theorem implWay_eq : impl_way xs o t s = some (wayI xs o t s) := by
  unfold impl_way wayI
  rw [fold3 (f := impl_way_l1 xs o t) (n := o.length) (wayStep xs o t) (fun _ p => markOk p.2 = true) (by omega) hs (fun i c a hi ha => by
    have hr := orderOk_rng ho hi
    have hin : (nth o i).toNat < xs.length := by omega
    have he := ends_ok (b := nth t i) (hx _ (nth_mem hin))
    refine ⟨?_, he.2⟩
    unfold impl_way_l1 wayStep
    simp only
    rw [if_pos (by simp; omega), idx_nth hi]
    simp only [Option.bind_some]
    rw [idx_in hr.1 (by omega), idx_nth (by omega)]
    simp only [Option.bind_some, implEnds_eq]
    rw [implDist_eq ha he.1, succ64 (by omega)]
    rfl) (fun c a => by unfold impl_way_l1; simp)]
  rfl
end
theorem penI_ok {xs : List (List Int × List Int × Int)} {o : List Int} {t : List Bool} {s : List Int} (h : penI xs o t s = 0) : markOk s = true ∧ (∀ x ∈ xs, strokeOk x = true) ∧ xs.length ≤ 60 ∧ o.length = xs.length ∧ t.length = xs.length ∧ orderOk o xs.length = true := by
  unfold penI at h
  split at h
  · rename_i hm
    split at h
    · omega
    · rename_i hc
      have hc : codeI xs = 0 := by omega
      obtain ⟨k1, k2⟩ := codeI_ok hc
      split at h
      · rename_i hq
        simp only [Bool.and_eq_true, decide_eq_true_eq] at hq
        exact ⟨hm, k1, k2, hq.1.1, hq.2, hq.1.2⟩
      · omega
  · omega
theorem way_eq {xs : List (List Int × List Int × Int)} {o : List Int} {t : List Bool} {s : List Int} (hx : xs.length ≤ 1000000000) (ho : o.length ≤ 1000000000) : ∃ y, spec_WayOf xs o t s = some y ∧ impl_WayOf xs o t s = some y := by
  unfold spec_WayOf impl_WayOf
  rw [specPen_eq hx ho, implPen_eq hx ho]
  simp only [Option.bind_some]
  by_cases h : penI xs o t s = 0
  · obtain ⟨k1, k2, k3, k4, k5, k6⟩ := penI_ok h
    simp only [h, ne_eq, not_true_eq_false, decide_false, Bool.false_eq_true, if_false]
    rw [specWay_eq k1 k2 hx k4 k5 k6, implWay_eq k1 k2 hx k4 k5 k6]
    exact ⟨_, rfl, rfl⟩
  · simp only [h, ne_eq, not_false_eq_true, decide_true, if_true]
    exact ⟨_, rfl, rfl⟩
end Go.Proofs.Ytnpkhhfpgedkoaa
