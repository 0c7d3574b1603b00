/- The plain law of FnExactSameClaim, and what it leans on. -/
import Derived.Test.YtnpkhhfpgedkoaaFS
import Derived.Test.YtnpkhhfpgedkoaaWords
set_option linter.unusedVariables false
set_option linter.unusedSimpArgs false
set_option maxRecDepth 100000
set_option maxHeartbeats 1600000
namespace Go.Proofs.Ytnpkhhfpgedkoaa
open Go
theorem szInt16S_eq {xs : List Int} {k : Int} (hl : xs.length ≤ 9223372036854775807) (h0 : 0 ≤ k) (h1 : k ≤ 1048576) : ∃ v, laws_szInt16S xs k = some v ∧ v ≤ k ∧ (0 ≤ v → xs.length ≤ 1048576) := by
  unfold laws_szInt16S
  rw [wrap64 (by omega) (by omega)]
  split
  · exact ⟨_, rfl, by omega, by omega⟩
  · rename_i h
    simp at h
    exact ⟨_, rfl, by omega, by omega⟩
theorem szClaim_eq {x : Int × List Nat × Int × Int × Nat × List Int} {k : Int} (hl : x.2.2.2.2.2.length ≤ 9223372036854775807) (h0 : 0 ≤ k) (h1 : k ≤ 1048576) : ∃ v, laws_szClaim x k = some v ∧ v ≤ k ∧ (0 ≤ v → x.2.2.2.2.2.length ≤ 1048576) := by
  obtain ⟨v, hv, h2, h3⟩ := szInt16S_eq hl h0 h1
  unfold laws_szClaim
  rw [hv]
  simp only [Option.bind_some]
  by_cases h : v < 0
  · exact ⟨-1, by simp [h], by omega, by omega⟩
  · exact ⟨v, by simp [h], h2, h3⟩
theorem toPoint_eq {x : List Nat} (h : x.length = 3) : laws_toPoint x = some x := by
  unfold laws_toPoint
  rw [copy_loop (m := 3) (x := x) (by decide) h (by simp) (fun i a r hi hr ha => ?_) (fun r => ?_)]
  · rfl
  · unfold laws_toPoint_l1
    simp only
    rw [if_pos (by simp; omega), idx_nat ha]
    simp only [Option.bind_some]
    rw [idx_nat (List.getElem?_eq_getElem (show i < r.length by omega))]
    simp only [Option.bind_some]
    rw [wrap64 (by omega) (by omega)]
    simp
  · rfl
theorem toInt16S_eq {xs : List Int} (hl : xs.length ≤ 1048576) : laws_toInt16S xs = some xs := by
  unfold laws_toInt16S
  rw [show need (decide (0 ≤ (xs.length : Int)) && decide ((xs.length : Int) ≤ most)) = some () from by unfold need most; rw [if_pos]; simp; omega]
  simp only [Option.bind_some]
  rw [copy_loopN (m := xs.length) (x := xs) (by omega) rfl (by simp) (fun i a r hi hr ha => ?_) (fun r => ?_)]
  · rfl
  · unfold laws_toInt16S_l1
    simp only
    rw [if_pos (by simp; omega), idx_nat ha]
    simp only [Option.bind_some]
    rw [idx_nat (List.getElem?_eq_getElem (show i < r.length by omega))]
    simp only [Option.bind_some]
    rw [succ64 (by omega)]
    rfl
  · unfold laws_toInt16S_l1
    simp
theorem toClaim_eq {x : Int × List Nat × Int × Int × Nat × List Int} (h : x.2.1.length = 3) (hl : x.2.2.2.2.2.length ≤ 1048576) : laws_toClaim x = some x := by
  unfold laws_toClaim
  rw [toPoint_eq h, toInt16S_eq hl]
  rfl
theorem cut0 (s : Bool) (n : Nat) : Ieee.Toward.even.cut s n 0 = n := by
  unfold Ieee.Toward.cut
  simp [Nat.mod_one]
theorem fin64 (s : Bool) {r : Nat} (h : r < 9218868437227405312) : (FloatKind.f64.decode (FloatKind.f64.format.word s r)).isInfinity = false := by
  have e1 : FloatKind.f64.format.signWeight = 9223372036854775808 := by decide +kernel
  have e2 : FloatKind.f64.format.binade = 4503599627370496 := by decide +kernel
  have e3 : FloatKind.f64.format.infRung = 9218868437227405312 := by decide +kernel
  unfold FloatKind.decode Ieee.Format.read Ieee.Format.word
  have hr : (if s = true then 9223372036854775808 + r else r) % 9223372036854775808 = r := by split <;> omega
  simp only [e1, e2, e3, hr]
  split
  · rfl
  · first | rfl | (rw [if_pos h]; rfl)
theorem rng32 {x m : Nat} {s : Bool} {e : Int} (h : FloatKind.f32.decode x = .number s m e) : m < 16777216 ∧ -149 ≤ e ∧ e ≤ 104 := by
  have e1 : FloatKind.f32.format.signWeight = 2147483648 := by decide +kernel
  have e2 : FloatKind.f32.format.binade = 8388608 := by decide +kernel
  have e3 : FloatKind.f32.format.infRung = 2139095040 := by decide +kernel
  have e4 : FloatKind.f32.format.leastPlace = -149 := by decide +kernel
  unfold FloatKind.decode Ieee.Format.read at h
  simp only [e1, e2, e3, e4] at h
  split at h
  · simp only [Ieee.Datum.number.injEq] at h
    omega
  · split at h
    · simp only [Ieee.Datum.number.injEq] at h
      omega
    · split at h <;> cases h
/-- How far apart two marks are. -/
def distI (a b : List Int) : Int := max (max (max (nth a 0 - nth b 0) (0 - (nth a 0 - nth b 0))) (nth a 1 - nth b 1)) (0 - (nth a 1 - nth b 1))
/-- One stroke looked at: the nearest so far. -/
def nearer (xs : List (List Int × List Int × Int)) (o a : List Int) (i : Nat) (p : Int × Int × Bool) : Int × Int × Bool :=
  if o.contains (i : Int) = true then p else
    if (decide (p.1 < 0) || decide (min (distI a (nth xs i).1) (distI a (nth xs i).2.1) < p.2.1)) = true then ((i : Int), min (distI a (nth xs i).1) (distI a (nth xs i).2.1), decide (distI a (nth xs i).2.1 < distI a (nth xs i).1)) else p
def nearest (xs : List (List Int × List Int × Int)) (o a : List Int) (j : Nat) : Int × Int × Bool := fold (nearer xs o a) j (-1, 0, false)
theorem wide_ok (x : Nat) : ∃ y, fconv .f32 .f64 x = some y := by
  unfold fconv
  cases hd : FloatKind.f32.decode x with
  | nan s t => exact ⟨_, rfl⟩
  | infinity s => exact ⟨_, rfl⟩
  | number s m e =>
    obtain ⟨h1, h2, h3⟩ := rng32 hd
    simp only
    rw [if_neg]
    · exact ⟨_, rfl⟩
    · have e1 : FloatKind.f64.format.fractionBits = 52 := rfl
      have e2 : FloatKind.f64.format.binade = 4503599627370496 := by decide +kernel
      have e3 : FloatKind.f64.format.infRung = 9218868437227405312 := by decide +kernel
      have e4 : FloatKind.f64.format.leastPlace = -1074 := by decide +kernel
      have key : ∃ r, r < 9218868437227405312 ∧ FloatKind.f64.encode (.number s m e) = FloatKind.f64.format.word s r := by
        show ∃ r, r < 9218868437227405312 ∧ FloatKind.f64.format.nearest s m e = FloatKind.f64.format.word s r
        unfold Ieee.Format.nearest
        by_cases hm : m = 0
        · rw [if_pos hm]; exact ⟨0, by decide, rfl⟩
        · rw [if_neg hm]
          have hlog : m.log2 ≤ 23 := by
            have := (Nat.log2_lt hm (k := 24)).2 (by simpa using h1)
            omega
          have hself := Nat.log2_self_le hm
          have hlt := Nat.lt_log2_self (n := m)
          simp only [e1, e2, e3, e4]
          have hlast : max (e + (m.log2 : Int) - ((52 : Nat) : Int)) (-1074) = e + (m.log2 : Int) - 52 := by rw [Int.max_def]; split <;> omega
          rw [hlast]
          have hd1 : (e + (m.log2 : Int) - 52 - e).toNat = 0 := by omega
          have hd2 : (e - (e + (m.log2 : Int) - 52)).toNat = 52 - m.log2 := by omega
          rw [hd1, hd2, cut0]
          refine ⟨_, ?_, rfl⟩
          have hk : m <<< (52 - m.log2) < 9007199254740992 := by
            rw [Nat.shiftLeft_eq]
            have h5 : m * 2 ^ (52 - m.log2) < 2 ^ (m.log2 + 1) * 2 ^ (52 - m.log2) := Nat.mul_lt_mul_of_pos_right hlt (Nat.two_pow_pos _)
            rw [← Nat.pow_add] at h5
            rw [show m.log2 + 1 + (52 - m.log2) = 53 by omega] at h5
            simpa using h5
          generalize m <<< (52 - m.log2) = q at *
          have hp : (e + (m.log2 : Int) - 52 - -1074).toNat ≤ 1149 := by omega
          generalize (e + (m.log2 : Int) - 52 - -1074).toNat = p at *
          have h6 : p * 4503599627370496 ≤ 1149 * 4503599627370496 := Nat.mul_le_mul_right _ hp
          have h7 : p * 4503599627370496 + q < 1149 * 4503599627370496 + 9007199254740992 := Nat.add_lt_add_of_le_of_lt h6 hk
          exact Nat.lt_of_le_of_lt (Nat.min_le_left _ _) (Nat.lt_trans h7 (by decide))
      obtain ⟨r, hr, he⟩ := key
      rw [he, fin64 s hr]
      decide
/-- A narrow number as a wide one. -/
def wideI (x : Nat) : Nat := (fconv .f32 .f64 x).getD 0
theorem fconv_wide (x : Nat) : fconv .f32 .f64 x = some (wideI x) := by
  obtain ⟨y, hy⟩ := wide_ok x
  unfold wideI
  rw [hy]
  rfl
theorem order_self (k : FloatKind) (x : Nat) : k.format.order x x = if isNaN k x = true then none else some .eq := by
  unfold Ieee.Format.order isNaN FloatKind.decode
  cases k.format.read x with
  | nan s t => rfl
  | infinity s => cases s <;> rfl
  | number s m e =>
    show some (compare _ _) = _
    rw [show (Ieee.Datum.number s m e).isNaN = false from rfl, if_neg (by decide)]
    congr 1
    rw [Int.compare_eq_eq]
theorem fneq_self (k : FloatKind) (x : Nat) : fneq k x x = isNaN k x := by
  unfold fneq
  rw [order_self]
  cases isNaN k x <;> rfl
theorem feql_self (k : FloatKind) (x : Nat) : feql k x x = !isNaN k x := by
  unfold feql
  rw [order_self]
  cases isNaN k x <;> rfl
theorem sameFloat_self (x : Nat) : laws_sameFloat x x = some true := by
  unfold laws_sameFloat
  rw [fneq_self, feql_self]
  cases isNaN .f64 x with
  | true => rfl
  | false =>
    simp only [Bool.or_self, Bool.false_eq_true, if_false, Bool.and_self, Bool.not_false]
    split
    · simp
    · rfl
theorem eqInt16S_self {xs : List Int} (hl : xs.length ≤ 9223372036854775806) : laws_eqInt16S xs xs = some true := by
  unfold laws_eqInt16S
  rw [if_neg (by simp), count_loop (n := xs.length) (y := .inl (xs.length : Int)) (by omega) (fun i hi => ?_) (by simp [laws_eqInt16S_l1])]
  · rfl
  · unfold laws_eqInt16S_l1
    rw [if_pos (by simp; omega), idx_nth hi]
    simp only [Option.bind_some]
    rw [succ64 (by omega)]
    simp
theorem eqPoint_self {x : List Nat} (h : x.length = 3) : laws_eqPoint x x = some true := by
  unfold laws_eqPoint
  rw [count_loop (n := 3) (y := .inl 3) (by decide) (fun i hi => ?_) (by simp [laws_eqPoint_l1])]
  · rfl
  · unfold laws_eqPoint_l1
    rw [if_pos (by simp; omega), idx_nth (by omega)]
    simp only [Option.bind_some, fconv_wide, sameFloat_self]
    rw [succ64 (by omega)]
    simp
theorem eqClaim_self {x : Int × List Nat × Int × Int × Nat × List Int} (h : x.2.1.length = 3) (hl : x.2.2.2.2.2.length ≤ 1048576) : laws_eqClaim x x = some true := by
  unfold laws_eqClaim
  rw [eqPoint_self h, fconv_wide, eqInt16S_self (by omega)]
  simp [sameFloat_self]
/-- Whether two numbers are the same. -/
def sameF (x y : Nat) : Bool := if (isNaN .f32 x || isNaN .f32 y) = true then isNaN .f32 x && isNaN .f32 y else decide ((x : Int) = (y : Int))
theorem specSame_eq (x y : Nat) : spec_l01Same x y = some (sameF x y) := by
  unfold spec_l01Same sameF
  rw [fneq_self, fneq_self]
  cases hx : isNaN .f32 x <;> cases hy : isNaN .f32 y <;> simp [need]
def sameP (x y : List Nat) : Bool := sameF (nth x 0) (nth y 0) && sameF (nth x 1) (nth y 1) && sameF (nth x 2) (nth y 2)
theorem specSameP_eq (x y : List Nat) : spec_l01SamePoint x y = some (sameP x y) := by
  unfold spec_l01SamePoint sameP
  simp only [specSame_eq, Option.bind_some]
  cases sameF (nth x 0) (nth y 0) <;> cases sameF (nth x 1) (nth y 1) <;> simp
/-- Two lists looked through, element for element. -/
theorem eq_loop {α : Type} [DecidableEq α] [Inhabited α] {a b : List α} {f : Int → Option (Int ⊕ (Int ⊕ Bool))} (h : a.length = b.length) (hn : a.length ≤ 9223372036854775806)
    (hf : ∀ i : Nat, i < a.length → f (i : Int) = if decide (nth a i ≠ nth b i) = true then some (.inr (.inr false)) else some (.inl ((i + 1 : Nat) : Int))) (hl : f (a.length : Int) = some (.inr (.inl (a.length : Int)))) :
    loopN rounds f 0 = some (if a = b then .inl (a.length : Int) else .inr false) := by
  rcases find_loop (f := f) (n := a.length) (fun i => decide (nth a i ≠ nth b i)) (fun _ => false) (by omega) (fun i hi hp => by rw [hf i hi, if_neg (by simpa using hp)]) (fun i hi hp => by rw [hf i hi, if_pos hp]) hl with ⟨h1, h2⟩ | ⟨i, hi, h1, _, h2⟩
  · have : a = b := by
      apply List.ext_getElem?
      intro i
      by_cases hi : i < a.length
      · rw [nth_get hi, nth_get (by omega)]
        have := h1 i hi
        simp only [ne_eq, decide_not, Bool.not_eq_false', decide_eq_true_eq] at this
        rw [this]
      · rw [List.getElem?_eq_none (by omega), List.getElem?_eq_none (by omega)]
    rw [h2, if_pos this]
  · have : a ≠ b := fun e => by subst e; simp at h1
    rw [h2, if_neg this]
def sameC (x y : Int × List Nat × Int × Int × Nat × List Int) : Bool := decide (x.1 = y.1) && sameP x.2.1 y.2.1 && decide (x.2.2.1 = y.2.2.1) && decide (x.2.2.2.1 = y.2.2.2.1) && sameF x.2.2.2.2.1 y.2.2.2.2.1 && decide (x.2.2.2.2.2 = y.2.2.2.2.2)
theorem specSameC_eq {x y : Int × List Nat × Int × Int × Nat × List Int} (hn : x.2.2.2.2.2.length ≤ 1048576) : spec_SameClaim x y = some (sameC x y) := by
  unfold spec_SameClaim spec_l07SameClaim sameC
  simp only [specSameP_eq, specSame_eq, Option.bind_some]
  by_cases h1 : x.1 = y.1
  · cases h2 : sameP x.2.1 y.2.1
    · simp [h1]
    · by_cases h3 : x.2.2.1 = y.2.2.1
      · by_cases h4 : x.2.2.2.1 = y.2.2.2.1
        · cases h5 : sameF x.2.2.2.2.1 y.2.2.2.2.1
          · simp [h1, h3, h4]
          · by_cases h6 : x.2.2.2.2.2.length = y.2.2.2.2.2.length
            · rw [eq_loop (f := spec_l07SameClaim_l1 x y) h6 (by omega) (fun i hi => by
                unfold spec_l07SameClaim_l1
                rw [if_pos (by simp; omega), idx_nth hi, idx_nth (by omega)]
                simp only [Option.bind_some]
                rw [succ64 (by omega)]) (by unfold spec_l07SameClaim_l1; simp)]
              by_cases he : x.2.2.2.2.2 = y.2.2.2.2.2
              · simp [h1, h3, h4, he]
              · simp [h1, h3, h4, h6, he]
            · have : ¬ (x.2.2.2.2.2.length : Int) = (y.2.2.2.2.2.length : Int) := by omega
              have he : ¬ x.2.2.2.2.2 = y.2.2.2.2.2 := fun e => h6 (by rw [e])
              simp [h1, h3, h4, this, he]
        · simp [h1, h3, h4]
      · simp [h1, h3]
  · simp [h1]
theorem implSame_eq (x y : Nat) : impl_SameNumber x y = some (sameF x y) := by
  unfold impl_SameNumber sameF
  rw [fneq_self, fneq_self]
  cases hx : isNaN .f32 x <;> cases hy : isNaN .f32 y <;> simp [need]
theorem implSameP_eq (x y : List Nat) : impl_SamePoint x y = some (sameP x y) := by
  unfold impl_SamePoint sameP
  simp only [implSame_eq, Option.bind_some]
  cases sameF (nth x 0) (nth y 0) <;> cases sameF (nth x 1) (nth y 1) <;> simp
theorem equal16_eq {a b : List Int} (hn : a.length ≤ 9223372036854775806) : slices_Equal_int16_int16 a b = some (decide (a = b)) := by
  unfold slices_Equal_int16_int16
  by_cases h : a.length = b.length
  · rw [if_neg (by simp; omega), eq_loop (f := slices_Equal_int16_int16_l1 a b) h hn (fun i hi => by
      unfold slices_Equal_int16_int16_l1
      rw [if_pos (by simp; omega), idx_nth hi, idx_nth (by omega)]
      simp only [Option.bind_some]
      rw [succ64 (by omega)]) (by unfold slices_Equal_int16_int16_l1; simp)]
    by_cases he : a = b
    · simp [he]
    · simp [he]
  · rw [if_pos (by simp; omega)]
    have : a ≠ b := fun e => h (by rw [e])
    simp [this]
theorem implSameC_eq {x y : Int × List Nat × Int × Int × Nat × List Int} (hn : x.2.2.2.2.2.length ≤ 1048576) : impl_SameClaim x y = some (sameC x y) := by
  unfold impl_SameClaim sameC
  simp only [implSameP_eq, implSame_eq, equal16_eq (a := x.2.2.2.2.2) (b := y.2.2.2.2.2) (by omega), Option.bind_some]
  by_cases h1 : x.1 = y.1
  · cases h2 : sameP x.2.1 y.2.1
    · simp [h1]
    · by_cases h3 : x.2.2.1 = y.2.2.1
      · by_cases h4 : x.2.2.2.1 = y.2.2.2.1
        · cases h5 : sameF x.2.2.2.2.1 y.2.2.2.2.1
          · simp [h1, h3, h4]
          · simp [h1, h3, h4]
        · simp [h1, h3, h4]
      · simp [h1, h3]
  · simp [h1]
theorem pure_FnExactSameClaim (x0 : (Int × (List Nat) × Int × Int × Nat × (List Int))) (x1 : (Int × (List Nat) × Int × Int × Nat × (List Int)))
    (g0 : ((IntKind.i8.min ≤ x0.1 ∧ x0.1 ≤ IntKind.i8.max) ∧ ((x0.2.1.length = 3 ∧ ∀ e ∈ x0.2.1, (∃ b, e = cn .f32 b ∧ b < 2 ^ FloatKind.f32.format.width)) ∧ ((IntKind.i64.min ≤ x0.2.2.1 ∧ x0.2.2.1 ≤ IntKind.i64.max) ∧ ((IntKind.i64.min ≤ x0.2.2.2.1 ∧ x0.2.2.2.1 ≤ IntKind.i64.max) ∧ ((∃ b, x0.2.2.2.2.1 = cn .f32 b ∧ b < 2 ^ FloatKind.f32.format.width) ∧ (x0.2.2.2.2.2.length ≤ 9223372036854775807 ∧ ∀ e ∈ x0.2.2.2.2.2, (IntKind.i16.min ≤ e ∧ e ≤ IntKind.i16.max))))))))
    (g1 : ((IntKind.i8.min ≤ x1.1 ∧ x1.1 ≤ IntKind.i8.max) ∧ ((x1.2.1.length = 3 ∧ ∀ e ∈ x1.2.1, (∃ b, e = cn .f32 b ∧ b < 2 ^ FloatKind.f32.format.width)) ∧ ((IntKind.i64.min ≤ x1.2.2.1 ∧ x1.2.2.1 ≤ IntKind.i64.max) ∧ ((IntKind.i64.min ≤ x1.2.2.2.1 ∧ x1.2.2.2.1 ≤ IntKind.i64.max) ∧ ((∃ b, x1.2.2.2.2.1 = cn .f32 b ∧ b < 2 ^ FloatKind.f32.format.width) ∧ (x1.2.2.2.2.2.length ≤ 9223372036854775807 ∧ ∀ e ∈ x1.2.2.2.2.2, (IntKind.i16.min ≤ e ∧ e ≤ IntKind.i16.max)))))))) : laws_FnExactSameClaim x0 x1 = some true := by
  obtain ⟨v, hv, v1, v2⟩ := szClaim_eq (x := x0) (k := 1048576) g0.2.2.2.2.2.1 (by omega) (by omega)
  unfold laws_FnExactSameClaim
  rw [hv]
  simp only [Option.bind_some]
  by_cases h : v < 0
  · simp [h]
  · obtain ⟨u, hu, u1, u2⟩ := szClaim_eq (x := x1) (k := v) g1.2.2.2.2.2.1 (by omega) (by omega)
    rw [hu]
    simp only [Option.bind_some, h, decide_false, Bool.false_eq_true, if_false]
    by_cases h' : u < 0
    · simp [h']
    · have l0 := v2 (by omega)
      have l1 := u2 (by omega)
      simp [h', toClaim_eq g0.2.1.1 l0, toClaim_eq g1.2.1.1 l1, specSameC_eq l0, implSameC_eq l0, eqClaim_self g0.2.1.1 l0, eqClaim_self g1.2.1.1 l1]
end Go.Proofs.Ytnpkhhfpgedkoaa
