/- The plain law of FnExactCountInk. -/
import Derived.Test.YtnpkhhfpgedkoaaPureA
import Derived.Test.YtnpkhhfpgedkoaaBits
set_option linter.unusedVariables false
set_option maxRecDepth 100000
set_option maxHeartbeats 1600000
namespace Go.Proofs.Ytnpkhhfpgedkoaa
open Go
theorem ofNat64 {a : Nat} (h : a < 18446744073709551616) : (BitVec.ofInt 64 (a : Int)).toNat = a := by
  rw [BitVec.toNat_ofInt]
  omega
theorem wrapU {a : Nat} (h : a < 18446744073709551616) : IntKind.u64.wrap (a : Int) = (a : Int) :=
  wrap_in .u64 (by simp [IntKind.min, IntKind.signed]) (by simp [IntKind.max, IntKind.signed, IntKind.bits]; omega)
theorem and_u64 {a b : Nat} (ha : a < 18446744073709551616) (hb : b < 18446744073709551616) : bitop .and .u64 (a : Int) (b : Int) = ((a &&& b : Nat) : Int) := by
  show IntKind.u64.wrap (((BitVec.ofInt 64 (a : Int)) &&& (BitVec.ofInt 64 (b : Int))).toNat : Int) = _
  rw [BitVec.toNat_and, ofNat64 ha, ofNat64 hb, wrapU (Nat.lt_of_le_of_lt Nat.and_le_left ha)]
theorem and_i64 {a b : Nat} (ha : a < 9223372036854775808) (hb : b < 9223372036854775808) : bitop .and .i64 (a : Int) (b : Int) = ((a &&& b : Nat) : Int) := by
  show IntKind.i64.wrap (((BitVec.ofInt 64 (a : Int)) &&& (BitVec.ofInt 64 (b : Int))).toNat : Int) = _
  have := Nat.lt_of_le_of_lt (Nat.and_le_left (n := a) (m := b)) ha
  rw [BitVec.toNat_and, ofNat64 (by omega), ofNat64 (by omega), wrap64 (by omega) (by omega)]
theorem shr_nat (a k : Nat) (hk : k ≤ 64) : Int.fdiv (a : Int) (2 ^ (min ((k : Nat) : Int).toNat IntKind.u64.bits)) = ((a / 2 ^ k : Nat) : Int) := by
  have e : min ((k : Nat) : Int).toNat IntKind.u64.bits = k := by simp [IntKind.bits]; omega
  rw [e, Int.fdiv_eq_ediv_of_nonneg _ (Int.le_of_lt (Int.pow_pos (by omega)))]
  simp
theorem onesCount_eq {n : Nat} (h : n < 18446744073709551616) : math_bits_OnesCount64 (n : Int) = some ((onesF 64 n : Nat) : Int) := by
  obtain ⟨h1, h2, h3, h4, h5, h6, h7, h8⟩ := swar h
  unfold math_bits_OnesCount64
  have s1 : ∀ a : Nat, Int.fdiv (a : Int) (2 ^ (min (1 : Int).toNat IntKind.u64.bits)) = ((a / 2 : Nat) : Int) := fun a => shr_nat a 1 (by decide)
  have s2 : ∀ a : Nat, Int.fdiv (a : Int) (2 ^ (min (2 : Int).toNat IntKind.u64.bits)) = ((a / 4 : Nat) : Int) := fun a => shr_nat a 2 (by decide)
  have s4 : ∀ a : Nat, Int.fdiv (a : Int) (2 ^ (min (4 : Int).toNat IntKind.u64.bits)) = ((a / 16 : Nat) : Int) := fun a => shr_nat a 4 (by decide)
  have s8 : ∀ a : Nat, Int.fdiv (a : Int) (2 ^ (min (8 : Int).toNat IntKind.u64.bits)) = ((a / 256 : Nat) : Int) := fun a => shr_nat a 8 (by decide)
  have s16 : ∀ a : Nat, Int.fdiv (a : Int) (2 ^ (min (16 : Int).toNat IntKind.u64.bits)) = ((a / 65536 : Nat) : Int) := fun a => shr_nat a 16 (by decide)
  have s32 : ∀ a : Nat, Int.fdiv (a : Int) (2 ^ (min (32 : Int).toNat IntKind.u64.bits)) = ((a / 4294967296 : Nat) : Int) := fun a => shr_nat a 32 (by decide)
  have w1 : IntKind.u64.wrap (bitop .and .u64 (Int.fdiv (n : Int) (2 ^ (min (1 : Int).toNat IntKind.u64.bits))) 6148914691236517205 + bitop .and .u64 (n : Int) 6148914691236517205) = (((n / 2 &&& 6148914691236517205) + (n &&& 6148914691236517205) : Nat) : Int) := by
    rw [s1, show (6148914691236517205 : Int) = ((6148914691236517205 : Nat) : Int) from rfl, and_u64 (by omega) (by decide), and_u64 h (by decide), ← Int.natCast_add, wrapU h1]
  rw [w1]
  generalize hy1 : (n / 2 &&& 6148914691236517205) + (n &&& 6148914691236517205) = y1 at *
  have w2 : IntKind.u64.wrap (bitop .and .u64 (Int.fdiv (y1 : Int) (2 ^ (min (2 : Int).toNat IntKind.u64.bits))) 3689348814741910323 + bitop .and .u64 (y1 : Int) 3689348814741910323) = (((y1 / 4 &&& 3689348814741910323) + (y1 &&& 3689348814741910323) : Nat) : Int) := by
    rw [s2, show (3689348814741910323 : Int) = ((3689348814741910323 : Nat) : Int) from rfl, and_u64 (by omega) (by decide), and_u64 h1 (by decide), ← Int.natCast_add, wrapU h2]
  rw [w2]
  generalize hy2 : (y1 / 4 &&& 3689348814741910323) + (y1 &&& 3689348814741910323) = y2 at *
  have w3 : bitop .and .u64 (IntKind.u64.wrap (Int.fdiv (y2 : Int) (2 ^ (min (4 : Int).toNat IntKind.u64.bits)) + (y2 : Int))) 1085102592571150095 = (((y2 / 16 + y2) &&& 1085102592571150095 : Nat) : Int) := by
    rw [s4, ← Int.natCast_add, wrapU h3, show (1085102592571150095 : Int) = ((1085102592571150095 : Nat) : Int) from rfl, and_u64 h3 (by decide)]
  rw [w3]
  generalize hy3 : (y2 / 16 + y2) &&& 1085102592571150095 = y3 at *
  rw [s8, ← Int.natCast_add, wrapU h5, s16, ← Int.natCast_add, wrapU h6, s32, ← Int.natCast_add, wrapU (by omega), wrap64 (by omega) (by omega), show (127 : Int) = ((127 : Nat) : Int) from rfl, and_i64 h7 (by decide),
    show (127 : Nat) = 2 ^ 7 - 1 from rfl, Nat.and_two_pow_sub_one_eq_mod, h8]
theorem inner_eq {c n : Nat} (hc : c ≤ 1000000) (hn : n < 18446744073709551616) : loopN rounds spec_CountInk_l2 ((c : Int), (n : Int)) = some (((c + onesF 64 n : Nat) : Int), 0) := by
  have hT := onesF_le 64 n
  obtain ⟨y, h1, h2⟩ := loop_keep (f := spec_CountInk_l2) (s := ((c : Int), (n : Int))) (fun s => ∃ a m : Nat, s = ((a : Int), (m : Int)) ∧ m < 18446744073709551616 ∧ a + onesF 64 m = c + onesF 64 n) (fun s => s.2.toNat) (fun y => y = (((c + onesF 64 n : Nat) : Int), 0))
    (by simpa using hn) ⟨c, n, rfl, hn, rfl⟩ (by
      rintro s ⟨a, m, rfl, hm, ha⟩
      unfold spec_CountInk_l2
      by_cases h0 : m = 0
      · subst h0
        refine .inr ⟨_, rfl, ?_⟩
        have : onesF 64 0 = 0 := by decide
        rw [this] at ha
        rw [← ha]; rfl
      · have hh : m / 2 < 2 ^ 63 := by omega
        have hstep : onesF 64 m = m % 2 + onesF 64 (m / 2) := by
          show m % 2 + onesF 63 (m / 2) = _
          rw [onesF_more 63 _ hh]
        have hle := onesF_le 64 (m / 2)
        refine .inl ⟨(((a + m % 2 : Nat) : Int), ((m / 2 : Nat) : Int)), ?_, ⟨a + m % 2, m / 2, rfl, by omega, by omega⟩, by simp; omega⟩
        simp only []
        rw [if_pos (by simp; omega), show (1 : Int) = ((1 : Nat) : Int) from rfl, and_u64 hm (by decide), show Int.fdiv (m : Int) (2 ^ (min (((1 : Nat) : Int)).toNat IntKind.u64.bits)) = ((m / 2 : Nat) : Int) from shr_nat m 1 (by decide),
          show (1 : Nat) = 2 ^ 1 - 1 from rfl, Nat.and_two_pow_sub_one_eq_mod, wrap64 (n := ((m % 2 ^ 1 : Nat) : Int)) (by omega) (by omega), ← Int.natCast_add, wrap64 (by omega) (by omega)])
  rw [h1, h2]
def sumOnes (x : List Int) : Nat → Nat
  | 0 => 0
  | i + 1 => sumOnes x i + onesF 64 (nth x i).toNat
theorem sumOnes_le (x : List Int) : ∀ i, sumOnes x i ≤ 64 * i
  | 0 => Nat.le_refl _
  | i + 1 => by have := sumOnes_le x i; have := onesF_le 64 (nth x i).toNat; unfold sumOnes; omega
theorem u64_rng {n : Int} (h : IntKind.u64.min ≤ n ∧ n ≤ IntKind.u64.max) : 0 ≤ n ∧ n ≤ 18446744073709551615 := by
  have h1 : IntKind.u64.min = 0 := by decide
  have h2 : IntKind.u64.max = 18446744073709551615 := by decide
  omega
theorem specCount_eq {x : List Int} (hl : x.length = 64) (hr : ∀ e ∈ x, IntKind.u64.min ≤ e ∧ e ≤ IntKind.u64.max) : spec_CountInk x = some ((sumOnes x 64 : Nat) : Int) := by
  unfold spec_CountInk
  rw [loop_run (s := ((0 : Int), (0 : Int))) (fun i => (((sumOnes x i : Nat) : Int), (i : Int))) 64 (by decide) rfl (fun j hj => ?_) rfl]
  · rfl
  · have hle := sumOnes_le x j
    have hv := u64_rng (hr _ (nth_mem (i := j) (by omega)))
    have ho := onesF_le 64 (nth x j).toNat
    unfold spec_CountInk_l1
    simp only []
    rw [if_pos (by simp; omega), idx_nth (by omega)]
    simp only [Option.bind_some]
    have e : nth x j = (((nth x j).toNat : Nat) : Int) := by omega
    rw [e, inner_eq (by omega) (by omega)]
    simp only [Option.bind_some]
    rw [wrap64 (by omega) (by omega)]
    rfl
theorem implCount_eq {x : List Int} (hl : x.length = 64) (hr : ∀ e ∈ x, IntKind.u64.min ≤ e ∧ e ≤ IntKind.u64.max) : impl_CountInk x = some ((sumOnes x 64 : Nat) : Int) := by
  unfold impl_CountInk
  rw [loop_run (s := ((0 : Int), (0 : Int))) (fun i => (((sumOnes x i : Nat) : Int), (i : Int))) 64 (by decide) rfl (fun j hj => ?_) rfl]
  · rfl
  · have hle := sumOnes_le x j
    have hv := u64_rng (hr _ (nth_mem (i := j) (by omega)))
    have ho := onesF_le 64 (nth x j).toNat
    unfold impl_CountInk_l1
    simp only []
    rw [if_pos (by simp; omega), idx_nth (by omega)]
    simp only [Option.bind_some]
    have e : nth x j = (((nth x j).toNat : Nat) : Int) := by omega
    rw [e, onesCount_eq (by omega)]
    simp only [Option.bind_some]
    rw [← Int.natCast_add, wrap64 (by omega) (by omega), wrap64 (by omega) (by omega)]
    rfl
theorem pure_FnExactCountInk (x0 : (List Int)) (g0 : (x0.length = 64 ∧ ∀ e ∈ x0, (IntKind.u64.min ≤ e ∧ e ≤ IntKind.u64.max))) : laws_FnExactCountInk x0 = some true := by
  unfold laws_FnExactCountInk
  simp only [toSheet_eq g0.1, Option.bind_some, specCount_eq g0.1 g0.2, implCount_eq g0.1 g0.2]
  simp
end Go.Proofs.Ytnpkhhfpgedkoaa
