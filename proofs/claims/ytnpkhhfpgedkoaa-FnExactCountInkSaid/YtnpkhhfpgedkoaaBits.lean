/-
  How many bits of a word are set: by bytes, side by side.
-/
import Derived.Test.YtnpkhhfpgedkoaaWords
set_option linter.unusedVariables false
set_option linter.unusedSimpArgs false
set_option maxRecDepth 100000
set_option maxHeartbeats 4000000
namespace Go.Proofs.Ytnpkhhfpgedkoaa
open Go
def repB (r : Nat) : Nat → Nat
  | 0 => 0
  | k + 1 => r + 256 * repB r k
def catB : List Nat → Nat
  | [] => 0
  | b :: l => b + 256 * catB l
theorem and_split {u v r m : Nat} (hu : u < 256) (hr : r < 256) : (u + 256 * v) &&& (r + 256 * m) = (u &&& r) + 256 * (v &&& m) := by
  have hur : u &&& r < 256 := Nat.lt_of_le_of_lt Nat.and_le_left hu
  apply Nat.eq_of_testBit_eq
  intro j
  rw [Nat.testBit_and, Nat.add_comm u, Nat.add_comm r, Nat.add_comm (u &&& r), show 256 = 2 ^ 8 from rfl, Nat.testBit_two_pow_mul_add _ hu, Nat.testBit_two_pow_mul_add _ hr, Nat.testBit_two_pow_mul_add _ hur]
  split <;> rw [Nat.testBit_and]
def t1B (b : Nat) : Nat := (b / 2 &&& 0x55) + (b &&& 0x55)
def t2B (b : Nat) : Nat := (b / 4 &&& 0x33) + (b &&& 0x33)
def t3B (b : Nat) : Nat := (b / 16 + b) % 16
def popB (b : Nat) : Nat := b % 2 + (b / 2 % 2 + (b / 4 % 2 + (b / 8 % 2 + (b / 16 % 2 + (b / 32 % 2 + (b / 64 % 2 + b / 128 % 2))))))
theorem t1_low : ∀ b, b < 256 → ∀ c, c < 2 → (b / 2 + 128 * c) &&& 0x55 = b / 2 &&& 0x55 := by decide
theorem t2_low : ∀ b, b < 256 → ∀ c, c < 4 → (b / 4 + 64 * c) &&& 0x33 = b / 4 &&& 0x33 := by decide
theorem t1_lt : ∀ b, b < 256 → t1B b < 256 := by decide
theorem t2_ok : ∀ b, b < 256 → t2B (t1B b) < 256 ∧ t2B (t1B b) % 16 ≤ 4 ∧ t2B (t1B b) / 16 ≤ 4 := by decide
theorem t3_pop : ∀ b, b < 256 → t3B (t2B (t1B b)) = popB b := by decide
theorem pop_le (b : Nat) : popB b ≤ 8 := by unfold popB; omega
theorem cat1 : ∀ l : List Nat, (∀ b ∈ l, b < 256) → (catB l / 2 &&& repB 0x55 l.length) + (catB l &&& repB 0x55 l.length) = catB (l.map t1B)
  | [], _ => rfl
  | b :: l, h => by
    have hb := h b (by simp)
    have ih := cat1 l fun x hx => h x (by simp [hx])
    have e : catB (b :: l) / 2 = (b / 2 + 128 * (catB l % 2)) + 256 * (catB l / 2) := by show (b + 256 * catB l) / 2 = _; omega
    rw [e]
    simp only [catB, List.length_cons, repB, List.map_cons]
    rw [and_split (by omega) (by decide), and_split hb (by decide), t1_low b hb _ (Nat.mod_lt _ (by decide))]
    rw [← ih]
    unfold t1B
    omega
theorem cat2 : ∀ l : List Nat, (∀ b ∈ l, b < 256) → (catB l / 4 &&& repB 0x33 l.length) + (catB l &&& repB 0x33 l.length) = catB (l.map t2B)
  | [], _ => rfl
  | b :: l, h => by
    have hb := h b (by simp)
    have ih := cat2 l fun x hx => h x (by simp [hx])
    have e : catB (b :: l) / 4 = (b / 4 + 64 * (catB l % 4)) + 256 * (catB l / 4) := by show (b + 256 * catB l) / 4 = _; omega
    rw [e]
    simp only [catB, List.length_cons, repB, List.map_cons]
    rw [and_split (by omega) (by decide), and_split hb (by decide), t2_low b hb _ (Nat.mod_lt _ (by decide))]
    rw [← ih]
    unfold t2B
    omega
theorem cat_mod : ∀ l : List Nat, (∀ b ∈ l, b < 256 ∧ b % 16 ≤ 4 ∧ b / 16 ≤ 4) → catB l % 16 ≤ 4
  | [], _ => by simp [catB]
  | b :: l, h => by have := h b (by simp); show (b + 256 * catB l) % 16 ≤ 4; omega
theorem cat3 : ∀ l : List Nat, (∀ b ∈ l, b < 256 ∧ b % 16 ≤ 4 ∧ b / 16 ≤ 4) → (catB l / 16 + catB l) &&& repB 0x0f l.length = catB (l.map t3B)
  | [], _ => rfl
  | b :: l, h => by
    have hb := h b (by simp)
    have hl : ∀ x ∈ l, x < 256 ∧ x % 16 ≤ 4 ∧ x / 16 ≤ 4 := fun x hx => h x (by simp [hx])
    have ih := cat3 l hl
    have hm := cat_mod l hl
    have e : catB (b :: l) / 16 + catB (b :: l) = (b / 16 + b + 16 * (catB l % 16)) + 256 * (catB l / 16 + catB l) := by show (b + 256 * catB l) / 16 + (b + 256 * catB l) = _; omega
    rw [e]
    simp only [List.length_cons, repB, List.map_cons]
    rw [and_split (by omega) (by decide), ih]
    have e2 : (b / 16 + b + 16 * (catB l % 16)) &&& 15 = t3B b := by
      rw [show (15 : Nat) = 2 ^ 4 - 1 from rfl, Nat.and_two_pow_sub_one_eq_mod]
      unfold t3B; omega
    rw [e2]
    rfl
def onesF : Nat → Nat → Nat
  | 0, _ => 0
  | k + 1, n => n % 2 + onesF k (n / 2)
theorem onesF_cat (k b c : Nat) (hb : b < 256) : onesF (k + 8) (b + 256 * c) = popB b + onesF k c := by
  have e : onesF (k + 8) (b + 256 * c) = (b + 256 * c) % 2 + ((b + 256 * c) / 2 % 2 + ((b + 256 * c) / 2 / 2 % 2 + ((b + 256 * c) / 2 / 2 / 2 % 2 + ((b + 256 * c) / 2 / 2 / 2 / 2 % 2 + ((b + 256 * c) / 2 / 2 / 2 / 2 / 2 % 2 + ((b + 256 * c) / 2 / 2 / 2 / 2 / 2 / 2 % 2 + ((b + 256 * c) / 2 / 2 / 2 / 2 / 2 / 2 / 2 % 2 + onesF k ((b + 256 * c) / 2 / 2 / 2 / 2 / 2 / 2 / 2 / 2)))))))) := rfl
  rw [e]
  simp only [Nat.div_div_eq_div_mul, Nat.reduceMul]
  have e0 : (b + 256 * c) % 2 = b % 2 := by omega
  have e1 : (b + 256 * c) / 2 % 2 = b / 2 % 2 := by omega
  have e2 : (b + 256 * c) / 4 % 2 = b / 4 % 2 := by omega
  have e3 : (b + 256 * c) / 8 % 2 = b / 8 % 2 := by omega
  have e4 : (b + 256 * c) / 16 % 2 = b / 16 % 2 := by omega
  have e5 : (b + 256 * c) / 32 % 2 = b / 32 % 2 := by omega
  have e6 : (b + 256 * c) / 64 % 2 = b / 64 % 2 := by omega
  have e7 : (b + 256 * c) / 128 % 2 = b / 128 % 2 := by omega
  have e8 : (b + 256 * c) / 256 = c := by omega
  rw [e0, e1, e2, e3, e4, e5, e6, e7, e8]
  unfold popB
  omega
theorem onesF_more : ∀ (k n : Nat), n < 2 ^ k → onesF (k + 1) n = onesF k n
  | 0, n, h => by have : n = 0 := by omega
                  subst this; rfl
  | k + 1, n, h => by
    have := onesF_more k (n / 2) (by rw [Nat.pow_succ] at h; omega)
    show n % 2 + onesF (k + 1) (n / 2) = n % 2 + onesF k (n / 2)
    rw [this]
theorem onesF_le : ∀ (k n : Nat), onesF k n ≤ k
  | 0, _ => Nat.le_refl _
  | k + 1, n => by have := onesF_le k (n / 2); unfold onesF; omega
def bytes (n : Nat) : List Nat := [n % 256, n / 256 % 256, n / 65536 % 256, n / 16777216 % 256, n / 4294967296 % 256, n / 1099511627776 % 256, n / 281474976710656 % 256, n / 72057594037927936 % 256]
theorem cat_bytes {n : Nat} (h : n < 18446744073709551616) : catB (bytes n) = n := by simp only [bytes, catB]; omega
theorem bytes_lt (n : Nat) : ∀ b ∈ bytes n, b < 256 := by
  intro b hb
  simp only [bytes, List.mem_cons, List.not_mem_nil, or_false] at hb
  rcases hb with h | h | h | h | h | h | h | h <;> (rw [h]; exact Nat.mod_lt _ (by decide))
theorem dvB {y q c : Nat} (h : y = q + 256 * c) (hq : q < 256) : y / 256 = c := by omega
theorem leB {y q c r m : Nat} (h : y = q + 256 * c) (hq : q ≤ r) (hc : c ≤ m) : y ≤ r + 256 * m := by omega
theorem addB {c q d p e : Nat} (h : c = q + 256 * d) (k : d = p + 256 * e) : c + d = (q + p) + 256 * (d + e) := by omega
theorem add4 {a b c d p q r s a' b' c' d' : Nat} (h1 : a = p + 256 * a') (h2 : b = q + 256 * b') (h3 : c = r + 256 * c') (h4 : d = s + 256 * d') : a + b + c + d = (p + q + r + s) + 256 * (a' + b' + c' + d') := by omega
theorem modB {y r x : Nat} (h : y = r + 256 * x) (hr : r < 128) : y % 128 = r := by omega
theorem lin6 (r A q B : Nat) : r + 256 * A + (q + 256 * B) = (r + q) + 256 * (A + B) := by omega
theorem lin8 (a b c d e f g h : Nat) : (a + b + c + d) + (e + f + g + h) = a + (b + (c + (d + (e + (f + (g + h)))))) := by omega
theorem lt8 {a b c d e f g h : Nat} (_ : a ≤ 8) (_ : b ≤ 8) (_ : c ≤ 8) (_ : d ≤ 8) (_ : e ≤ 8) (_ : f ≤ 8) (_ : g ≤ 8) (_ : h ≤ 8) : (a + b + c + d) + (e + f + g + h) < 128 := by omega
theorem lt16 {y : Nat} (h : y ≤ 4919131752989213764) : y / 16 + y < 18446744073709551616 := by omega
theorem swar_sum {y1 y2 y3 q0 q1 q2 q3 q4 q5 q6 q7 : Nat} (l1 : y1 < 18446744073709551616) (l2 : y2 ≤ 4919131752989213764) (p0 : q0 ≤ 8) (p1 : q1 ≤ 8) (p2 : q2 ≤ 8) (p3 : q3 ≤ 8) (p4 : q4 ≤ 8) (p5 : q5 ≤ 8) (p6 : q6 ≤ 8) (p7 : q7 ≤ 8)
    (h : y3 = q0 + 256 * (q1 + 256 * (q2 + 256 * (q3 + 256 * (q4 + 256 * (q5 + 256 * (q6 + 256 * (q7 + 256 * 0)))))))) :
    y1 < 18446744073709551616 ∧ y2 < 18446744073709551616 ∧ y2 / 16 + y2 < 18446744073709551616 ∧ y3 < 18446744073709551616 ∧ y3 + y3 / 256 < 18446744073709551616 ∧ y3 + y3 / 256 + (y3 + y3 / 256) / 65536 < 18446744073709551616 ∧
    y3 + y3 / 256 + (y3 + y3 / 256) / 65536 + (y3 + y3 / 256 + (y3 + y3 / 256) / 65536) / 4294967296 < 9223372036854775808 ∧
    (y3 + y3 / 256 + (y3 + y3 / 256) / 65536 + (y3 + y3 / 256 + (y3 + y3 / 256) / 65536) / 4294967296) % 128 = q0 + (q1 + (q2 + (q3 + (q4 + (q5 + (q6 + q7)))))) := by
  obtain ⟨c7, h7⟩ : ∃ c, c = q7 + 256 * 0 := ⟨_, rfl⟩
  rw [← h7] at h
  obtain ⟨c6, h6⟩ : ∃ c, c = q6 + 256 * c7 := ⟨_, rfl⟩
  rw [← h6] at h
  obtain ⟨c5, h5⟩ : ∃ c, c = q5 + 256 * c6 := ⟨_, rfl⟩
  rw [← h5] at h
  obtain ⟨c4, h4⟩ : ∃ c, c = q4 + 256 * c5 := ⟨_, rfl⟩
  rw [← h4] at h
  obtain ⟨c3, h3⟩ : ∃ c, c = q3 + 256 * c4 := ⟨_, rfl⟩
  rw [← h3] at h
  obtain ⟨c2, h2⟩ : ∃ c, c = q2 + 256 * c3 := ⟨_, rfl⟩
  rw [← h2] at h
  obtain ⟨c1, h1⟩ : ∃ c, c = q1 + 256 * c2 := ⟨_, rfl⟩
  rw [← h1] at h
  have z8 : (0 : Nat) = 0 + 256 * 0 := rfl
  have b7 := leB h7 p7 (Nat.le_refl 0)
  have b6 := leB h6 p6 b7
  have b5 := leB h5 p5 b6
  have b4 := leB h4 p4 b5
  have b3 := leB h3 p3 b4
  have b2 := leB h2 p2 b3
  have b1 := leB h1 p1 b2
  have b0 := leB h p0 b1
  have a1 : y3 / 256 = c1 := dvB h (Nat.lt_of_le_of_lt p0 (by decide))
  have e4 : y3 + c1 = (q0 + q1) + 256 * (c1 + c2) := addB h h1
  have e12 : c1 + c2 = (q1 + q2) + 256 * (c2 + c3) := addB h1 h2
  have a2 : (y3 + c1) / 65536 = c2 + c3 := by
    rw [show 65536 = 256 * 256 from rfl, ← Nat.div_div_eq_div_mul, dvB e4 (Nat.lt_of_le_of_lt (Nat.add_le_add p0 p1) (by decide)), dvB e12 (Nat.lt_of_le_of_lt (Nat.add_le_add p1 p2) (by decide))]
  have e5 : y3 + c1 + c2 + c3 = (q0 + q1 + q2 + q3) + 256 * (c1 + c2 + c3 + c4) := add4 h h1 h2 h3
  have e51 : c1 + c2 + c3 + c4 = (q1 + q2 + q3 + q4) + 256 * (c2 + c3 + c4 + c5) := add4 h1 h2 h3 h4
  have e52 : c2 + c3 + c4 + c5 = (q2 + q3 + q4 + q5) + 256 * (c3 + c4 + c5 + c6) := add4 h2 h3 h4 h5
  have e53 : c3 + c4 + c5 + c6 = (q3 + q4 + q5 + q6) + 256 * (c4 + c5 + c6 + c7) := add4 h3 h4 h5 h6
  have e54 : c4 + c5 + c6 + c7 = (q4 + q5 + q6 + q7) + 256 * (c5 + c6 + c7 + 0) := add4 h4 h5 h6 h7
  have q4le : ∀ {a b c d : Nat}, a ≤ 8 → b ≤ 8 → c ≤ 8 → d ≤ 8 → a + b + c + d < 256 := fun h1 h2 h3 h4 => by omega
  have a3 : (y3 + c1 + c2 + c3) / 4294967296 = c4 + c5 + c6 + c7 := by
    rw [show 4294967296 = 256 * (256 * (256 * 256)) from rfl, ← Nat.div_div_eq_div_mul, ← Nat.div_div_eq_div_mul, ← Nat.div_div_eq_div_mul, dvB e5 (q4le p0 p1 p2 p3), dvB e51 (q4le p1 p2 p3 p4), dvB e52 (q4le p2 p3 p4 p5), dvB e53 (q4le p3 p4 p5 p6)]
  rw [a1, a2, show y3 + c1 + (c2 + c3) = y3 + c1 + c2 + c3 from (Nat.add_assoc _ _ _).symm, a3]
  have e6 : y3 + c1 + c2 + c3 + (c4 + c5 + c6 + c7) = ((q0 + q1 + q2 + q3) + (q4 + q5 + q6 + q7)) + 256 * ((c1 + c2 + c3 + c4) + (c5 + c6 + c7 + 0)) := by
    rw [e5, e54]
    exact lin6 _ _ _ _
  have m6 := modB e6 (lt8 p0 p1 p2 p3 p4 p5 p6 p7)
  refine ⟨l1, Nat.lt_of_le_of_lt l2 (by decide), ?_, Nat.lt_of_le_of_lt b0 (by decide), Nat.lt_of_le_of_lt (Nat.add_le_add b0 b1) (by decide), Nat.lt_of_le_of_lt (Nat.add_le_add (Nat.add_le_add (Nat.add_le_add b0 b1) b2) b3) (by decide),
    Nat.lt_of_le_of_lt (Nat.add_le_add (Nat.add_le_add (Nat.add_le_add (Nat.add_le_add b0 b1) b2) b3) (Nat.add_le_add (Nat.add_le_add (Nat.add_le_add b4 b5) b6) b7)) (by decide), ?_⟩
  · exact lt16 l2
  · rw [m6]; exact lin8 _ _ _ _ _ _ _ _
/-- The word's bits, as the library counts them. -/
theorem swar {n : Nat} (h : n < 18446744073709551616) :
    let y1 := (n / 2 &&& 6148914691236517205) + (n &&& 6148914691236517205)
    let y2 := (y1 / 4 &&& 3689348814741910323) + (y1 &&& 3689348814741910323)
    let y3 := (y2 / 16 + y2) &&& 1085102592571150095
    let y4 := y3 + y3 / 256
    let y5 := y4 + y4 / 65536
    let y6 := y5 + y5 / 4294967296
    y1 < 18446744073709551616 ∧ y2 < 18446744073709551616 ∧ y2 / 16 + y2 < 18446744073709551616 ∧ y3 < 18446744073709551616 ∧ y4 < 18446744073709551616 ∧ y5 < 18446744073709551616 ∧ y6 < 9223372036854775808 ∧ y6 % 128 = onesF 64 n := by
  have hb := bytes_lt n
  have c1 := cat1 (bytes n) hb
  rw [cat_bytes h, show repB 0x55 (bytes n).length = 6148914691236517205 from rfl] at c1
  have hb1 : ∀ b ∈ (bytes n).map t1B, b < 256 := fun b hm => by
    obtain ⟨x, hx, rfl⟩ := List.mem_map.1 hm
    exact t1_lt x (hb x hx)
  have c2 := cat2 ((bytes n).map t1B) hb1
  rw [show repB 0x33 ((bytes n).map t1B).length = 3689348814741910323 from rfl, ← c1] at c2
  have hb2 : ∀ b ∈ ((bytes n).map t1B).map t2B, b < 256 ∧ b % 16 ≤ 4 ∧ b / 16 ≤ 4 := fun b hm => by
    obtain ⟨y, hy, rfl⟩ := List.mem_map.1 hm
    obtain ⟨x, hx, rfl⟩ := List.mem_map.1 hy
    exact t2_ok x (hb x hx)
  have c3 := cat3 (((bytes n).map t1B).map t2B) hb2
  rw [show repB 0x0f (((bytes n).map t1B).map t2B).length = 1085102592571150095 from rfl, ← c2] at c3
  have hpop : (((bytes n).map t1B).map t2B).map t3B = (bytes n).map popB := by
    rw [List.map_map, List.map_map]
    exact List.map_congr_left fun b hm => t3_pop b (hb b hm)
  rw [hpop] at c3
  have hones : onesF 64 n = (popB (n % 256)) + (popB (n / 256 % 256) + (popB (n / 65536 % 256) + (popB (n / 16777216 % 256) + (popB (n / 4294967296 % 256) + (popB (n / 1099511627776 % 256) + (popB (n / 281474976710656 % 256) + (popB (n / 72057594037927936 % 256)))))))) := by
    have e := cat_bytes h
    conv => lhs; rw [← e]
    simp only [bytes, catB]
    rw [onesF_cat 56 _ _ (Nat.mod_lt _ (by decide)), onesF_cat 48 _ _ (Nat.mod_lt _ (by decide)), onesF_cat 40 _ _ (Nat.mod_lt _ (by decide)), onesF_cat 32 _ _ (Nat.mod_lt _ (by decide)), onesF_cat 24 _ _ (Nat.mod_lt _ (by decide)),
      onesF_cat 16 _ _ (Nat.mod_lt _ (by decide)), onesF_cat 8 _ _ (Nat.mod_lt _ (by decide)), onesF_cat 0 _ _ (Nat.mod_lt _ (by decide))]
    rfl
  have lt1 : catB ((bytes n).map t1B) < 18446744073709551616 := by
    have g : ∀ b ∈ bytes n, t1B b < 256 := fun b hm => t1_lt b (hb b hm)
    simp only [bytes, List.mem_cons, List.not_mem_nil, or_false, forall_eq_or_imp, forall_eq] at g
    simp only [bytes, List.map_cons, List.map_nil, catB]
    omega
  have lt2 : catB (((bytes n).map t1B).map t2B) ≤ 4919131752989213764 := by
    have g : ∀ b ∈ bytes n, t2B (t1B b) ≤ 68 := fun b hm => by have := t2_ok b (hb b hm); omega
    simp only [bytes, List.mem_cons, List.not_mem_nil, or_false, forall_eq_or_imp, forall_eq] at g
    simp only [bytes, List.map_cons, List.map_nil, catB]
    omega
  intro y1 y2 y3 y4 y5 y6
  have e1 : y1 = catB ((bytes n).map t1B) := c1
  have e2 : y2 = catB (((bytes n).map t1B).map t2B) := c2
  have e3 : y3 = catB ((bytes n).map popB) := c3
  rw [← e1] at lt1
  rw [← e2] at lt2
  have p0 := pop_le (n % 256)
  have p1 := pop_le (n / 256 % 256)
  have p2 := pop_le (n / 65536 % 256)
  have p3 := pop_le (n / 16777216 % 256)
  have p4 := pop_le (n / 4294967296 % 256)
  have p5 := pop_le (n / 1099511627776 % 256)
  have p6 := pop_le (n / 281474976710656 % 256)
  have p7 := pop_le (n / 72057594037927936 % 256)
  simp only [bytes, List.map_cons, List.map_nil, catB] at e3
  rw [hones]
  clear_value y1 y2 y3
  generalize popB (n % 256) = q0 at *
  generalize popB (n / 256 % 256) = q1 at *
  generalize popB (n / 65536 % 256) = q2 at *
  generalize popB (n / 16777216 % 256) = q3 at *
  generalize popB (n / 4294967296 % 256) = q4 at *
  generalize popB (n / 1099511627776 % 256) = q5 at *
  generalize popB (n / 281474976710656 % 256) = q6 at *
  generalize popB (n / 72057594037927936 % 256) = q7 at *
  exact swar_sum lt1 (by omega) p0 p1 p2 p3 p4 p5 p6 p7 e3
end Go.Proofs.Ytnpkhhfpgedkoaa
