/- The plain law of FnExactMarkOf, and what it leans on. -/
import Derived.Test.YtnpkhhfpgedkoaaFM
import Derived.Test.YtnpkhhfpgedkoaaWords
set_option linter.unusedVariables false
set_option linter.unusedSimpArgs false
set_option maxRecDepth 100000
set_option maxHeartbeats 1600000
namespace Go.Proofs.Ytnpkhhfpgedkoaa
open Go
theorem eqMark_self {x : List Int} (h : x.length = 2) : laws_eqMark x x = some true := by
  unfold laws_eqMark
  rw [count_loop (n := 2) (y := .inl 2) (by decide) (fun i hi => ?_) (by simp [laws_eqMark_l1])]
  · rfl
  · unfold laws_eqMark_l1
    rw [if_pos (by simp; omega), idx_nth (by omega)]
    simp only [Option.bind_some]
    rw [succ64 (by omega)]
    simp
/-- Less than a power of two. -/
def Bd (k : Int) (d : Ieee.Datum) : Prop := ∃ (s : Bool) (m : Nat) (e : Int) (a : Nat), d = .number s m e ∧ m < 2 ^ a ∧ (a : Int) + e ≤ k
/-- A narrow number as a wide one. -/
def wideI (x : Nat) : Nat := (fconv .f32 .f64 x).getD 0
theorem cut0 (s : Bool) (n : Nat) : Ieee.Toward.even.cut s n 0 = n := by
  unfold Ieee.Toward.cut
  simp [Nat.mod_one]
theorem fin64 (s : Bool) {r : Nat} (h : r < 9218868437227405312) : (FloatKind.f64.decode (FloatKind.f64.format.word s r)).isInfinity = false := by
  have e1 : FloatKind.f64.format.signWeight = 9223372036854775808 := by decide +kernel
  have e2 : FloatKind.f64.format.binade = 4503599627370496 := by decide +kernel
  have e3 : FloatKind.f64.format.infRung = 9218868437227405312 := by decide +kernel
  unfold FloatKind.decode Ieee.Format.read Ieee.Format.word
  have hr : (if s = true then 9223372036854775808 + r else r) % 9223372036854775808 = r := by split <;> omega
  simp only [e1, e2, e3, hr]
  split
  · rfl
  · first | rfl | (rw [if_pos h]; rfl)
theorem rng32 {x m : Nat} {s : Bool} {e : Int} (h : FloatKind.f32.decode x = .number s m e) : m < 16777216 ∧ -149 ≤ e ∧ e ≤ 104 := by
  have e1 : FloatKind.f32.format.signWeight = 2147483648 := by decide +kernel
  have e2 : FloatKind.f32.format.binade = 8388608 := by decide +kernel
  have e3 : FloatKind.f32.format.infRung = 2139095040 := by decide +kernel
  have e4 : FloatKind.f32.format.leastPlace = -149 := by decide +kernel
  unfold FloatKind.decode Ieee.Format.read at h
  simp only [e1, e2, e3, e4] at h
  split at h
  · simp only [Ieee.Datum.number.injEq] at h
    omega
  · split at h
    · simp only [Ieee.Datum.number.injEq] at h
      omega
    · split at h <;> cases h
/-- How far apart two marks are. -/
def distI (a b : List Int) : Int := max (max (max (nth a 0 - nth b 0) (0 - (nth a 0 - nth b 0))) (nth a 1 - nth b 1)) (0 - (nth a 1 - nth b 1))
/-- One stroke looked at: the nearest so far. -/
def nearer (xs : List (List Int × List Int × Int)) (o a : List Int) (i : Nat) (p : Int × Int × Bool) : Int × Int × Bool :=
  if o.contains (i : Int) = true then p else
    if (decide (p.1 < 0) || decide (min (distI a (nth xs i).1) (distI a (nth xs i).2.1) < p.2.1)) = true then ((i : Int), min (distI a (nth xs i).1) (distI a (nth xs i).2.1), decide (distI a (nth xs i).2.1 < distI a (nth xs i).1)) else p
def nearest (xs : List (List Int × List Int × Int)) (o a : List Int) (j : Nat) : Int × Int × Bool := fold (nearer xs o a) j (-1, 0, false)
theorem wide_ok (x : Nat) : ∃ y, fconv .f32 .f64 x = some y := by
  unfold fconv
  cases hd : FloatKind.f32.decode x with
  | nan s t => exact ⟨_, rfl⟩
  | infinity s => exact ⟨_, rfl⟩
  | number s m e =>
    obtain ⟨h1, h2, h3⟩ := rng32 hd
    simp only
    rw [if_neg]
    · exact ⟨_, rfl⟩
    · have e1 : FloatKind.f64.format.fractionBits = 52 := rfl
      have e2 : FloatKind.f64.format.binade = 4503599627370496 := by decide +kernel
      have e3 : FloatKind.f64.format.infRung = 9218868437227405312 := by decide +kernel
      have e4 : FloatKind.f64.format.leastPlace = -1074 := by decide +kernel
      have key : ∃ r, r < 9218868437227405312 ∧ FloatKind.f64.encode (.number s m e) = FloatKind.f64.format.word s r := by
        show ∃ r, r < 9218868437227405312 ∧ FloatKind.f64.format.nearest s m e = FloatKind.f64.format.word s r
        unfold Ieee.Format.nearest
        by_cases hm : m = 0
        · rw [if_pos hm]; exact ⟨0, by decide, rfl⟩
        · rw [if_neg hm]
          have hlog : m.log2 ≤ 23 := by
            have := (Nat.log2_lt hm (k := 24)).2 (by simpa using h1)
            omega
          have hself := Nat.log2_self_le hm
          have hlt := Nat.lt_log2_self (n := m)
          simp only [e1, e2, e3, e4]
          have hlast : max (e + (m.log2 : Int) - ((52 : Nat) : Int)) (-1074) = e + (m.log2 : Int) - 52 := by rw [Int.max_def]; split <;> omega
          rw [hlast]
          have hd1 : (e + (m.log2 : Int) - 52 - e).toNat = 0 := by omega
          have hd2 : (e - (e + (m.log2 : Int) - 52)).toNat = 52 - m.log2 := by omega
          rw [hd1, hd2, cut0]
          refine ⟨_, ?_, rfl⟩
          have hk : m <<< (52 - m.log2) < 9007199254740992 := by
            rw [Nat.shiftLeft_eq]
            have h5 : m * 2 ^ (52 - m.log2) < 2 ^ (m.log2 + 1) * 2 ^ (52 - m.log2) := Nat.mul_lt_mul_of_pos_right hlt (Nat.two_pow_pos _)
            rw [← Nat.pow_add] at h5
            rw [show m.log2 + 1 + (52 - m.log2) = 53 by omega] at h5
            simpa using h5
          generalize m <<< (52 - m.log2) = q at *
          have hp : (e + (m.log2 : Int) - 52 - -1074).toNat ≤ 1149 := by omega
          generalize (e + (m.log2 : Int) - 52 - -1074).toNat = p at *
          have h6 : p * 4503599627370496 ≤ 1149 * 4503599627370496 := Nat.mul_le_mul_right _ hp
          have h7 : p * 4503599627370496 + q < 1149 * 4503599627370496 + 9007199254740992 := Nat.add_lt_add_of_le_of_lt h6 hk
          exact Nat.lt_of_le_of_lt (Nat.min_le_left _ _) (Nat.lt_trans h7 (by decide))
      obtain ⟨r, hr, he⟩ := key
      rw [he, fin64 s hr]
      decide
theorem fconv_wide (x : Nat) : fconv .f32 .f64 x = some (wideI x) := by
  obtain ⟨y, hy⟩ := wide_ok x
  unfold wideI
  rw [hy]
  rfl
theorem Bd.mono {j k : Int} {d : Ieee.Datum} (h : Bd j d) (hjk : j ≤ k) : Bd k d := by
  obtain ⟨s, m, e, a, h1, h2, h3⟩ := h
  exact ⟨s, m, e, a, h1, h2, by omega⟩
theorem Bd.product {j k : Int} {c d : Ieee.Datum} (h : Bd j c) (g : Bd k d) : ∃ p, c.product d = some p ∧ Bd (j + k) p := by
  obtain ⟨s, m, e, a, rfl, h2, h3⟩ := h
  obtain ⟨t, n, i, b, rfl, g2, g3⟩ := g
  refine ⟨_, rfl, _, _, _, a + b, rfl, ?_, by omega⟩
  rw [Nat.pow_add]
  exact Nat.mul_lt_mul_of_lt_of_lt h2 g2
theorem shl_lt {m a t : Nat} (h : m < 2 ^ a) : m <<< t < 2 ^ (a + t) := by
  rw [Nat.shiftLeft_eq, Nat.pow_add]
  exact Nat.mul_lt_mul_of_pos_right h (Nat.two_pow_pos _)
theorem toNat_le (b : Bool) : b.toNat ≤ 1 := by cases b <;> decide
theorem cut_le (w : Ieee.Toward) (s : Bool) (n drop : Nat) : w.cut s n drop ≤ n / 2 ^ min drop (n.log2 + 2) + 1 := by
  unfold Ieee.Toward.cut
  simp only [Nat.shiftLeft_eq, Nat.one_mul]
  exact Nat.add_le_add_left (toNat_le _) _
/-- What a word of a format stands for, if it is no infinity. -/
theorem read_word {k : FloatKind} (s : Bool) {r : Nat} (h : r < k.format.infRung) : ∃ m e, k.decode (k.format.word s r) = .number s m e ∧ m < 2 ^ (k.format.fractionBits + 1) ∧ e = k.format.leastPlace + ((r / k.format.binade - 1 : Nat) : Int) := by
  have hsw : k.format.infRung < k.format.signWeight := by cases k <;> decide +kernel
  have hsp : 0 < k.format.signWeight := by omega
  have hb : k.format.binade = 2 ^ k.format.fractionBits := rfl
  have hbp : 0 < k.format.binade := by rw [hb]; exact Nat.two_pow_pos _
  unfold FloatKind.decode Ieee.Format.read Ieee.Format.word
  have hr : (if s = true then k.format.signWeight + r else r) % k.format.signWeight = r := by
    split
    · rw [Nat.add_mod_left, Nat.mod_eq_of_lt (by omega)]
    · rw [Nat.mod_eq_of_lt (by omega)]
  have hs : ((if s = true then k.format.signWeight + r else r) / k.format.signWeight % 2 == 1) = s := by
    cases s with
    | true => simp only [if_true]; rw [Nat.add_div_left _ hsp, Nat.div_eq_of_lt (by omega)]; rfl
    | false => simp only [Bool.false_eq_true, if_false]; rw [Nat.div_eq_of_lt (by omega)]; rfl
  simp only [hr, hs]
  have hp2 : 2 ^ (k.format.fractionBits + 1) = k.format.binade + k.format.binade := by rw [Nat.pow_succ, hb]; omega
  split
  · rename_i h1
    refine ⟨_, _, rfl, by omega, ?_⟩
    rw [Nat.div_eq_of_lt h1]
    simp
  · have := Nat.mod_lt r hbp
    first | rw [if_pos h] | skip
    exact ⟨_, _, rfl, by omega, rfl⟩
theorem round_core {k : FloatKind} {F E : Nat} {L : Int} (hF : k.format.fractionBits = F) (hL : k.format.leastPlace = L) (hI : k.format.infRung = (2 ^ E - 1) * 2 ^ F) {B : Int} {s : Bool} {m : Nat} {e : Int} {a : Nat} (h1 : m < 2 ^ a) (h2 : (a : Int) + e ≤ B) (h3 : (F : Int) + 1 + L ≤ B) (h4 : B - L + 3 < ((2 ^ E - 1 : Nat) : Int) + F) :
    ∃ m' e', k.decode (k.encode (.number s m e)) = .number s m' e' ∧ m' < 2 ^ (F + 1) ∧ ((F + 1 : Nat) : Int) + e' ≤ B + 1 := by
  have hbn : k.format.binade = 2 ^ F := by rw [← hF]; rfl
  have hIp : 2 ≤ 2 ^ E - 1 := by
    have : ((2 ^ E - 1 : Nat) : Int) > 2 := by omega
    omega
  have hpF : 0 < 2 ^ F := Nat.two_pow_pos _
  show ∃ m' e', k.decode (k.format.nearest s m e) = _ ∧ _
  unfold Ieee.Format.nearest
  by_cases hm : m = 0
  · rw [if_pos hm]
    obtain ⟨m', e', r1, r2, r3⟩ := read_word (k := k) s (r := 0) (by rw [hI]; exact Nat.mul_pos (by omega) hpF)
    rw [hF] at r2
    refine ⟨m', e', r1, r2, ?_⟩
    rw [r3, hL]
    simp
    omega
  · rw [if_neg hm]
    have hlog := Nat.log2_self_le hm
    have hlt := Nat.lt_log2_self (n := m)
    have hla : m.log2 < a := (Nat.log2_lt hm).2 h1
    simp only [hF, hL, hbn]
    obtain ⟨last, hlast⟩ : ∃ last : Int, last = max (e + (m.log2 : Int) - (F : Int)) L := ⟨_, rfl⟩
    have l1 : e + (m.log2 : Int) - (F : Int) ≤ last := by rw [hlast, Int.max_def]; split <;> omega
    have l2 : L ≤ last := by rw [hlast, Int.max_def]; split <;> omega
    have l3 : (F : Int) + 1 + last ≤ B := by rw [hlast, Int.max_def]; split <;> omega
    rw [← hlast]
    have hcut := cut_le .even s (m <<< (e - last).toNat) (last - e).toNat
    have hk : m <<< (e - last).toNat / 2 ^ min (last - e).toNat ((m <<< (e - last).toNat).log2 + 2) < 2 ^ (F + 1) := by
      by_cases hle : last ≤ e
      · have z : (last - e).toNat = 0 := by omega
        rw [z, Nat.zero_min, Nat.pow_zero, Nat.div_one]
        refine Nat.lt_of_lt_of_le (shl_lt hlt) (Nat.pow_le_pow_right (by decide) (by omega))
      · have z : (e - last).toNat = 0 := by omega
        rw [z, Nat.shiftLeft_zero]
        refine Nat.div_lt_of_lt_mul ?_
        rcases Nat.le_total (last - e).toNat (m.log2 + 2) with hq | hq
        · rw [Nat.min_eq_left hq, ← Nat.pow_add]
          refine Nat.lt_of_lt_of_le hlt (Nat.pow_le_pow_right (by decide) (by omega))
        · rw [Nat.min_eq_right hq, ← Nat.pow_add]
          refine Nat.lt_of_lt_of_le hlt (Nat.pow_le_pow_right (by decide) (by omega))
    generalize Ieee.Toward.even.cut s (m <<< (e - last).toNat) (last - e).toNat = kept at *
    have hkept : kept ≤ 2 ^ (F + 1) := by omega
    obtain ⟨p, hp⟩ : ∃ p : Nat, (last - L).toNat = p := ⟨_, rfl⟩
    have hpv : (p : Int) = last - L := by omega
    rw [hp]
    have hr1 : p * 2 ^ F + kept ≤ (p + 2) * 2 ^ F := by rw [Nat.pow_succ] at hkept; rw [Nat.add_mul]; omega
    have hr2 : (p + 2) * 2 ^ F < (2 ^ E - 1) * 2 ^ F := Nat.mul_lt_mul_of_pos_right (by omega) hpF
    have hmin : min (p * 2 ^ F + kept) k.format.infRung = p * 2 ^ F + kept := Nat.min_eq_left (by rw [hI]; omega)
    rw [hmin]
    obtain ⟨m', e', r1, r2, r3⟩ := read_word (k := k) s (r := p * 2 ^ F + kept) (by rw [hI]; omega)
    rw [hF] at r2
    refine ⟨m', e', r1, r2, ?_⟩
    have hq : (p * 2 ^ F + kept) / 2 ^ F ≤ p + 2 := by
      have := Nat.div_le_div_right (c := 2 ^ F) hr1
      rwa [Nat.mul_div_cancel _ hpF] at this
    rw [r3, hL, hbn]
    omega
theorem round32 {B : Int} {s : Bool} {m : Nat} {e : Int} {a : Nat} (h1 : m < 2 ^ a) (h2 : (a : Int) + e ≤ B) (h3 : -120 ≤ B) (h4 : B ≤ 120) : ∃ d, FloatKind.f32.decode (FloatKind.f32.encode (.number s m e)) = d ∧ Bd (B + 1) d := by
  obtain ⟨m', e', r1, r2, r3⟩ := round_core (k := .f32) (F := 23) (E := 8) (L := -149) rfl (by decide +kernel) (by decide +kernel) (s := s) h1 h2 (by omega) (by simp; omega)
  exact ⟨_, r1, s, m', e', _, rfl, r2, r3⟩
theorem Bd.num {k : FloatKind} {x : Nat} {B : Int} (h : Bd B (k.decode x)) : isNaN k x = false := by
  obtain ⟨s, m, e, a, h1, _⟩ := h
  unfold isNaN
  rw [h1]
  rfl
theorem cn_enc {k : FloatKind} {d : Ieee.Datum} {B : Int} (h : Bd B (k.decode (k.encode d))) : cn k (k.encode d) = k.encode d := by
  unfold cn
  rw [h.num]
  rfl
theorem fmul_bd {x y : Nat} {j k : Int} (hx : Bd j (FloatKind.f32.decode x)) (hy : Bd k (FloatKind.f32.decode y)) (h3 : -120 ≤ j + k) (h4 : j + k ≤ 120) : Bd (j + k + 1) (FloatKind.f32.decode (fmul .f32 x y)) := by
  obtain ⟨p, hp, s, m, e, a, rfl, h1, h2⟩ := hx.product hy
  obtain ⟨d, hd, hb⟩ := round32 (s := s) h1 h2 h3 h4
  have hf : fmul .f32 x y = FloatKind.f32.encode (.number s m e) := by
    unfold fmul
    have : FloatKind.f32.format.mul x y = some (FloatKind.f32.encode (.number s m e)) := by
      show ((FloatKind.f32.decode x).product (FloatKind.f32.decode y)).map FloatKind.f32.format.write = _
      rw [hp]; rfl
    rw [this]
    exact cn_enc (B := j + k + 1) (by rw [hd]; exact hb)
  rw [hf, hd]
  exact hb
theorem signed_abs (s : Bool) (m t : Nat) : (Ieee.signed s m t).natAbs = m <<< t := by
  unfold Ieee.signed
  cases s
  · rw [if_neg (by decide)]; exact Int.natAbs_natCast _
  · rw [if_pos rfl, Int.natAbs_neg]; exact Int.natAbs_natCast _
theorem Bd.sum {k : Int} {c d : Ieee.Datum} (h : Bd k c) (g : Bd k d) : ∃ p, c.sum d = some p ∧ Bd (k + 1) p := by
  obtain ⟨s, m, e, a, rfl, h2, h3⟩ := h
  obtain ⟨t, n, i, b, rfl, g2, g3⟩ := g
  refine ⟨_, rfl, _, _, _, (k - min e i).toNat + 1, rfl, ?_, by rw [Int.min_def]; split <;> omega⟩
  have h4 := shl_lt (t := (e - min e i).toNat) h2
  have g4 := shl_lt (t := (i - min e i).toNat) g2
  have h5 : 2 ^ (a + (e - min e i).toNat) ≤ 2 ^ (k - min e i).toNat := Nat.pow_le_pow_right (by decide) (by rw [Int.min_def]; split <;> omega)
  have g5 : 2 ^ (b + (i - min e i).toNat) ≤ 2 ^ (k - min e i).toNat := Nat.pow_le_pow_right (by decide) (by rw [Int.min_def]; split <;> omega)
  have h6 := signed_abs s m (e - min e i).toNat
  have g6 := signed_abs t n (i - min e i).toNat
  rw [Nat.pow_succ]
  generalize 2 ^ (k - min e i).toNat = Z at *
  generalize Ieee.signed s m (e - min e i).toNat = x at *
  generalize Ieee.signed t n (i - min e i).toNat = y at *
  omega
theorem fadd_bd {x y : Nat} {k : Int} (hx : Bd k (FloatKind.f32.decode x)) (hy : Bd k (FloatKind.f32.decode y)) (h3 : -120 ≤ k) (h4 : k ≤ 110) : Bd (k + 2) (FloatKind.f32.decode (fadd .f32 x y)) := by
  obtain ⟨p, hp, s, m, e, a, rfl, h1, h2⟩ := hx.sum hy
  obtain ⟨d, hd, hb⟩ := round32 (s := s) h1 h2 (by omega) (by omega)
  have hf : fadd .f32 x y = FloatKind.f32.encode (.number s m e) := by
    unfold fadd
    have : FloatKind.f32.format.add x y = some (FloatKind.f32.encode (.number s m e)) := by
      show ((FloatKind.f32.decode x).sum (FloatKind.f32.decode y)).map FloatKind.f32.format.write = _
      rw [hp]; rfl
    rw [this]
    exact cn_enc (B := k + 1 + 1) (by rw [hd]; exact hb)
  rw [hf, hd]
  exact hb.mono (by omega)
theorem round64 {B : Int} {s : Bool} {m : Nat} {e : Int} {a : Nat} (h1 : m < 2 ^ a) (h2 : (a : Int) + e ≤ B) (h3 : -1000 ≤ B) (h4 : B ≤ 1000) : ∃ d, FloatKind.f64.decode (FloatKind.f64.encode (.number s m e)) = d ∧ Bd (B + 1) d := by
  obtain ⟨m', e', r1, r2, r3⟩ := round_core (k := .f64) (F := 52) (E := 11) (L := -1074) rfl (by decide +kernel) (by decide +kernel) (s := s) h1 h2 (by omega) (by simp; omega)
  exact ⟨_, r1, s, m', e', _, rfl, r2, r3⟩
theorem wide_bd {x : Nat} {k : Int} (hx : Bd k (FloatKind.f32.decode x)) (h3 : -1000 ≤ k) (h4 : k ≤ 1000) : Bd (k + 1) (FloatKind.f64.decode (wideI x)) := by
  obtain ⟨s, m, e, a, h0, h1, h2⟩ := hx
  obtain ⟨d, hd, hb⟩ := round64 (s := s) h1 h2 h3 h4
  have hw := fconv_wide x
  unfold fconv at hw
  rw [h0] at hw
  simp only at hw
  split at hw
  · cases hw
  · have hw := Option.some.inj hw
    rw [cn_enc (B := k + 1) (by rw [hd]; exact hb)] at hw
    rw [← hw, hd]
    exact hb
/-- A number at one scale. -/
def atScale : Ieee.Datum → Int
  | .number s m e => Ieee.signed s m (e + 1200).toNat
  | _ => 0
/-- What a number is, at one scale. -/
def vl (k : FloatKind) (x : Nat) : Int := atScale (k.decode x)
/-- Neither an infinity nor no number. -/
def Fn (k : FloatKind) (x : Nat) : Prop := ∃ s m e, k.decode x = .number s m e
theorem Bd.fn {k : FloatKind} {x : Nat} {B : Int} (h : Bd B (k.decode x)) : Fn k x := by
  obtain ⟨s, m, e, a, h1, _⟩ := h
  exact ⟨s, m, e, h1⟩
theorem signed_shift (s : Bool) (m t u : Nat) : Ieee.signed s m (t + u) = Ieee.signed s m t * 2 ^ u := by
  unfold Ieee.signed
  cases s
  · simp only [Bool.false_eq_true, if_false, Nat.shiftLeft_eq, Nat.pow_add]
    push_cast
    rw [Int.mul_assoc]
  · simp only [if_true, Nat.shiftLeft_eq, Nat.pow_add]
    push_cast
    rw [Int.neg_mul, Int.mul_assoc]
theorem compare_scale {x y : Int} (u : Nat) : compare (x * 2 ^ u) (y * 2 ^ u) = compare x y := by
  have hp : (0 : Int) < 2 ^ u := Int.pow_pos (by decide)
  rcases Int.lt_trichotomy x y with h | h | h
  · rw [Int.compare_eq_lt.2 h, Int.compare_eq_lt.2 (Int.mul_lt_mul_of_pos_right h hp)]
  · subst h; rw [Int.compare_eq_eq.2 rfl, Int.compare_eq_eq.2 rfl]
  · rw [Int.compare_eq_gt.2 h, Int.compare_eq_gt.2 (Int.mul_lt_mul_of_pos_right h hp)]
theorem order_scale {s t : Bool} {m n : Nat} {i j : Int} (hi : -1200 ≤ i) (hj : -1200 ≤ j) : (Ieee.Datum.number s m i).order (.number t n j) = some (compare (atScale (.number s m i)) (atScale (.number t n j))) := by
  have e1 : (i + 1200).toNat = (i - min i j).toNat + (min i j + 1200).toNat := by rw [Int.min_def]; split <;> omega
  have e2 : (j + 1200).toNat = (j - min i j).toNat + (min i j + 1200).toNat := by rw [Int.min_def]; split <;> omega
  show some (compare (Ieee.signed s m (i - min i j).toNat) (Ieee.signed t n (j - min i j).toNat)) = some (compare (Ieee.signed s m (i + 1200).toNat) (Ieee.signed t n (j + 1200).toNat))
  rw [e1, e2, signed_shift, signed_shift, compare_scale]
/-- Places of numbers. -/
theorem num_place {k : FloatKind} {x m : Nat} {s : Bool} {e : Int} (h : k.decode x = .number s m e) : -1200 ≤ e ∧ (m = 0 → e ≤ -149) := by
  have hb : 0 < k.format.binade := Nat.two_pow_pos _
  have hl : -1200 ≤ k.format.leastPlace ∧ k.format.leastPlace ≤ -149 := by cases k <;> decide +kernel
  unfold FloatKind.decode Ieee.Format.read at h
  simp only at h
  split at h
  · simp only [Ieee.Datum.number.injEq] at h
    omega
  · split at h
    · simp only [Ieee.Datum.number.injEq] at h
      omega
    · split at h <;> cases h
theorem order_vl {k : FloatKind} {x y : Nat} (hx : Fn k x) (hy : Fn k y) : k.format.order x y = some (compare (vl k x) (vl k y)) := by
  obtain ⟨s, m, e, hx⟩ := hx
  obtain ⟨t, n, i, hy⟩ := hy
  show (k.decode x).order (k.decode y) = some (compare (atScale (k.decode x)) (atScale (k.decode y)))
  rw [hx, hy]
  exact order_scale (num_place hx).1 (num_place hy).1
theorem flss_vl {k : FloatKind} {x y : Nat} (hx : Fn k x) (hy : Fn k y) : flss k x y = decide (vl k x < vl k y) := by
  unfold flss
  rw [order_vl hx hy]
  rcases Int.lt_trichotomy (vl k x) (vl k y) with h | h | h
  · rw [Int.compare_eq_lt.2 h, decide_eq_true h]; rfl
  · rw [Int.compare_eq_eq.2 h, decide_eq_false (by omega)]; rfl
  · rw [Int.compare_eq_gt.2 h, decide_eq_false (by omega)]; rfl
theorem fgtr_vl {k : FloatKind} {x y : Nat} (hx : Fn k x) (hy : Fn k y) : fgtr k x y = decide (vl k y < vl k x) := by
  unfold fgtr
  rw [order_vl hx hy]
  rcases Int.lt_trichotomy (vl k x) (vl k y) with h | h | h
  · rw [Int.compare_eq_lt.2 h, decide_eq_false (by omega)]; rfl
  · rw [Int.compare_eq_eq.2 h, decide_eq_false (by omega)]; rfl
  · rw [Int.compare_eq_gt.2 h, decide_eq_true h]; rfl
/-- The whole part of a bounded number is bounded. -/
theorem cut_bd (w : Ieee.Toward) (s : Bool) {m a K : Nat} {e : Int} (h1 : m < 2 ^ a) (h2 : (a : Int) + e ≤ K) : w.cut s (m <<< e.toNat) (-e).toNat ≤ 2 ^ K := by
  refine Nat.le_trans (cut_le w s _ _) ?_
  have : m <<< e.toNat / 2 ^ min (-e).toNat ((m <<< e.toNat).log2 + 2) < 2 ^ K := by
    by_cases hle : 0 ≤ e
    · have z : (-e).toNat = 0 := by omega
      rw [z, Nat.zero_min, Nat.pow_zero, Nat.div_one]
      exact Nat.lt_of_lt_of_le (shl_lt h1) (Nat.pow_le_pow_right (by decide) (by omega))
    · have z : e.toNat = 0 := by omega
      rw [z, Nat.shiftLeft_zero]
      refine Nat.div_lt_of_lt_mul ?_
      rw [← Nat.pow_add]
      rcases Nat.le_total (-e).toNat (m.log2 + 2) with hq | hq
      · rw [Nat.min_eq_left hq]
        exact Nat.lt_of_lt_of_le h1 (Nat.pow_le_pow_right (by decide) (by omega))
      · rw [Nat.min_eq_right hq]
        exact Nat.lt_of_lt_of_le Nat.lt_log2_self (Nat.pow_le_pow_right (by decide) (by omega))
  omega
theorem floor_bd {x : Nat} {K : Nat} (h : Bd K (FloatKind.f64.decode x)) (hk : K ≤ 900) : Bd (K + 2) (FloatKind.f64.decode (ffloor x)) := by
  obtain ⟨s, m, e, a, h0, h1, h2⟩ := h
  have hc := cut_bd .down s h1 h2
  have hl : Ieee.Toward.down.cut s (m <<< e.toNat) (-e).toNat < 2 ^ (K + 1) := by
    have := Nat.pow_lt_pow_right (a := 2) (by decide) (show K < K + 1 by omega)
    omega
  obtain ⟨d, hd, hb⟩ := round64 (s := s) (e := 0) (B := (K : Int) + 1) hl (by omega) (by omega) (by omega)
  have hf : ffloor x = FloatKind.f64.encode (.number s (Ieee.Toward.down.cut s (m <<< e.toNat) (-e).toNat) 0) := by
    unfold ffloor
    rw [h0]
    show cn .f64 (FloatKind.f64.encode (.number s (Ieee.Toward.down.cut s (m <<< e.toNat) (-e).toNat) 0)) = _
    exact cn_enc (B := (K : Int) + 1 + 1) (by rw [hd]; exact hb)
  rw [hf, hd]
  exact hb.mono (by omega)
/-- A bounded number as a whole one. -/
theorem ftoI_bd {x : Nat} {K : Nat} (h : Bd K (FloatKind.f64.decode x)) (hk : K ≤ 60) : ∃ n : Int, ftoI .f64 .i64 x = some n ∧ -1152921504606846976 ≤ n ∧ n ≤ 1152921504606846976 ∧ (((10000 * 2 ^ 1200 : Nat) : Int) < vl .f64 x → 10000 ≤ n) ∧ (vl .f64 x < -((10000 * 2 ^ 1200 : Nat) : Int) → n ≤ -10000) := by
  obtain ⟨s, m, e, a, h0, h1, h2⟩ := h
  have he := (num_place h0).1
  have hc := cut_bd .zero s h1 h2
  have hp : 2 ^ K ≤ 2 ^ 60 := Nat.pow_le_pow_right (by decide) hk
  have hp : 2 ^ K ≤ 1152921504606846976 := Nat.le_trans hp (by decide)
  have hv : 10000 * 2 ^ 1200 < m <<< (e + 1200).toNat → 10000 ≤ Ieee.Toward.zero.cut s (m <<< e.toNat) (-e).toNat := by
    intro hv
    unfold Ieee.Toward.cut
    simp only [Nat.shiftLeft_eq, Nat.one_mul, Bool.toNat_false, Nat.add_zero]
    by_cases hle : 0 ≤ e
    · have z : (-e).toNat = 0 := by omega
      rw [z, Nat.zero_min, Nat.pow_zero, Nat.div_one]
      rw [Nat.shiftLeft_eq, show (e + 1200).toNat = e.toNat + 1200 by omega, Nat.pow_add, ← Nat.mul_assoc] at hv
      have := Nat.lt_of_mul_lt_mul_right hv
      omega
    · have z : e.toNat = 0 := by omega
      rw [z, Nat.pow_zero, Nat.mul_one]
      rw [Nat.shiftLeft_eq] at hv
      have e3 : 2 ^ 1200 = 2 ^ (-e).toNat * 2 ^ (e + 1200).toNat := by rw [← Nat.pow_add]; congr 1; omega
      rw [e3, ← Nat.mul_assoc] at hv
      have h5 := Nat.lt_of_mul_lt_mul_right hv
      have h6 : m < 2 ^ (m.log2 + 1) := Nat.lt_log2_self
      have h7 : (-e).toNat ≤ m.log2 + 2 := by
        rcases Nat.le_total (-e).toNat (m.log2 + 2) with hq | hq
        · exact hq
        · exfalso
          have h8 : 2 ^ (m.log2 + 1) ≤ 2 ^ (-e).toNat := Nat.pow_le_pow_right (by decide) (by omega)
          generalize 2 ^ (-e).toNat = Z at *
          omega
      rw [Nat.min_eq_left h7, Nat.le_div_iff_mul_le (Nat.two_pow_pos _)]
      omega
  unfold ftoI
  have ht : (FloatKind.f64.decode x).toInt .zero = some (Ieee.signed s (Ieee.Toward.zero.cut s (m <<< e.toNat) (-e).toNat) 0) := by rw [h0]; rfl
  rw [ht]
  have hvl : vl .f64 x = Ieee.signed s m (e + 1200).toNat := by unfold vl; rw [h0]; rfl
  rw [hvl]
  generalize Ieee.Toward.zero.cut s (m <<< e.toNat) (-e).toNat = c at *
  have hn : Ieee.signed s c 0 = if s = true then -(c : Int) else c := by unfold Ieee.signed; simp
  have hm : IntKind.i64.min = -9223372036854775808 := by decide
  have hM : IntKind.i64.max = 9223372036854775807 := by decide
  have hw : Ieee.signed s m (e + 1200).toNat = if s = true then -((m <<< (e + 1200).toNat : Nat) : Int) else ((m <<< (e + 1200).toNat : Nat) : Int) := rfl
  rw [hw]
  have hZ0 : 0 < 10000 * 2 ^ 1200 := by decide +kernel
  generalize m <<< (e + 1200).toNat = M at *
  generalize 10000 * 2 ^ 1200 = Z at *
  simp only [hn, hm, hM]
  cases s with
  | true =>
    simp only [if_true]
    refine ⟨-(c : Int), by rw [if_pos (by omega)], by omega, by omega, by omega, by omega⟩
  | false =>
    simp only [Bool.false_eq_true, if_false]
    refine ⟨(c : Int), by rw [if_pos (by omega)], by omega, by omega, by omega, by omega⟩
theorem fl_half : Bd 41 (FloatKind.f32.decode 1056964608) := ⟨false, 8388608, -24, 24, by decide +kernel, by decide, by decide⟩
theorem dec_hi : FloatKind.f64.decode 4666723172467343360 = .number false 5497558138880000 (-39) := by decide +kernel
theorem dec_lo : FloatKind.f64.decode 13890095209322119168 = .number true 5497558138880000 (-39) := by decide +kernel
theorem vl_hi : vl .f64 4666723172467343360 = ((10000 * 2 ^ 1200 : Nat) : Int) := by unfold vl; rw [dec_hi]; decide +kernel
theorem vl_lo : vl .f64 13890095209322119168 = -((10000 * 2 ^ 1200 : Nat) : Int) := by unfold vl; rw [dec_lo]; decide +kernel
theorem rounded_eq {x p : Nat} (hx : Bd 20 (FloatKind.f32.decode x)) (hp : Bd 20 (FloatKind.f32.decode p)) : ∃ n : Int, impl_markOf_c1 x p = some n ∧ -1152921504606846976 ≤ n ∧ n ≤ 1152921504606846976 ∧ ∃ k : Int, spec_l06Rounded (fadd .f32 (fmul .f32 x p) 1056964608) = some k ∧ (n = k ∨ (10000 ≤ n ∧ k = 10000) ∨ (n ≤ -10000 ∧ k = -10000)) := by
  have b1 : Bd 41 (FloatKind.f32.decode (fmul .f32 x p)) := (fmul_bd hx hp (by decide) (by decide)).mono (by decide)
  have b2 : Bd 43 (FloatKind.f32.decode (fadd .f32 (fmul .f32 x p) 1056964608)) := (fadd_bd b1 fl_half (by decide) (by decide)).mono (by decide)
  have b3 : Bd ((44 : Nat) : Int) (FloatKind.f64.decode (wideI (fadd .f32 (fmul .f32 x p) 1056964608))) := (wide_bd b2 (by decide) (by decide)).mono (by decide)
  have b4 : Bd ((46 : Nat) : Int) (FloatKind.f64.decode (ffloor (wideI (fadd .f32 (fmul .f32 x p) 1056964608)))) := (floor_bd b3 (by decide)).mono (by decide)
  obtain ⟨n, hn, n1, n2, n3, n4⟩ := ftoI_bd b4 (by decide)
  have f1 : Fn .f64 4666723172467343360 := ⟨_, _, _, dec_hi⟩
  have f2 : Fn .f64 13890095209322119168 := ⟨_, _, _, dec_lo⟩
  unfold impl_markOf_c1 spec_l06Rounded math_Floor
  simp only [fconv_wide, Option.bind_some]
  rw [fgtr_vl b4.fn f1, flss_vl b4.fn f2, vl_hi, vl_lo, hn]
  refine ⟨n, rfl, n1, n2, ?_⟩
  generalize vl .f64 (ffloor (wideI (fadd .f32 (fmul .f32 x p) 1056964608))) = v at *
  by_cases h1 : ((10000 * 2 ^ 1200 : Nat) : Int) < v
  · rw [if_pos (decide_eq_true h1)]
    exact ⟨10000, rfl, .inr (.inl ⟨n3 h1, rfl⟩)⟩
  · rw [if_neg (by rw [decide_eq_true_eq]; exact h1)]
    by_cases h2 : v < -((10000 * 2 ^ 1200 : Nat) : Int)
    · rw [if_pos (decide_eq_true h2)]
      exact ⟨-10000, rfl, .inr (.inr ⟨n4 h2, rfl⟩)⟩
    · rw [if_neg (by rw [decide_eq_true_eq]; exact h2)]
      exact ⟨n, rfl, .inl rfl⟩
theorem capped_eq {n k : Int} (h1 : -1152921504606846976 ≤ n) (h2 : n ≤ 1152921504606846976) (h : n = k ∨ (10000 ≤ n ∧ k = 10000) ∨ (n ≤ -10000 ∧ k = -10000)) : (spec_l00Min 500 (IntKind.i64.wrap (32 + k))).bind (fun y => spec_l00Max (-500) y) = some (min (max (IntKind.i64.wrap (32 + n)) (-500)) 500) := by
  rw [wrap64 (by omega) (by omega), wrap64 (by omega) (by omega)]
  unfold spec_l00Min spec_l00Max
  simp only [decide_eq_true_eq]
  rw [Int.min_def, Int.max_def]
  split <;> simp only [Option.bind_some] <;> split <;> (congr 1; (repeat' split) <;> omega)
theorem capped_eq' {n k : Int} (h1 : -1152921504606846976 ≤ n) (h2 : n ≤ 1152921504606846976) (h : n = k ∨ (10000 ≤ n ∧ k = 10000) ∨ (n ≤ -10000 ∧ k = -10000)) : (spec_l00Min 500 (IntKind.i64.wrap (32 - k))).bind (fun y => spec_l00Max (-500) y) = some (min (max (IntKind.i64.wrap (32 - n)) (-500)) 500) := by
  rw [wrap64 (by omega) (by omega), wrap64 (by omega) (by omega)]
  unfold spec_l00Min spec_l00Max
  simp only [decide_eq_true_eq]
  rw [Int.min_def, Int.max_def]
  split <;> simp only [Option.bind_some] <;> split <;> (congr 1; (repeat' split) <;> omega)
theorem markOf_eq {x : List Nat} {p : Nat} (h0 : Bd 20 (FloatKind.f32.decode (nth x 0))) (h1 : Bd 20 (FloatKind.f32.decode (nth x 1))) (hp : Bd 20 (FloatKind.f32.decode p)) : ∃ y : List Int, y.length = 2 ∧ spec_l06MarkOf x p = some y ∧ impl_markOf x p = some y := by
  obtain ⟨n, a1, a2, a3, k, a4, a5⟩ := rounded_eq h0 hp
  obtain ⟨m, b1, b2, b3, l, b4, b5⟩ := rounded_eq h1 hp
  refine ⟨[IntKind.i16.wrap (min (max (IntKind.i64.wrap (32 + n)) (-500)) 500), IntKind.i16.wrap (min (max (IntKind.i64.wrap (32 - m)) (-500)) 500)], rfl, ?_, ?_⟩
  · have c1 := capped_eq a2 a3 a5
    have c2 := capped_eq' b2 b3 b5
    obtain ⟨u, u1, u2⟩ := bindS c1
    obtain ⟨w, w1, w2⟩ := bindS c2
    unfold spec_l06MarkOf
    simp only [a4, b4, u1, u2, w1, w2, Option.bind_some]
  · unfold impl_markOf impl_markOf_c2
    simp only [a1, b1, Option.bind_some]
theorem toSpot_eq {x : List Nat} (h : x.length = 2) : laws_toSpot x = some x := by
  unfold laws_toSpot
  rw [copy_loop (m := 2) (x := x) (by decide) h (by simp) (fun i a r hi hr ha => ?_) (fun r => ?_)]
  · rfl
  · unfold laws_toSpot_l1
    simp only
    rw [if_pos (by simp; omega), idx_nat ha]
    simp only [Option.bind_some]
    rw [idx_nat (List.getElem?_eq_getElem (show i < r.length by omega))]
    simp only [Option.bind_some]
    rw [wrap64 (by omega) (by omega)]
    simp
  · rfl
/-- A plain number. -/
def plainB (x : Nat) : Bool := fgeq .f32 x 3379831808 && fleq .f32 x 1232348160
theorem fleq_vl {k : FloatKind} {x y : Nat} (hx : Fn k x) (hy : Fn k y) : fleq k x y = decide (vl k x ≤ vl k y) := by
  unfold fleq
  rw [order_vl hx hy]
  rcases Int.lt_trichotomy (vl k x) (vl k y) with h | h | h
  · rw [Int.compare_eq_lt.2 h, decide_eq_true (by omega)]; rfl
  · rw [Int.compare_eq_eq.2 h, decide_eq_true (by omega)]; rfl
  · rw [Int.compare_eq_gt.2 h, decide_eq_false (by omega)]; rfl
theorem fgeq_vl {k : FloatKind} {x y : Nat} (hx : Fn k x) (hy : Fn k y) : fgeq k x y = decide (vl k y ≤ vl k x) := by
  unfold fgeq
  rw [order_vl hx hy]
  rcases Int.lt_trichotomy (vl k x) (vl k y) with h | h | h
  · rw [Int.compare_eq_lt.2 h, decide_eq_false (by omega)]; rfl
  · rw [Int.compare_eq_eq.2 h, decide_eq_true (by omega)]; rfl
  · rw [Int.compare_eq_gt.2 h, decide_eq_true (by omega)]; rfl
/-- Between two numbers: a number. -/
theorem fn_between {k : FloatKind} {x lo hi : Nat} (hl : Fn k lo) (hh : Fn k hi) (h1 : fgeq k x lo = true) (h2 : fleq k x hi = true) : Fn k x := by
  obtain ⟨s, m, e, hl⟩ := hl
  obtain ⟨t, n, i, hh⟩ := hh
  unfold fgeq at h1
  unfold fleq at h2
  have e1 : k.format.order x lo = (k.decode x).order (k.decode lo) := rfl
  have e2 : k.format.order x hi = (k.decode x).order (k.decode hi) := rfl
  rw [e1, hl] at h1
  rw [e2, hh] at h2
  cases hd : k.decode x with
  | nan a b => rw [hd] at h1; cases h1
  | infinity a =>
    rw [hd] at h1 h2
    cases a with
    | true => cases h1
    | false => cases h2
  | number a b c => exact ⟨a, b, c, hd⟩
theorem bd_vl {k : FloatKind} {x : Nat} (h : Fn k x) {B : Nat} (h1 : vl k x < 2 ^ (B + 1200)) (h2 : -2 ^ (B + 1200) < vl k x) : Bd B (k.decode x) := by
  obtain ⟨s, m, e, hd⟩ := h
  obtain ⟨he, hz⟩ := num_place hd
  unfold vl at h1 h2
  rw [hd] at h1 h2
  have ha : (Ieee.signed s m (e + 1200).toNat).natAbs < 2 ^ (B + 1200) := by
    have h1 : Ieee.signed s m (e + 1200).toNat < 2 ^ (B + 1200) := h1
    have h2 : -2 ^ (B + 1200) < Ieee.signed s m (e + 1200).toNat := h2
    have hc : ((2 ^ (B + 1200) : Nat) : Int) = (2 : Int) ^ (B + 1200) := by push_cast; rfl
    generalize (2 : Int) ^ (B + 1200) = Z at *
    omega
  rw [signed_abs] at ha
  by_cases hm : m = 0
  · exact ⟨s, m, e, 0, hd, by omega, by have := hz hm; omega⟩
  · refine ⟨s, m, e, m.log2 + 1, hd, Nat.lt_log2_self, ?_⟩
    have hs := Nat.log2_self_le hm
    have h3 : 2 ^ (m.log2 + (e + 1200).toNat) ≤ m <<< (e + 1200).toNat := by
      rw [Nat.shiftLeft_eq, Nat.pow_add]
      exact Nat.mul_le_mul_right _ hs
    have h4 := (Nat.pow_lt_pow_iff_right (a := 2) (by decide)).1 (Nat.lt_of_le_of_lt h3 ha)
    omega
/-- The greatest plain number, and its opposite. -/
theorem dec_mx : FloatKind.f32.decode 1232348160 = .number false 16000000 (-4) := by decide +kernel
theorem dec_mn : FloatKind.f32.decode 3379831808 = .number true 16000000 (-4) := by decide +kernel
theorem plain_bd {x : Nat} (h : (fgeq .f32 x 3379831808 && fleq .f32 x 1232348160) = true) : Bd 20 (FloatKind.f32.decode x) := by
  rw [Bool.and_eq_true] at h
  have f1 : Fn .f32 1232348160 := ⟨_, _, _, dec_mx⟩
  have f2 : Fn .f32 3379831808 := ⟨_, _, _, dec_mn⟩
  have fx := fn_between f2 f1 h.1 h.2
  have h1 := h.1
  have h2 := h.2
  rw [fgeq_vl fx f2, decide_eq_true_eq] at h1
  rw [fleq_vl fx f1, decide_eq_true_eq] at h2
  have v1 : vl .f32 1232348160 < 2 ^ (20 + 1200) := by unfold vl; rw [dec_mx]; decide +kernel
  have v2 : -2 ^ (20 + 1200) < vl .f32 3379831808 := by unfold vl; rw [dec_mn]; decide +kernel
  exact bd_vl (B := 20) fx (Int.lt_of_le_of_lt h2 v1) (Int.lt_of_lt_of_le v2 h1)
theorem plainB_bd {x : Nat} (h : plainB x = true) : Bd 20 (FloatKind.f32.decode x) := plain_bd h
theorem arePlain_eq {xs : List Nat} (h : xs.length ≤ 9223372036854775807) : impl_arePlain xs = some (xs.all plainB) := by
  have e : slices_ContainsFunc_float32_float32 xs impl_arePlain_c1 = some (xs.any fun x => !plainB x) := containsOf h fun x _ => rfl
  unfold impl_arePlain
  rw [e]
  simp [List.all_eq_not_any_not]
theorem areSpots_eq {x : List Nat} (h : x.length ≤ 9223372036854775807) : impl_areSpots [x] = some (x.all plainB) := by
  have e : slices_ContainsFunc_Spot_Spot [x] impl_areSpots_c1 = some ([x].any fun x => !x.all plainB) := containsOf (by simp) fun y hy => by
    rw [List.mem_singleton] at hy
    subst hy
    unfold impl_areSpots_c1
    rw [arePlain_eq h]
    rfl
  unfold impl_areSpots
  rw [e]
  simp
theorem list2N {x : List Nat} (h : x.length = 2) : x = [nth x 0, nth x 1] := by
  match x, h with
  | [_, _], _ => rfl
theorem pure_FnExactMarkOf (x0 : (List Nat)) (x1 : Nat) (g0 : (x0.length = 2 ∧ ∀ e1 ∈ x0, (∃ b, e1 = cn .f32 b ∧ b < 2 ^ FloatKind.f32.format.width))) (g1 : (∃ b, x1 = cn .f32 b ∧ b < 2 ^ FloatKind.f32.format.width)) : laws_FnExactMarkOf x0 x1 = some true := by
  have h2 := g0.1
  have hs : spec_MarkOf x0 x1 = (if (plainB (nth x0 0) && plainB (nth x0 1) && plainB x1) = true then (spec_l06MarkOf x0 x1).bind fun y => some (y, 0) else some ([0, 0], 1)) := by
    unfold spec_MarkOf spec_IsPlain
    have e : ∀ x, spec_l01Plain x = some (plainB x) := fun _ => rfl
    simp only [e, Option.bind_some]
    cases plainB (nth x0 0) <;> cases plainB (nth x0 1) <;> cases plainB x1 <;> rfl
  have hi : impl_MarkOf x0 x1 = (if (plainB (nth x0 0) && plainB (nth x0 1) && plainB x1) = true then (impl_markOf x0 x1).bind fun y => some (y, 0) else some ([0, 0], 1)) := by
    have ha : x0.all plainB = (plainB (nth x0 0) && plainB (nth x0 1)) := by rw [list2N h2]; simp [nth]
    unfold impl_MarkOf
    rw [areSpots_eq (by omega), ha]
    have e : impl_IsPlain x1 = some (plainB x1) := rfl
    simp only [e, Option.bind_some]
    cases plainB (nth x0 0) <;> cases plainB (nth x0 1) <;> cases plainB x1 <;> rfl
  have key : ∃ y : List Int × Int, y.1.length = 2 ∧ spec_MarkOf x0 x1 = some y ∧ impl_MarkOf x0 x1 = some y := by
    rw [hs, hi]
    by_cases hp : (plainB (nth x0 0) && plainB (nth x0 1) && plainB x1) = true
    · rw [if_pos hp, if_pos hp]
      simp only [Bool.and_eq_true] at hp
      obtain ⟨y, y1, y2, y3⟩ := markOf_eq (plainB_bd hp.1.1) (plainB_bd hp.1.2) (plainB_bd hp.2)
      exact ⟨(y, 0), y1, by rw [y2]; rfl, by rw [y3]; rfl⟩
    · rw [if_neg hp, if_neg hp]
      exact ⟨([0, 0], 1), rfl, rfl, rfl⟩
  obtain ⟨y, y1, y2, y3⟩ := key
  unfold laws_FnExactMarkOf
  simp only [toSpot_eq h2, y2, y3, eqMark_self y1, Option.bind_some]
  simp
end Go.Proofs.Ytnpkhhfpgedkoaa
