/-
  Floats: what the operations come to, whatever bits a NaN has; functions that the machine brings along.
-/
import Derived.Test.YtnpkhhfpgedkoaaMem
import Derived.Laws.Externs
set_option linter.unusedVariables false
set_option linter.unusedSimpArgs false
namespace Go.Proofs.Ytnpkhhfpgedkoaa
open Go

theorem datum_nan {d : Ieee.Datum} (h : d.isNaN = true) : ∃ s t, d = .nan s t := by
  cases d with
  | nan s t => exact ⟨s, t, rfl⟩
  | number _ _ _ => simp [Ieee.Datum.isNaN] at h
  | infinity _ => simp [Ieee.Datum.isNaN] at h
theorem cn_nan {k : FloatKind} {b : Nat} (h : isNaN k b = true) : cn k b = qnan k := by unfold cn; rw [if_pos h]
theorem cn_num {k : FloatKind} {b : Nat} (h : isNaN k b = false) : cn k b = b := by unfold cn; rw [if_neg (by rw [h]; decide)]
theorem qnan_nan (k : FloatKind) : isNaN k (qnan k) = true := by cases k <;> decide +kernel
theorem isNaN_cn (k : FloatKind) (b : Nat) : isNaN k (cn k b) = isNaN k b := by
  cases h : isNaN k b with
  | true => rw [cn_nan h]; exact qnan_nan k
  | false => rw [cn_num h]; exact h
theorem cn_cn (k : FloatKind) (b : Nat) : cn k (cn k b) = cn k b := by
  cases h : isNaN k b with
  | true => rw [cn_nan h, cn_nan (qnan_nan k)]
  | false => rw [cn_num h, cn_num h]
/-- What does not hang on which NaN it is. -/
theorem un_cn {α : Type} {k : FloatKind} {g : Ieee.Datum → α} (h : ∀ s t s' t', g (.nan s t) = g (.nan s' t')) (b : Nat) : g (k.decode b) = g (k.decode (cn k b)) := by
  cases hb : isNaN k b with
  | false => rw [cn_num hb]
  | true =>
    obtain ⟨s, t, e⟩ := datum_nan (d := k.decode b) hb
    obtain ⟨s', t', e'⟩ := datum_nan (d := k.decode (qnan k)) (qnan_nan k)
    rw [cn_nan hb, e, e']
    exact h _ _ _ _
theorem bin_cn {α : Type} {k : FloatKind} {g : Ieee.Datum → Ieee.Datum → α} (h : ∀ s t s' t' d, g (.nan s t) d = g (.nan s' t') d) (h' : ∀ s t s' t' d, g d (.nan s t) = g d (.nan s' t')) (b c : Nat) : g (k.decode b) (k.decode c) = g (k.decode (cn k b)) (k.decode (cn k c)) := by
  rw [un_cn (k := k) (g := fun d => g d (k.decode c)) (fun s t s' t' => h s t s' t' _) b]
  exact un_cn (k := k) (g := fun d => g (k.decode (cn k b)) d) (fun s t s' t' => h' s t s' t' _) c
theorem add_cn (k : FloatKind) (b c : Nat) : k.format.add b c = k.format.add (cn k b) (cn k c) :=
  bin_cn (k := k) (g := fun d e => (d.sum e).map k.format.write) (fun s t s' t' d => by cases d <;> rfl) (fun s t s' t' d => by cases d <;> rfl) b c
theorem sub_cn (k : FloatKind) (b c : Nat) : k.format.sub b c = k.format.sub (cn k b) (cn k c) :=
  bin_cn (k := k) (g := fun d e => (d.sum e.opposite).map k.format.write) (fun s t s' t' d => by cases d <;> rfl) (fun s t s' t' d => by cases d <;> rfl) b c
theorem mul_cn (k : FloatKind) (b c : Nat) : k.format.mul b c = k.format.mul (cn k b) (cn k c) :=
  bin_cn (k := k) (g := fun d e => (d.product e).map k.format.write) (fun s t s' t' d => by cases d <;> rfl) (fun s t s' t' d => by cases d <;> rfl) b c
theorem div_cn (k : FloatKind) (b c : Nat) : k.format.div b c = k.format.div (cn k b) (cn k c) :=
  bin_cn (k := k) (g := fun d e => (d.quotient (k.format.fractionBits + 2) e).map k.format.write) (fun s t s' t' d => by cases d <;> rfl) (fun s t s' t' d => by cases d <;> rfl) b c
theorem order_cn (k : FloatKind) (b c : Nat) : k.format.order b c = k.format.order (cn k b) (cn k c) :=
  bin_cn (k := k) (g := fun d e => d.order e) (fun s t s' t' d => by cases d <;> rfl) (fun s t s' t' d => by cases d <;> rfl) b c
theorem sqrt_cn (k : FloatKind) (b : Nat) : k.format.sqrt b = k.format.sqrt (cn k b) :=
  un_cn (k := k) (g := fun d => (d.root (k.format.fractionBits + 2)).map k.format.write) (fun s t s' t' => rfl) b
theorem word_lt (k : FloatKind) (neg : Bool) {r : Nat} (h : r < k.format.signWeight) : k.format.word neg r < 2 ^ k.format.width := by
  have e : 2 ^ k.format.width = 2 * k.format.signWeight := by cases k <;> decide +kernel
  unfold Ieee.Format.word
  split <;> omega
theorem write_lt (k : FloatKind) (d : Ieee.Datum) : k.format.write d < 2 ^ k.format.width := by
  have hi : k.format.infRung < k.format.signWeight := by cases k <;> decide +kernel
  have h0 : 0 < k.format.signWeight := by omega
  have hb : k.format.infRung + k.format.binade ≤ k.format.signWeight := by cases k <;> decide +kernel
  have hp : 0 < k.format.binade := by cases k <;> decide +kernel
  cases d with
  | number s m e =>
    show k.format.nearest s m e < _
    unfold Ieee.Format.nearest
    split
    · exact word_lt k s h0
    · exact word_lt k s (by omega)
  | infinity s => exact word_lt k s hi
  | nan s t =>
    refine word_lt k s ?_
    have := Nat.mod_lt t hp
    omega
theorem nan32 (t : Nat) : isNaN .f32 ((t % 2) * 2 ^ 31 + 0x7f800000 + 1 + (t / 2) % (2 ^ 23 - 1)) = true ∧ (t % 2) * 2 ^ 31 + 0x7f800000 + 1 + (t / 2) % (2 ^ 23 - 1) < 2 ^ FloatKind.f32.format.width := by
  have h1 : t % 2 < 2 := Nat.mod_lt _ (by decide)
  have h2 : (t / 2) % (2 ^ 23 - 1) < 2 ^ 23 - 1 := Nat.mod_lt _ (by decide)
  generalize t % 2 = p at *
  generalize (t / 2) % (2 ^ 23 - 1) = q at *
  have hw : 2 ^ FloatKind.f32.format.width = 4294967296 := by decide +kernel
  refine ⟨?_, by rw [hw]; simp at h2; omega⟩
  unfold isNaN FloatKind.decode Ieee.Format.read
  have e1 : FloatKind.f32.format.signWeight = 2147483648 := by decide +kernel
  have e2 : FloatKind.f32.format.binade = 8388608 := by decide +kernel
  have e3 : FloatKind.f32.format.infRung = 2139095040 := by decide +kernel
  have hr : (p * 2 ^ 31 + 0x7f800000 + 1 + q) % 2147483648 = 2139095041 + q := by simp at h2; omega
  simp only [e1, e2, e3, hr]
  rw [if_neg (by omega), if_neg (by omega), if_neg (by omega)]
  rfl
theorem nan64 (t : Nat) : isNaN .f64 ((t % 2) * 2 ^ 63 + 0x7ff0000000000000 + 1 + (t / 2) % (2 ^ 52 - 1)) = true ∧ (t % 2) * 2 ^ 63 + 0x7ff0000000000000 + 1 + (t / 2) % (2 ^ 52 - 1) < 2 ^ FloatKind.f64.format.width := by
  have h1 : t % 2 < 2 := Nat.mod_lt _ (by decide)
  have h2 : (t / 2) % (2 ^ 52 - 1) < 2 ^ 52 - 1 := Nat.mod_lt _ (by decide)
  generalize t % 2 = p at *
  generalize (t / 2) % (2 ^ 52 - 1) = q at *
  have hw : 2 ^ FloatKind.f64.format.width = 18446744073709551616 := by decide +kernel
  refine ⟨?_, by rw [hw]; simp at h2; omega⟩
  unfold isNaN FloatKind.decode Ieee.Format.read
  have e1 : FloatKind.f64.format.signWeight = 9223372036854775808 := by decide +kernel
  have e2 : FloatKind.f64.format.binade = 4503599627370496 := by decide +kernel
  have e3 : FloatKind.f64.format.infRung = 9218868437227405312 := by decide +kernel
  have hr : (p * 2 ^ 63 + 0x7ff0000000000000 + 1 + q) % 9223372036854775808 = 9218868437227405313 + q := by simp at h2; omega
  simp only [e1, e2, e3, hr]
  rw [if_neg (by omega), if_neg (by omega), if_neg (by omega)]
  rfl
theorem nanBits_ok (k : FloatKind) (x y t : Nat) : isNaN k ((Question.nanBits k x y).cut t) = true ∧ (Question.nanBits k x y).cut t < 2 ^ k.format.width := by
  cases k with
  | f32 => exact nan32 t
  | f64 => exact nan64 t
theorem nanConv_ok (k : FloatKind) (x t : Nat) : isNaN k ((Question.nanConv k x).cut t) = true ∧ (Question.nanConv k x).cut t < 2 ^ k.format.width := by
  cases k with
  | f32 => exact nan32 t
  | f64 => exact nan64 t

section
variable {P : Program} {ρ : Heap} {w : World} {a : Act} {ty : TypeId}
theorem mk_float {k : FloatKind} {b x : Nat} (h : b < 2 ^ k.format.width) (e : cn k b = x) : (TF k).val ρ (.float k b) x := Ty.val_of_one rfl ⟨b, rfl, e, h⟩
theorem vF {k : FloatKind} {b : Nat} (h : (decide (b < 2 ^ k.format.width) && decide (cn k b = b)) = true) : (TF k).val ρ (.float k b) b := by
  simp only [Bool.and_eq_true, decide_eq_true_eq] at h
  exact mk_float h.1 h.2
theorem run_bin_float {op : BinOp} {T U : TypeId} {X Y : Operand} {k : FloatKind} {x y : Nat} {v : Value} {w' : World} (hx : a.eval X = .float k x) (hy : a.eval Y = .float k y)
    (h : (binOp op T (.float k x) (.float k y)).run P w = .ok v w') : ∀ dst pos after guard, (execOp a.eval ⟨dst, .binOp op T X Y U, ty, pos, after, guard⟩).run P w = .ok (.value v) w' := by
  intro dst pos after guard
  have hg : (eqGuard op T X Y (.float k x) (.float k y)).run P w = .ok () w := by
    unfold eqGuard
    cases op <;> rfl
  simp only [execOp, hx, hy, Sem.run_bind, hg, Result.andThen, h]
  rfl
/-- A float or, where there is no answer, some NaN. -/
def outS (k : FloatKind) (b c : Nat) (o : Option Nat) : Sem Value := match o with
  | some r => pure (.float k r)
  | none => do pure (.float k (← choose (.nanBits k b c)))
theorem run_out {k : FloatKind} {b c : Nat} {o : Option Nat} (h : ∀ r, o = some r → r < 2 ^ k.format.width) : ∃ v w', (outS k b c o).run P w = .ok v w' ∧ BelowX [] w w' ∧ (TF k).val ρ v (fout k o) := by
  cases o with
  | some r => exact ⟨_, w, rfl, BelowX.refl _ _, mk_float (h r rfl) rfl⟩
  | none =>
    have hq := nanBits_ok k b c (w.tape w.drawn (.nanBits k b c))
    refine ⟨_, _, ?_, BelowX.drawn _ _ (w.drawn + 1), mk_float hq.2 (cn_nan hq.1)⟩
    unfold outS
    simp only [Sem.run_bind, run_choose]
    rfl
theorem map_lt {k : FloatKind} {o : Option Ieee.Datum} : ∀ r, o.map k.format.write = some r → r < 2 ^ k.format.width := by
  intro r hr
  cases o with
  | none => cases hr
  | some d => simp at hr; subst hr; exact write_lt k d
theorem d_fbin {op : BinOp} {T U : TypeId} {X Y : Operand} {k : FloatKind} {x y b c : Nat} {o : Option Nat} (hx : a.eval X = .float k b) (hy : a.eval Y = .float k c) (ho : ∀ r, o = some r → r < 2 ^ k.format.width)
    (hb : binOp op T (.float k b) (.float k c) = outS k b c o) : Does P ρ w (.binOp op T X Y U) ty a ((TF k).sv (fout k o)) := by
  obtain ⟨v, w', h1, h2, h3⟩ := run_out (P := P) (ρ := ρ) (w := w) (k := k) (b := b) (c := c) ho
  exact does_of (run_bin_float hx hy (by rw [hb]; exact h1)) h2 h3
theorem arith_out (op : BinOp) (k : FloatKind) (b c : Nat) (o : Option Nat) (h : Op.floatArith op k b c = (do let result ← (pure o : Sem (Option Nat)); match result with | some r => pure (.float k r) | none => pure (.float k (← choose (.nanBits k b c))))) : Op.floatArith op k b c = outS k b c o := by
  rw [h]
  cases o <;> rfl
theorem d_fadd {T U : TypeId} {X Y : Operand} {k : FloatKind} {x y : Nat} (hx : (TF k).val ρ (a.eval X) x) (hy : (TF k).val ρ (a.eval Y) y) : Does P ρ w (.binOp .add T X Y U) ty a ((TF k).sv (fadd k x y)) := by
  obtain ⟨b, h1, rfl, _⟩ := val_float hx
  obtain ⟨c, h2, rfl, _⟩ := val_float hy
  unfold fadd
  rw [← add_cn]
  exact d_fbin (x := 0) (y := 0) h1 h2 map_lt (by simp only [binOp]; rw [if_neg (by simp)]; exact arith_out _ _ _ _ _ rfl)
theorem d_fsub {T U : TypeId} {X Y : Operand} {k : FloatKind} {x y : Nat} (hx : (TF k).val ρ (a.eval X) x) (hy : (TF k).val ρ (a.eval Y) y) : Does P ρ w (.binOp .sub T X Y U) ty a ((TF k).sv (fsub k x y)) := by
  obtain ⟨b, h1, rfl, _⟩ := val_float hx
  obtain ⟨c, h2, rfl, _⟩ := val_float hy
  unfold fsub
  rw [← sub_cn]
  exact d_fbin (x := 0) (y := 0) h1 h2 map_lt (by simp only [binOp]; rw [if_neg (by simp)]; exact arith_out _ _ _ _ _ rfl)
theorem d_fmul {T U : TypeId} {X Y : Operand} {k : FloatKind} {x y : Nat} (hx : (TF k).val ρ (a.eval X) x) (hy : (TF k).val ρ (a.eval Y) y) : Does P ρ w (.binOp .mul T X Y U) ty a ((TF k).sv (fmul k x y)) := by
  obtain ⟨b, h1, rfl, _⟩ := val_float hx
  obtain ⟨c, h2, rfl, _⟩ := val_float hy
  unfold fmul
  rw [← mul_cn]
  exact d_fbin (x := 0) (y := 0) h1 h2 map_lt (by simp only [binOp]; rw [if_neg (by simp)]; exact arith_out _ _ _ _ _ rfl)
theorem d_fdiv {T U : TypeId} {X Y : Operand} {k : FloatKind} {x y : Nat} (hx : (TF k).val ρ (a.eval X) x) (hy : (TF k).val ρ (a.eval Y) y) : Does P ρ w (.binOp .quo T X Y U) ty a ((TF k).sv (fdiv k x y)) := by
  obtain ⟨b, h1, rfl, _⟩ := val_float hx
  obtain ⟨c, h2, rfl, _⟩ := val_float hy
  unfold fdiv
  rw [← div_cn]
  exact d_fbin (x := 0) (y := 0) h1 h2 map_lt (by simp only [binOp]; rw [if_neg (by simp)]; exact arith_out _ _ _ _ _ rfl)
theorem d_fcmp {op : BinOp} {T U : TypeId} {X Y : Operand} {k : FloatKind} {x y : Nat} {f : Nat → Nat → Bool} (hf : ∀ b c, f (cn k b) (cn k c) = f b c) (hb : ∀ b c, binOp op T (.float k b) (.float k c) = pure (.bool (f b c))) (hx : (TF k).val ρ (a.eval X) x) (hy : (TF k).val ρ (a.eval Y) y) :
    Does P ρ w (.binOp op T X Y U) ty a (TB.sv (f x y)) := by
  obtain ⟨b, h1, rfl, _⟩ := val_float hx
  obtain ⟨c, h2, rfl, _⟩ := val_float hy
  rw [hf]
  exact does_same (run_bin_float (w' := w) h1 h2 (by rw [hb]; rfl)) (vB _)
theorem d_feql {T U : TypeId} {X Y : Operand} {k : FloatKind} {x y : Nat} (hx : (TF k).val ρ (a.eval X) x) (hy : (TF k).val ρ (a.eval Y) y) : Does P ρ w (.binOp .eql T X Y U) ty a (TB.sv (feql k x y)) :=
  d_fcmp (f := feql k) (fun b c => by unfold feql; rw [← order_cn]) (fun b c => by unfold feql; simp only [binOp]; rw [if_neg (by simp)]; rfl) hx hy
theorem d_fneq {T U : TypeId} {X Y : Operand} {k : FloatKind} {x y : Nat} (hx : (TF k).val ρ (a.eval X) x) (hy : (TF k).val ρ (a.eval Y) y) : Does P ρ w (.binOp .neq T X Y U) ty a (TB.sv (fneq k x y)) :=
  d_fcmp (f := fneq k) (fun b c => by unfold fneq; rw [← order_cn]) (fun b c => by unfold fneq; simp only [binOp]; rw [if_neg (by simp)]; rfl) hx hy
theorem d_flss {T U : TypeId} {X Y : Operand} {k : FloatKind} {x y : Nat} (hx : (TF k).val ρ (a.eval X) x) (hy : (TF k).val ρ (a.eval Y) y) : Does P ρ w (.binOp .lss T X Y U) ty a (TB.sv (flss k x y)) :=
  d_fcmp (f := flss k) (fun b c => by unfold flss; rw [← order_cn]) (fun b c => by unfold flss; simp only [binOp]; rw [if_neg (by simp)]; rfl) hx hy
theorem d_fleq {T U : TypeId} {X Y : Operand} {k : FloatKind} {x y : Nat} (hx : (TF k).val ρ (a.eval X) x) (hy : (TF k).val ρ (a.eval Y) y) : Does P ρ w (.binOp .leq T X Y U) ty a (TB.sv (fleq k x y)) :=
  d_fcmp (f := fleq k) (fun b c => by unfold fleq; rw [← order_cn]) (fun b c => by unfold fleq; simp only [binOp]; rw [if_neg (by simp)]; rfl) hx hy
theorem d_fgtr {T U : TypeId} {X Y : Operand} {k : FloatKind} {x y : Nat} (hx : (TF k).val ρ (a.eval X) x) (hy : (TF k).val ρ (a.eval Y) y) : Does P ρ w (.binOp .gtr T X Y U) ty a (TB.sv (fgtr k x y)) :=
  d_fcmp (f := fgtr k) (fun b c => by unfold fgtr; rw [← order_cn]) (fun b c => by unfold fgtr; simp only [binOp]; rw [if_neg (by simp)]; rfl) hx hy
theorem d_fgeq {T U : TypeId} {X Y : Operand} {k : FloatKind} {x y : Nat} (hx : (TF k).val ρ (a.eval X) x) (hy : (TF k).val ρ (a.eval Y) y) : Does P ρ w (.binOp .geq T X Y U) ty a (TB.sv (fgeq k x y)) :=
  d_fcmp (f := fgeq k) (fun b c => by unfold fgeq; rw [← order_cn]) (fun b c => by unfold fgeq; simp only [binOp]; rw [if_neg (by simp)]; rfl) hx hy
theorem sign_pos (k : FloatKind) : 2 ^ (k.format.exponentBits + k.format.fractionBits) = k.format.signWeight := rfl
theorem neg_nan {k : FloatKind} {b : Nat} : isNaN k (b ^^^ 2 ^ (k.format.exponentBits + k.format.fractionBits)) = isNaN k b := by
  have hm : (b ^^^ 2 ^ (k.format.exponentBits + k.format.fractionBits)) % k.format.signWeight = b % k.format.signWeight := by
    rw [← sign_pos, Nat.xor_mod_two_pow, Nat.mod_self, Nat.xor_zero]
  unfold isNaN FloatKind.decode Ieee.Format.read
  simp only [hm]
  (repeat' split) <;> rfl
theorem neg_lt {k : FloatKind} {b : Nat} (h : b < 2 ^ k.format.width) : b ^^^ 2 ^ (k.format.exponentBits + k.format.fractionBits) < 2 ^ k.format.width := by
  refine Nat.xor_lt_two_pow h ?_
  refine Nat.pow_lt_pow_right (by decide) ?_
  unfold Ieee.Format.width
  omega
theorem d_fneg {T : TypeId} {X : Operand} {k : FloatKind} {x : Nat} (hx : (TF k).val ρ (a.eval X) x) : Does P ρ w (.unOp .neg T X) ty a ((TF k).sv (fneg k x)) := by
  obtain ⟨b, h1, rfl, h3⟩ := val_float hx
  refine does_same (v := .float k (Op.negFloat k b)) (fun _ _ _ _ => by simp only [execOp, h1]; rfl) (mk_float (neg_lt h3) ?_)
  unfold fneg Op.negFloat
  cases hn : isNaN k b with
  | true => rw [cn_nan (by rw [neg_nan]; exact hn), cn_nan hn, cn_nan (by rw [neg_nan]; exact qnan_nan k)]
  | false => rw [cn_num hn]

/-! ### Conversions -/
theorem run_conv {S D : TypeId} {X : Operand} {v u : Value} {w' : World} (hX : a.eval X = u) (h : (convert S D u).run P w = .ok v w') : ∀ dst pos after guard, (execOp a.eval ⟨dst, .convert S D X, ty, pos, after, guard⟩).run P w = .ok (.value v) w' := by
  intro _ _ _ _
  simp only [execOp, hX, Sem.run_bind, h, Result.andThen]
  rfl
theorem conv_ff {S D : TypeId} {j k : FloatKind} {b : Nat} (hs : P.underlying S = some (.float j)) (hd : P.underlying D = some (.float k)) : (convert S D (.float j b)).run P w = (Conv.floatToFloat j b k).run P w := by
  simp only [convert, Sem.run_bind, run_underlying hs, run_underlying hd, Result.andThen]
theorem d_fsame {S D : TypeId} {X : Operand} {k : FloatKind} {x : Nat} (hs : P.underlying S = some (.float k)) (hd : P.underlying D = some (.float k)) (hx : (TF k).val ρ (a.eval X) x) : Does P ρ w (.convert S D X) ty a ((TF k).sv x) := by
  obtain ⟨b, h1, rfl, h3⟩ := val_float hx
  exact does_same (run_conv (w' := w) h1 (by rw [conv_ff hs hd]; simp [Conv.floatToFloat])) (mk_float h3 rfl)
theorem d_fconv {S D : TypeId} {X : Operand} {j k : FloatKind} {x y : Nat} (hs : P.underlying S = some (.float j)) (hd : P.underlying D = some (.float k)) (hjk : decide (j = k) = false) (hx : (TF j).val ρ (a.eval X) x) (hy : fconv j k x = some y) : Does P ρ w (.convert S D X) ty a ((TF k).sv y) := by
  obtain ⟨b, h1, rfl, h3⟩ := val_float hx
  have hjk : j ≠ k := by simpa using hjk
  have hy' : fconv j k b = some y := by
    rw [← hy]
    unfold fconv
    exact un_cn (k := j) (g := fun d => match d with | .nan _ _ => some (qnan k) | .infinity s => some (cn k (k.encode (.infinity s))) | .number s m e => if (k.decode (k.encode (.number s m e))).isInfinity then none else some (cn k (k.encode (.number s m e)))) (fun _ _ _ _ => rfl) b
  unfold fconv at hy'
  cases hd' : j.decode b with
  | nan s t =>
    rw [hd'] at hy'
    simp only [Option.some.injEq] at hy'
    have hq := nanConv_ok k b (w.tape w.drawn (.nanConv k b))
    refine does_of (w' := { w with drawn := w.drawn + 1 }) (run_conv h1 ?_) (BelowX.drawn _ _ (w.drawn + 1)) (mk_float hq.2 ((cn_nan hq.1).trans hy'))
    rw [conv_ff hs hd]
    unfold Conv.floatToFloat
    rw [if_neg hjk, hd']
    simp only [Sem.run_bind, run_choose]
    rfl
  | infinity s =>
    rw [hd'] at hy'
    simp only [Option.some.injEq] at hy'
    refine does_same (run_conv (w' := w) h1 ?_) (mk_float (write_lt k (.infinity s)) hy')
    rw [conv_ff hs hd]
    unfold Conv.floatToFloat
    rw [if_neg hjk, hd']
    rfl
  | number s m e =>
    rw [hd'] at hy'
    simp only at hy'
    split at hy'
    · cases hy'
    · rename_i hi
      simp only [Option.some.injEq] at hy'
      refine does_same (run_conv (w' := w) h1 ?_) (mk_float (write_lt k (.number s m e)) hy')
      rw [conv_ff hs hd]
      unfold Conv.floatToFloat
      rw [if_neg hjk, hd']
      simp only
      rw [if_neg hi]
      rfl
theorem d_fofI {S D : TypeId} {X : Operand} {j : IntKind} {k : FloatKind} {n : Int} (hs : P.underlying S = some (.int j)) (hd : P.underlying D = some (.float k)) (hx : (TI j).val ρ (a.eval X) n) : Does P ρ w (.convert S D X) ty a ((TF k).sv (fofI k n)) := by
  refine does_same (v := .float k (k.nearest n)) (run_conv (w' := w) (val_int hx).1 ?_) (mk_float (show k.encode _ < _ from write_lt k _) (by unfold fofI; rfl))
  simp only [convert, Sem.run_bind, run_underlying hs, run_underlying hd, Result.andThen]
  rfl
theorem d_ftoI {S D : TypeId} {X : Operand} {j : FloatKind} {k : IntKind} {x : Nat} {n : Int} (hs : P.underlying S = some (.float j)) (hd : P.underlying D = some (.int k)) (hx : (TF j).val ρ (a.eval X) x) (hn : ftoI j k x = some n) : Does P ρ w (.convert S D X) ty a ((TI k).sv n) := by
  obtain ⟨b, h1, rfl, h3⟩ := val_float hx
  have hn' : ftoI j k b = some n := by
    rw [← hn]
    unfold ftoI
    exact un_cn (k := j) (g := fun d => match d.toInt .zero with | some n => if k.min ≤ n ∧ n ≤ k.max then some n else none | none => none) (fun _ _ _ _ => rfl) b
  unfold ftoI at hn'
  cases ht : (j.decode b).toInt .zero with
  | none => rw [ht] at hn'; cases hn'
  | some m =>
    rw [ht] at hn'
    simp only at hn'
    split at hn'
    · rename_i hr
      cases hn'
      refine does_same (v := .int k n) (run_conv (w' := w) h1 ?_) (mk_int hr.1 hr.2)
      simp only [convert, Sem.run_bind, run_underlying hs, run_underlying hd, Result.andThen, Conv.floatToInt, ht]
      rw [if_pos hr]
      rfl
    · cases hn'

/-! ### Functions that the machine brings along -/
def ExtIs (P : Program) (f : FuncId) (e : Array Value → Sem Value) : Prop := ∀ args w, (callFunc f args).run P w = ((e args).run P w).andThen fun v w' => .ok (.value v) w'
theorem d_ext {f : FuncId} {e : Array Value → Sem Value} {args : Array Operand} {ts : Array TypeId} {vs : Array Value} {v : Value} {w' : World} {R : SRel} (hf : ExtIs P f e) (hv : args.map a.eval = vs) (hr : (e vs).run P w = .ok v w') (hb : BelowX [] w w') (hR : R.p ρ v) :
    Does P ρ w (.call { callee := .value (.func f), args := args, argTypes := ts }) ty a R := by
  refine does_of (v := v) (w' := w') (fun dst pos after guard => ?_) hb hR
  simp only [execOp, resolve, Sem.run_bind, hv]
  simp [Deferred.ofValue, Act.eval, invoke, Result.andThen]
  rw [hf vs w, hr]
  rfl
theorem d_bits32 {f : FuncId} {X : Operand} {ts : Array TypeId} {x : Nat} (hf : ExtIs P f Extern.MathFloatBits.float32bits) (hx : (TF .f32).val ρ (a.eval X) x) (hn : (!isNaN .f32 x) = true) :
    Does P ρ w (.call { callee := .value (.func f), args := #[X], argTypes := ts }) ty a ((TI .u32).sv (x : Int)) := by
  obtain ⟨b, h1, h2, h3⟩ := val_float hx
  have hn : isNaN .f32 x = false := by simpa using hn
  have hb : isNaN .f32 b = false := by rw [← isNaN_cn, h2]; exact hn
  rw [cn_num hb] at h2
  subst h2
  have hw : 2 ^ FloatKind.f32.format.width = 4294967296 := by decide +kernel
  rw [hw] at h3
  have m1 : IntKind.u32.min = 0 := by decide
  have m2 : IntKind.u32.max = 4294967295 := by decide
  exact d_ext (w' := w) (v := .int .u32 (b : Int)) hf (mapA1.trans (by rw [h1])) rfl (BelowX.refl _ _) (mk_int (by omega) (by omega))
theorem sqrt_entry (b : Nat) : Extern.MathSqrt.sqrt #[.float .f64 b] = outS .f64 b b (FloatKind.f64.format.sqrt b) := by
  have e : Extern.MathSqrt.sqrt #[.float .f64 b] = (match FloatKind.f64.format.sqrt b with | some r => pure (.float .f64 r) | none => do pure (.float .f64 (← choose (.nanBits .f64 b b)))) := rfl
  rw [e]
  cases FloatKind.f64.format.sqrt b <;> rfl
theorem floor_entry (n : String) (way : Ieee.Toward) (b : Nat) : Extern.MathFloor.toIntegral n way #[.float .f64 b] = (match FloatKind.f64.decode b with
    | .nan s t => if FloatKind.f64.format.quiet t = t then pure (.float .f64 b) else do
      let kept ← choose (.extern "math.Floor,Ceil,Trunc,RoundToEven.signallingNaN kept" 2)
      pure (.float .f64 (if kept == 1 then b else FloatKind.f64.encode (.nan s (FloatKind.f64.format.quiet t))))
    | d => pure (.float .f64 (FloatKind.f64.encode (d.integral way)))) := rfl
theorem d_sqrt {f : FuncId} {X : Operand} {ts : Array TypeId} {x : Nat} (hf : ExtIs P f Extern.MathSqrt.sqrt) (hx : (TF .f64).val ρ (a.eval X) x) :
    Does P ρ w (.call { callee := .value (.func f), args := #[X], argTypes := ts }) ty a ((TF .f64).sv (fsqrt .f64 x)) := by
  obtain ⟨b, h1, rfl, h3⟩ := val_float hx
  unfold fsqrt
  rw [← sqrt_cn]
  obtain ⟨v, w', k1, k2, k3⟩ := run_out (P := P) (ρ := ρ) (w := w) (k := .f64) (b := b) (c := b) (o := FloatKind.f64.format.sqrt b) map_lt
  refine d_ext hf (mapA1.trans (by rw [h1])) ?_ k2 k3
  rw [← k1]
  exact congrArg (fun s => Sem.run P s w) (sqrt_entry b)
theorem quiet_nan (s : Bool) {t b : Nat} (h : FloatKind.f64.decode b = .nan s t) : isNaN .f64 (FloatKind.f64.encode (.nan s (FloatKind.f64.format.quiet t))) = true := by
  have e1 : FloatKind.f64.format.signWeight = 9223372036854775808 := by decide +kernel
  have e2 : FloatKind.f64.format.binade = 4503599627370496 := by decide +kernel
  have e3 : FloatKind.f64.format.infRung = 9218868437227405312 := by decide +kernel
  have ht : t ≠ 0 ∧ t < 4503599627370496 := by
    unfold FloatKind.decode Ieee.Format.read at h
    simp only [e1, e2, e3] at h
    split at h
    · cases h
    · split at h
      · cases h
      · split at h
        · cases h
        · simp only [Ieee.Datum.nan.injEq] at h
          have := Nat.mod_lt b (show 0 < 9223372036854775808 by decide)
          omega
  have hq : FloatKind.f64.format.quiet t < 4503599627370496 := by
    have : FloatKind.f64.format.quiet t = t ||| 2 ^ 51 := rfl
    rw [this]
    exact Nat.or_lt_two_pow (n := 52) (by simpa using ht.2) (by decide)
  have hq0 : FloatKind.f64.format.quiet t ≠ 0 := by
    have : FloatKind.f64.format.quiet t = t ||| 2 ^ 51 := rfl
    rw [this]
    intro h0
    exact ht.1 (Nat.or_eq_zero_iff.1 h0).1
  generalize FloatKind.f64.format.quiet t = q at *
  unfold isNaN FloatKind.decode FloatKind.encode Ieee.Format.write Ieee.Format.word Ieee.Format.read
  have hqm : q % 4503599627370496 = q := Nat.mod_eq_of_lt hq
  have hr : ((if s = true then 9223372036854775808 + (9218868437227405312 + q) else 9218868437227405312 + q) % 9223372036854775808) = 9218868437227405312 + q := by
    split <;> omega
  simp only [e1, e2, e3, hqm, hr]
  rw [if_neg (by omega), if_neg (by omega), if_neg (by omega)]
  rfl
theorem d_floor {f : FuncId} {X : Operand} {ts : Array TypeId} {x : Nat} (hf : ExtIs P f (Extern.MathFloor.toIntegral "math.archFloor" .down)) (hx : (TF .f64).val ρ (a.eval X) x) :
    Does P ρ w (.call { callee := .value (.func f), args := #[X], argTypes := ts }) ty a ((TF .f64).sv (ffloor x)) := by
  obtain ⟨b, h1, rfl, h3⟩ := val_float hx
  have e : ffloor (cn .f64 b) = ffloor b := by
    unfold ffloor
    exact (un_cn (k := .f64) (g := fun d => match d with | .nan _ _ => qnan .f64 | d => cn .f64 (FloatKind.f64.encode (d.integral .down))) (fun _ _ _ _ => rfl) b).symm
  rw [e]
  have hm : (#[X].map a.eval) = #[.float .f64 b] := mapA1.trans (by rw [h1])
  cases hd : FloatKind.f64.decode b with
  | number s m i =>
    have e2 : ffloor b = cn .f64 (FloatKind.f64.encode ((Ieee.Datum.number s m i).integral .down)) := by unfold ffloor; rw [hd]
    rw [e2]
    refine d_ext (w' := w) hf hm ?_ (BelowX.refl _ _) (mk_float (write_lt .f64 _) rfl)
    rw [floor_entry, hd]
    rfl
  | infinity s =>
    have e2 : ffloor b = cn .f64 (FloatKind.f64.encode ((Ieee.Datum.infinity s).integral .down)) := by unfold ffloor; rw [hd]
    rw [e2]
    refine d_ext (w' := w) hf hm ?_ (BelowX.refl _ _) (mk_float (write_lt .f64 _) rfl)
    rw [floor_entry, hd]
    rfl
  | nan s t =>
    have e2 : ffloor b = qnan .f64 := by unfold ffloor; rw [hd]
    have hbn : isNaN .f64 b = true := by unfold isNaN; rw [hd]; rfl
    rw [e2]
    by_cases hq : FloatKind.f64.format.quiet t = t
    · refine d_ext (w' := w) hf hm ?_ (BelowX.refl _ _) (mk_float h3 (cn_nan hbn))
      rw [floor_entry, hd]
      simp only
      rw [if_pos hq]
      rfl
    · have hqn := quiet_nan s hd
      have hr : ∃ v, (Extern.MathFloor.toIntegral "math.archFloor" .down #[.float .f64 b]).run P w = .ok (.float .f64 v) { w with drawn := w.drawn + 1 } ∧ v < 2 ^ FloatKind.f64.format.width ∧ cn .f64 v = qnan .f64 := by
        rw [floor_entry, hd]
        simp only
        rw [if_neg hq]
        simp only [Sem.run_bind, run_choose]
        refine ⟨_, rfl, ?_, ?_⟩
        · split
          · exact h3
          · exact write_lt .f64 _
        · split
          · exact cn_nan hbn
          · exact cn_nan hqn
      obtain ⟨v, r1, r2, r3⟩ := hr
      exact d_ext hf hm r1 (BelowX.drawn _ _ _) (mk_float r2 r3)
end
end Go.Proofs.Ytnpkhhfpgedkoaa
