/-
  A region whose last steps are in turn, but for one operation that may come behind the first of them.
-/
import Derived.Test.YtnpkhhfpgedkoaaRegion
set_option linter.unusedVariables false
set_option linter.unusedSimpArgs false
namespace Go.Proofs.Ytnpkhhfpgedkoaa
open Go

/-- All before the n-th but the p-th are ahead of the n-th; all before are ahead of each that is behind it. -/
def tailB (n p : Nat) (ancs : List Nat) : Bool :=
  decide (p < n) && decide (n < ancs.length) && ((ancs.getD n 0 ||| 2 ^ p ||| (2 ^ n - 1)) == (ancs.getD n 0 ||| 2 ^ p)) &&
  ((List.range ancs.length).all fun i => decide (i ≤ n) || ((ancs.getD i 0 ||| (2 ^ i - 1)) == ancs.getD i 0))
theorem tail_n {n p : Nat} {ancs : List Nat} (h : tailB n p ancs = true) {j : Nat} (hj : j < n) (hp : j ≠ p) : (ancs.getD n 0).testBit j = true := by
  simp only [tailB, Bool.and_eq_true, decide_eq_true_eq, beq_iff_eq] at h
  have h2 := h.1.2
  have : (ancs.getD n 0 ||| 2 ^ p ||| (2 ^ n - 1)).testBit j = true := by
    rw [Nat.testBit_or, Nat.testBit_two_pow_sub_one]; simp [hj]
  rw [h2, Nat.testBit_or, Nat.testBit_two_pow] at this
  simpa [Ne.symm hp] using this
theorem tail_i {n p : Nat} {ancs : List Nat} (h : tailB n p ancs = true) {i j : Nat} (hi : n < i) (hs : i < ancs.length) (hj : j < i) : (ancs.getD i 0).testBit j = true := by
  simp only [tailB, Bool.and_eq_true, List.all_eq_true, List.mem_range, Bool.or_eq_true, decide_eq_true_eq, beq_iff_eq] at h
  have h2 := (h.2 i hs).resolve_left (by omega)
  rw [← h2, Nat.testBit_or, Nat.testBit_two_pow_sub_one]
  simp [hj]

section
variable {P : Program} {C : Ctx} {Γ : Nat → SRel} {H : Nat → Res} {Q : Exit → Act → World → Prop} {ops : Array Oper} {n p : Nat} {ds ancs : List Nat} {ss : List ASpec}

theorem pre_of (hcf : chkFrom n C.n ds ancs false 0 ops.toList = true) : ∀ j (o : Oper), ops[j]? = some o → ∀ e, e ∈ o.after.toList → Region.binds .any e = true → e.on < j := by
  intro j o hj e he hb
  have hk := chkFrom_get hcf j o (by simpa using hj)
  simp only [Nat.zero_add, chkOp, Bool.and_eq_true, beq_iff_eq, List.all_eq_true] at hk
  have := hk.1.1 e he
  simpa [hb] using this
/-- From somewhere on all in turn. -/
theorem inv_tail (hc : chk ops.toList n C.n ds ancs ss false = true) (m0 : Nat) (ht : ∀ i j, m0 < i → i < ops.size → j < i → (ancs.getD i 0).testBit j = true) : ∀ fuel m (L : Array Bool) a w, L.size = ops.size → (∀ j, j < ops.size → (L.getD j true = true ↔ j < m)) → m + fuel = ops.size → m0 ≤ m →
    wpList P ops Q (ops.toList.drop m) a w → wpAny P .any ops Q fuel L a w := by
  have hc' := hc
  simp only [chk, Bool.and_eq_true, decide_eq_true_eq, beq_iff_eq] at hc'
  obtain ⟨⟨⟨⟨⟨⟨hsz, _⟩, hss⟩, hds⟩, hnd⟩, hal⟩, hcf⟩ := hc'
  intro fuel
  induction fuel with
  | zero =>
    intro m L a w hLs hL hm hnm h
    rw [List.drop_eq_nil_of_le (by simp; omega)] at h
    refine ⟨?_, h⟩
    rw [List.eq_nil_iff_forall_not_mem]
    intro i hi
    obtain ⟨h1, h2, _⟩ := mem_ready hi
    have := (hL i h1).2 (by omega)
    rw [this] at h2; cases h2
  | succ fuel ih =>
    intro m L a w hLs hL hm hnm h
    have hms : m < ops.size := by omega
    have LD : ∀ j, j < ops.size → L.getD j false = L.getD j true := fun j hj => by
      simp [Array.getD_eq_getD_getElem?, Array.getElem?_eq_getElem (show j < L.size by omega)]
    have hpre := pre_of (C := C) hcf
    refine ⟨fun hr => ?_, fun i hi => ?_⟩
    · exfalso
      have : m ∈ Region.ready .any ops L := ready_of hms (by
          cases hx : L.getD m true with
          | false => rfl
          | true => have := (hL m hms).1 hx; omega) (fun o ho e he hb => by
          have hlt := hpre m o ho e he hb
          rw [LD _ (by omega)]
          exact (hL _ (by omega)).2 hlt)
      rw [hr] at this; cases this
    · obtain ⟨h1, h2, h3⟩ := mem_ready hi
      have hmi : m ≤ i := by
        rcases Nat.lt_or_ge i m with hlt | hge
        · have := (hL i h1).2 hlt; rw [this] at h2; cases h2
        · exact hge
      have ho : ops[i]? = some ops[i] := Array.getElem?_eq_getElem h1
      have him : i = m := by
        rcases Nat.lt_or_ge m i with hlt | hge
        · exfalso
          have hb : (ancs.getD i 0).testBit m = true := ht i m (by omega) h1 hlt
          have hcl : Closed ops (fun j => j < m) := fun j o hj ho' e he hb => by have := hpre j o ho' e he hb; omega
          have hdue : Due ops (fun j => j < m) i := fun o ho' e he hb => by
            have hlt' := hpre i o ho' e he hb
            have := h3 o ho' e he hb
            rw [LD _ (by omega)] at this
            exact (hL _ (by omega)).1 this
          have := due_anc (n := n) (draw := false) hcf hcl hdue ho hb
          omega
        · omega
      subst him
      rw [List.drop_eq_getElem_cons (by simpa using h1)] at h
      refine wpOp_mono ?_ (wpOp_list (by simp) h)
      intro a' w' h'
      refine ih (i + 1) _ a' w' (by simpa using hLs) (fun j hj => ?_) (by omega) (by omega) h'
      rw [getD_set_true (by omega)]
      by_cases hj' : j = i
      · subst hj'; simp
      · rw [if_neg hj', hL j hj]; omega

theorem count_left {L : Array Bool} {m : Nat} (h : ∀ j, j < ops.size → (L.getD j true = true ↔ j < m)) (hm : m ≤ ops.size) : (List.range ops.size).countP (fun j => !L.getD j true) = ops.size - m := by
  have key : ∀ k, k ≤ ops.size → (List.range k).countP (fun j => !L.getD j true) = k - m := by
    intro k
    induction k with
    | zero => intro _; simp
    | succ k ih =>
      intro hk
      rw [List.range_succ, List.countP_append, ih (by omega), List.countP_singleton]
      have := h k (by omega)
      cases hx : L.getD k true with
      | true => have := this.1 hx; simp; omega
      | false =>
        have : ¬ k < m := fun hlt => by rw [this.2 hlt] at hx; cases hx
        simp; omega
  exact key _ (Nat.le_refl _)

/-- None of the first has the p-th right ahead of it. -/
def offB (n p : Nat) (ops : List Oper) : Bool := (ops.take (n + 1)).all fun o => o.after.toList.all fun e => !Region.binds .any e || e.on != p
theorem off_get (ho : offB n p ops.toList = true) {i : Nat} {o : Oper} (hi : i ≤ n) (h : ops[i]? = some o) : ∀ e, e ∈ o.after.toList → Region.binds .any e = true → e.on ≠ p := by
  intro e he hb
  simp only [offB, List.all_eq_true] at ho
  have hm : o ∈ ops.toList.take (n + 1) := by
    apply List.mem_of_getElem? (i := i)
    rw [List.getElem?_take, if_pos (by omega)]
    simpa using h
  have := ho o hm e he
  simpa [hb] using this
theorem inv_float (hc : chk ops.toList n C.n ds ancs ss false = true) (ht : tailB n p ancs = true) (hoff : offB n p ops.toList = true) (hA : AOK P C Γ H ops ds ancs ss 0 ss ops.toList)
    (hB1 : ∀ a w, Inv C Γ H n ds ss (fun j => j < n) a w → wpList P ops Q (ops.toList.drop n) a w)
    (hB2 : ∀ a w, Inv C Γ H n ds ss (fun j => j < n ∧ j ≠ p) a w → ∀ o q, ops[n]? = some o → ops[p]? = some q → wpList P ops Q (o :: q :: ops.toList.drop (n + 1)) a w) :
    ∀ fuel (L : Array Bool) a w, L.size = ops.size → (∀ j, n ≤ j → j < ops.size → L.getD j true = false) → Closed ops (fun j => j < ops.size ∧ L.getD j true = true) →
      (List.range ops.size).countP (fun j => !L.getD j true) = fuel → Inv C Γ H n ds ss (fun j => j < ops.size ∧ L.getD j true = true) a w → wpAny P .any ops Q fuel L a w := by
  have hc' := hc
  simp only [chk, Bool.and_eq_true, decide_eq_true_eq, beq_iff_eq] at hc'
  obtain ⟨⟨⟨⟨⟨⟨hsz, hanl⟩, hss⟩, hds⟩, hnd⟩, hal⟩, hcf⟩ := hc'
  have hanl : ancs.length = ops.size := by simpa using hanl
  have htt := ht
  simp only [tailB, Bool.and_eq_true, decide_eq_true_eq] at htt
  have hpn : p < n := htt.1.1.1
  have hnsz : n < ops.size := by rw [← hanl]; exact htt.1.1.2
  have hpre := pre_of (C := C) hcf
  have hti : ∀ i j, n < i → i < ops.size → j < i → (ancs.getD i 0).testBit j = true := fun i j hi hs hj => tail_i ht hi (by omega) hj
  have hon : ops[n]? = some ops[n] := Array.getElem?_eq_getElem hnsz
  have hop : ops[p]? = some ops[p] := Array.getElem?_eq_getElem (by omega)
  have toB : ∀ fuel (L : Array Bool) a w, L.size = ops.size → (∀ j, n ≤ j → j < ops.size → L.getD j true = false) → (∀ j, j < n → L.getD j true = true) →
      (List.range ops.size).countP (fun j => !L.getD j true) = fuel → Inv C Γ H n ds ss (fun j => j < ops.size ∧ L.getD j true = true) a w → wpAny P .any ops Q fuel L a w := by
    intro fuel L a w hLs hno hall hcnt h
    have hiff : ∀ j, j < ops.size → (L.getD j true = true ↔ j < n) := fun j hj => by
      constructor
      · intro h2
        rcases Nat.lt_or_ge j n with h | h
        · exact h
        · rw [hno j h hj] at h2; cases h2
      · exact hall j
    have heq : (fun j => j < ops.size ∧ L.getD j true = true) = fun j => j < n := by
      funext j; apply propext
      constructor
      · rintro ⟨h1, h2⟩; exact (hiff j h1).1 h2
      · intro h; exact ⟨by omega, hall j h⟩
    rw [heq] at h
    have := count_left hiff (by omega)
    exact inv_tail hc n hti fuel n L a w hLs hiff (by omega) (Nat.le_refl _) (hB1 a w h)
  -- the first of the tail has run, the floating one has not
  have late : ∀ fuel (L : Array Bool) a w, L.size = ops.size → (∀ j, j < ops.size → (L.getD j true = true ↔ j ≤ n ∧ j ≠ p)) → fuel = ops.size - n → wpList P ops Q (ops[p] :: ops.toList.drop (n + 1)) a w → wpAny P .any ops Q fuel L a w := by
    intro fuel L a w hLs hiff hfu h
    obtain ⟨fuel, rfl⟩ : ∃ f, fuel = f + 1 := ⟨fuel - 1, by omega⟩
    have LD : ∀ j, j < ops.size → L.getD j false = L.getD j true := fun j hj => by
      simp [Array.getD_eq_getD_getElem?, Array.getElem?_eq_getElem (show j < L.size by omega)]
    refine ⟨fun hr => ?_, fun i hi => ?_⟩
    · exfalso
      have : p ∈ Region.ready .any ops L := ready_of (by omega) (by
          cases hx : L.getD p true with
          | false => rfl
          | true => exact absurd rfl ((hiff p (by omega)).1 hx).2) (fun o ho e he hb => by
          have hlt := hpre p o ho e he hb
          rw [LD _ (by omega)]
          exact (hiff _ (by omega)).2 ⟨by omega, by omega⟩)
      rw [hr] at this; cases this
    · obtain ⟨h1, h2, h3⟩ := mem_ready hi
      have hip : i = p := by
        rcases Nat.lt_or_ge n i with hlt | hge
        · exfalso
          have hb : (ancs.getD i 0).testBit p = true := hti i p hlt h1 (by omega)
          have ho : ops[i]? = some ops[i] := Array.getElem?_eq_getElem h1
          have hcl : Closed ops (fun j => j ≤ n ∧ j ≠ p) := fun j o hj ho' e he hb => by
            have := hpre j o ho' e he hb
            exact ⟨by omega, off_get hoff hj.1 ho' e he hb⟩
          have hdue : Due ops (fun j => j ≤ n ∧ j ≠ p) i := fun o ho' e he hb => by
            have hlt' := hpre i o ho' e he hb
            have := h3 o ho' e he hb
            rw [LD _ (by omega)] at this
            exact (hiff _ (by omega)).1 this
          exact (due_anc (n := n) (draw := false) hcf hcl hdue ho hb).2 rfl
        · have : ¬ (i ≤ n ∧ i ≠ p) := fun hh => by rw [(hiff i h1).2 hh] at h2; cases h2
          omega
      subst hip
      refine wpOp_mono ?_ (wpOp_list hop h)
      intro a' w' h'
      refine inv_tail hc n hti fuel (n + 1) _ a' w' (by simpa using hLs) (fun j hj => ?_) (by omega) (by omega) h'
      rw [getD_set_true (by omega)]
      by_cases hj' : j = i
      · subst hj'; simp; omega
      · rw [if_neg hj', hiff j hj]; omega
  intro fuel
  induction fuel with
  | zero =>
    intro L a w hLs hno hcl hcnt h
    refine toB 0 L a w hLs hno (fun j hj => ?_) hcnt h
    have := List.countP_eq_zero.1 hcnt j (by simp; omega)
    simpa using this
  | succ fuel ih =>
    intro L a w hLs hno hcl hcnt h
    by_cases hall : ∀ j, j < n → L.getD j true = true
    · exact toB _ L a w hLs hno hall hcnt h
    · have LD : ∀ j, j < ops.size → L.getD j false = L.getD j true := fun j hj => by
        simp [Array.getD_eq_getD_getElem?, Array.getElem?_eq_getElem (show j < L.size by omega)]
      have dueOf : ∀ i, i ∈ Region.ready .any ops L → Due ops (fun j => j < ops.size ∧ L.getD j true = true) i := by
        intro i hi
        obtain ⟨h1, h2, h3⟩ := mem_ready hi
        intro o ho' e he hb
        have hlt' := hpre i o ho' e he hb
        have := h3 o ho' e he hb
        rw [LD _ (by omega)] at this
        exact ⟨by omega, this⟩
      refine ⟨fun hr => ?_, fun i hi => ?_⟩
      · exfalso
        have hex : ∃ j, j < n ∧ L.getD j true = false := by
          simp only [Classical.not_forall] at hall
          obtain ⟨j, hj, hx⟩ := hall
          exact ⟨j, hj, by simpa using hx⟩
        have key : ∀ m, (∃ j, j < m ∧ j < n ∧ L.getD j true = false) → ∃ j, j < n ∧ L.getD j true = false ∧ ∀ k, k < j → L.getD k true = true := by
          intro m
          induction m with
          | zero => rintro ⟨j, hj, _⟩; omega
          | succ m ihm =>
            rintro ⟨j, hj, hjn, hx⟩
            by_cases hb : ∃ j, j < m ∧ j < n ∧ L.getD j true = false
            · exact ihm hb
            · refine ⟨j, hjn, hx, fun k hk => ?_⟩
              cases hy : L.getD k true with
              | true => rfl
              | false => exact absurd ⟨k, by omega, by omega, hy⟩ hb
        obtain ⟨j, hj, hx⟩ := hex
        obtain ⟨j, hj, hx, hlow⟩ := key (j + 1) ⟨j, by omega, hj, hx⟩
        have hm : j ∈ Region.ready .any ops L := ready_of (by omega) hx (fun o ho e he hb => by
          have := hpre j o ho e he hb
          rw [LD _ (by omega)]
          exact hlow _ this)
        rw [hr] at hm; cases hm
      · have hdue := dueOf i hi
        obtain ⟨h1, h2, h3⟩ := mem_ready hi
        have ho : ops[i]? = some ops[i] := Array.getElem?_eq_getElem h1
        rcases Nat.lt_or_ge i n with hin | hge
        · have heq : (fun j => (j < ops.size ∧ L.getD j true = true) ∨ j = i) = fun j => j < ops.size ∧ (L.setIfInBounds i true).getD j true = true := by
            funext j; apply propext
            rw [getD_set_true (by omega)]
            by_cases hj : j = i
            · subst hj; simp [h1]
            · simp [hj]
          refine Inv.step hc hA hcl hin hdue (fun hx => by rw [h2] at hx; cases hx.2) h (fun a' w' h' => ?_)
          rw [heq] at h'
          have hcl' := Closed.more hcl hdue
          rw [heq] at hcl'
          refine ih _ a' w' (by simpa using hLs) (fun j hj hjs => ?_) hcl' ?_ h'
          · rw [getD_set_true (by omega), if_neg (by omega)]; exact hno j hj hjs
          · have := countP_set (i := i) (p := fun j => !L.getD j true) (q := fun j => !(L.setIfInBounds i true).getD j true) (by simp [h2]) (by simp [getD_set_true (show i < L.size by omega)])
              (fun j hj => by simp only [getD_set_true (show i < L.size by omega), if_neg hj]) ops.size
            rw [if_pos h1] at this
            omega
        · have hsome : ∀ j, (ancs.getD i 0).testBit j = true → L.getD j true = true := fun j hj => (due_anc (n := n) (draw := false) hcf hcl hdue ho hj).2
          have hi_n : i = n := by
            rcases Nat.lt_or_ge n i with hlt | hle
            · exact absurd (fun j hj => hsome j (hti i j hlt h1 (by omega))) hall
            · omega
          subst hi_n
          have hrest : ∀ j, j < i → j ≠ p → L.getD j true = true := fun j hj hjp => hsome j (tail_n ht hj hjp)
          have hpf : L.getD p true = false := by
            cases hx : L.getD p true with
            | false => rfl
            | true => exact absurd (fun j hj => if hjp : j = p then by rw [hjp]; exact hx else hrest j hj hjp) hall
          have hiff : ∀ j, j < ops.size → (L.getD j true = true ↔ j < i ∧ j ≠ p) := fun j hj => by
            constructor
            · intro hx
              refine ⟨?_, fun e => by rw [e, hpf] at hx; cases hx⟩
              rcases Nat.lt_or_ge j i with h | h
              · exact h
              · rw [hno j h hj] at hx; cases hx
            · rintro ⟨hj1, hj2⟩; exact hrest j hj1 hj2
          have heq : (fun j => j < ops.size ∧ L.getD j true = true) = fun j => j < i ∧ j ≠ p := by
            funext j; apply propext
            constructor
            · rintro ⟨ha, hb⟩; exact (hiff j ha).1 hb
            · rintro ⟨ha, hb⟩; exact ⟨by omega, hrest j ha hb⟩
          rw [heq] at h
          refine wpOp_mono ?_ (wpOp_list ho (hB2 a w h _ _ ho hop))
          intro a' w' h'
          have hcnt' : fuel = ops.size - i := by
            -- all but those before it, and the floating one
            have hset : ∀ j, j < ops.size → ((L.setIfInBounds p true).getD j true = true ↔ j < i) := fun j hj => by
              rw [getD_set_true (by omega)]
              by_cases hjp : j = p
              · subst hjp; simp; omega
              · rw [if_neg hjp, hiff j hj]; simp [hjp]
            have hc1 := count_left hset (by omega)
            have := countP_set (i := p) (p := fun j => !L.getD j true) (q := fun j => !(L.setIfInBounds p true).getD j true) (by simp [hpf]) (by simp [getD_set_true (show p < L.size by omega)])
              (fun j hj => by simp only [getD_set_true (show p < L.size by omega), if_neg hj]) ops.size
            rw [if_pos (by omega)] at this
            omega
          refine late fuel _ a' w' (by simpa using hLs) (fun j hj => ?_) hcnt' h'
          rw [getD_set_true (by omega)]
          by_cases hj' : j = i
          · subst hj'; simp; omega
          · rw [if_neg hj', hiff j hj]; omega
/-- What is known behind such a region where the floating operation has not run. -/
def aftF (Γ : Nat → SRel) (all : List Nat) (vs : Nat → Value) (p : Nat) : List Nat → List ASpec → Nat → Nat → SRel
  | d :: ds, s :: ss, i => fun t => match Nat.beq i p with | true => aftF Γ all vs p ds ss (i + 1) t | false => match Nat.beq d t with | true => s.at all vs i | false => aftF Γ all vs p ds ss (i + 1) t
  | _, _, _ => Γ
theorem aftF_cases {Γ : Nat → SRel} {all : List Nat} {vs : Nat → Value} {p : Nat} : ∀ {ds : List Nat} {ss : List ASpec} {i t : Nat}, ds.length = ss.length →
    (∃ (j : Nat) (s : ASpec), i + j ≠ p ∧ ss[j]? = some s ∧ ds.getD j 0 = t ∧ aftF Γ all vs p ds ss i t = s.at all vs (i + j)) ∨ ((∀ j, j < ds.length → i + j ≠ p → ds.getD j 0 ≠ t) ∧ aftF Γ all vs p ds ss i t = Γ t)
  | [], [], i, t, _ => .inr ⟨fun j hj => by simp at hj, rfl⟩
  | d :: ds, s :: ss, i, t, h => by
    simp only [aftF]
    have rec_ := aftF_cases (Γ := Γ) (all := all) (vs := vs) (p := p) (ds := ds) (ss := ss) (i := i + 1) (t := t) (by simpa using h)
    cases hb : Nat.beq i p with
    | true =>
      have hip := Nat.eq_of_beq_eq_true hb
      rcases rec_ with ⟨j, s', h0, h1, h2, h3⟩ | ⟨h1, h2⟩
      · exact .inl ⟨j + 1, s', by omega, by simpa using h1, by simpa using h2, by rw [h3, show i + (j + 1) = i + 1 + j by omega]⟩
      · refine .inr ⟨fun j hj hne => ?_, h2⟩
        cases j with
        | zero => omega
        | succ j => simpa using h1 j (by simpa using hj) (by omega)
    | false =>
      have hip := Nat.ne_of_beq_eq_false hb
      cases hd : Nat.beq d t with
      | true => exact .inl ⟨0, s, hip, rfl, by simpa using Nat.eq_of_beq_eq_true hd, rfl⟩
      | false =>
        rcases rec_ with ⟨j, s', h0, h1, h2, h3⟩ | ⟨h1, h2⟩
        · exact .inl ⟨j + 1, s', by omega, by simpa using h1, by simpa using h2, by simp only []; rw [h3, show i + (j + 1) = i + 1 + j by omega]⟩
        · refine .inr ⟨fun j hj hne => ?_, h2⟩
          cases j with
          | zero => simpa using Nat.ne_of_beq_eq_false hd
          | succ j => simpa using h1 j (by simpa using hj) (by omega)
end

theorem T.regionF {P : Program} {C : Ctx} {Γ : Nat → SRel} {H : Nat → Res} {Q : Exit → Act → World → Prop} {id : Nat} {ops : Array Oper} (hm : P.follows .mixedOrders = true)
    (n p : Nat) (ds ancs : List Nat) (ss : List ASpec) (hc : (chk ops.toList n C.n ds ancs ss false && tailB n p ancs && offB n p ops.toList && (match ss[p]? with | some s => s.owns.isEmpty | none => false)) = true) (hA : AOK P C Γ H ops ds ancs ss 0 ss ops.toList)
    (k : ∀ vs, T C (aft Γ ds vs ds ss 0) (haft H vs ss 0) (wpList P ops Q (ops.toList.drop n)))
    (kF : ∀ vs, T C (aftF Γ ds vs p ds ss 0) (haft H vs ss 0) (wpList P ops Q ((ops.toList.drop n).take 1 ++ (ops.toList.drop p).take 1 ++ ops.toList.drop (n + 1)))) : T C Γ H ((Code.region id ops true).wp P Q) := by
  intro ρ a w st
  simp only [Bool.and_eq_true] at hc
  obtain ⟨⟨⟨hc, ht⟩, hoff⟩, hpo⟩ := hc
  have hc' := hc
  simp only [chk, Bool.and_eq_true, decide_eq_true_eq, beq_iff_eq] at hc'
  obtain ⟨⟨⟨⟨⟨⟨hsz, _⟩, hss⟩, hds⟩, hnd⟩, hal⟩, hcf⟩ := hc'
  have hB1 : ∀ a w, Inv C Γ H n ds ss (fun j => j < n) a w → wpList P ops Q (ops.toList.drop n) a w := by
    rintro a w ⟨hdf, hsize, ρ, HD, hsat, hΓ, hleft, hHo, hHD⟩
    have hH : haft H (fun i => slot a (ds.getD i 0)) ss 0 = HD := by
      funext t
      rcases haft_cases (H := H) (vs := fun i => slot a (ds.getD i 0)) (ss := ss) (i := 0) (t := t) with ⟨j, s, e, h1, h2, h3, h4⟩ | ⟨h1, h2⟩
      · rw [h4, ← h3, hHD j s e h1 h2 (by rw [← hss]; exact (List.getElem?_eq_some_iff.1 h1).1), Nat.zero_add]
      · rw [h2, hHo t h1]
    refine k (fun i => slot a (ds.getD i 0)) ρ a w ⟨hdf, hsize, fun t => ?_, by rw [hH]; exact hsat⟩
    rcases aft_cases (Γ := Γ) (all := ds) (vs := fun i => slot a (ds.getD i 0)) (ds := ds) (ss := ss) (i := 0) (t := t) (by omega) with ⟨j, s, h1, h2, h3⟩ | ⟨h1, h2⟩
    · rw [h3, Nat.zero_add]
      have hl := hleft j s h1 (by rw [← hss]; exact (List.getElem?_eq_some_iff.1 h1).1)
      unfold ASpec.left at hl
      rw [h2] at hl
      unfold ASpec.at
      cases hal : s.al with
      | some p => obtain ⟨j', g⟩ := p; exact hl.2 j' g hal
      | none =>
        simp only []
        split
        · exact hl.1
        · exact ⟨by simp only [h2]; rfl, hl.1⟩
    · rw [h2]
      exact hΓ t fun j hj _ => h1 j (by omega)
  have hB2 : ∀ a w, Inv C Γ H n ds ss (fun j => j < n ∧ j ≠ p) a w → ∀ o q, ops[n]? = some o → ops[p]? = some q → wpList P ops Q (o :: q :: ops.toList.drop (n + 1)) a w := by
    rintro a w ⟨hdf, hsize, ρ, HD, hsat, hΓ, hleft, hHo, hHD⟩ o q ho hq
    have e1 : (ops.toList.drop n).take 1 = [o] := by
      have hlt := (Array.getElem?_eq_some_iff.1 ho).1
      rw [List.drop_eq_getElem_cons (by simpa using hlt)]
      have : ops[n] = o := by rw [Array.getElem?_eq_getElem hlt] at ho; exact Option.some.inj ho
      simp [this]
    have e2 : (ops.toList.drop p).take 1 = [q] := by
      have hlt := (Array.getElem?_eq_some_iff.1 hq).1
      rw [List.drop_eq_getElem_cons (by simpa using hlt)]
      have : ops[p] = q := by rw [Array.getElem?_eq_getElem hlt] at hq; exact Option.some.inj hq
      simp [this]
    have hH : haft H (fun i => slot a (ds.getD i 0)) ss 0 = HD := by
      funext t
      rcases haft_cases (H := H) (vs := fun i => slot a (ds.getD i 0)) (ss := ss) (i := 0) (t := t) with ⟨j, s, e, h1, h2, h3, h4⟩ | ⟨h1, h2⟩
      · have hjp : j ≠ p := fun hjp => by
          subst hjp
          rw [h1] at hpo
          simp only [List.isEmpty_iff] at hpo
          rw [hpo] at h2; cases h2
        rw [h4, ← h3, hHD j s e h1 h2 ⟨by rw [← hss]; exact (List.getElem?_eq_some_iff.1 h1).1, hjp⟩, Nat.zero_add]
      · rw [h2, hHo t h1]
    have hk := kF (fun i => slot a (ds.getD i 0)) ρ a w ⟨hdf, hsize, fun t => ?_, by rw [hH]; exact hsat⟩
    · rw [e1, e2] at hk; exact hk
    rcases aftF_cases (Γ := Γ) (all := ds) (vs := fun i => slot a (ds.getD i 0)) (p := p) (ds := ds) (ss := ss) (i := 0) (t := t) (by omega) with ⟨j, s, h0, h1, h2, h3⟩ | ⟨h1, h2⟩
    · rw [h3, Nat.zero_add]
      rw [Nat.zero_add] at h0
      have hl := hleft j s h1 ⟨by rw [← hss]; exact (List.getElem?_eq_some_iff.1 h1).1, h0⟩
      unfold ASpec.left at hl
      rw [h2] at hl
      unfold ASpec.at
      cases hal : s.al with
      | some p => obtain ⟨j', g⟩ := p; exact hl.2 j' g hal
      | none =>
        simp only []
        split
        · exact hl.1
        · exact ⟨by simp only [h2]; rfl, hl.1⟩
    · rw [h2]
      exact hΓ t fun j hj hL => h1 j (by omega) (by omega)
  have start : Inv C Γ H n ds ss (fun _ => False) a w := ⟨st.defers, st.size, ρ, H, st.sat, fun t _ => st.env t, fun _ _ _ h => h.elim, fun _ _ => rfl, fun _ _ _ _ _ h => h.elim⟩
  refine wp_region_any hm ?_
  have hrep : ∀ j, (Array.replicate ops.size false).getD j true = (decide (ops.size ≤ j)) := fun j => by
    rw [Array.getD_eq_getD_getElem?, Array.getElem?_replicate]
    split <;> simp <;> omega
  have heq : (fun j => j < ops.size ∧ (Array.replicate ops.size false).getD j true = true) = fun _ => False := by
    funext j; apply propext; rw [hrep]; simp
  refine inv_float hc ht hoff hA hB1 hB2 ops.size _ a _ (by simp) (fun j _ hj => by rw [hrep]; simpa using hj) (by rw [heq]; exact fun _ _ h => h.elim) ?_ ?_
  · have key : ∀ k, k ≤ ops.size → (List.range k).countP (fun j => !(Array.replicate ops.size false).getD j true) = k := by
      intro k
      induction k with
      | zero => intro _; rfl
      | succ k ih =>
        intro hk
        rw [List.range_succ, List.countP_append, ih (by omega), List.countP_singleton, hrep]
        simp; omega
    exact key _ (Nat.le_refl _)
  · rw [heq]
    obtain ⟨h1, h2, ρ', HD, h3, h4⟩ := start
    exact ⟨h1, h2, ρ', HD, ⟨h3.le, h3.ok, h3.apart, h3.mine, h3.fr.trans (BelowX.drawn _ _ _), h3.lim, h3.sle⟩, h4⟩
end Go.Proofs.Ytnpkhhfpgedkoaa
