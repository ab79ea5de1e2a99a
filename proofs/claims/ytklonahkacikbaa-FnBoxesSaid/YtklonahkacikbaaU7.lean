/- Sums, products, quotients and conversions of floats on values. Conditions: the result does not pass the kind's greatest number. -/
import Derived.Test.YtklonahkacikbaaU6
import Derived.Test.YtklonahkacikbaaU3
namespace Go.Proofs.Ytklonahkacikbaa
set_option linter.unusedSimpArgs false
set_option linter.unusedVariables false
open Go

/-- A result: a number, near the exact value, and the exact value itself where that has few digits. -/
def Res (k : FloatKind) (r : Nat) (q : Rat) : Prop :=
  fN k r = true ∧ A (vN k r - q) ≤ uK k * A q + eK k ∧ ∀ (m' : Nat) (e' : Int), A q = (m' : Rat) * p2 e' → m' < 2 ^ bK k → lK k ≤ e' → vN k r = q

theorem signed_val (s : Bool) (m : Nat) (i base : Int) (h : base ≤ i) : ((Ieee.signed s m (i - base).toNat : Int) : Rat) * p2 base = valD (.number s m i) := by
  have h1 : p2 i = ((2 ^ (i - base).toNat : Nat) : Rat) * p2 base := by rw [← p2_toNat (by omega), ← p2_add]; congr 1; omega
  have h2 : valD (.number s m i) = sg s ((m : Rat) * p2 i) := rfl
  unfold Ieee.signed
  rw [h2, h1, Nat.shiftLeft_eq]
  cases s
  · simp only [sg, Bool.false_eq_true, if_false, Rat.intCast_natCast, Rat.natCast_mul]; grind
  · simp only [sg, if_true, Rat.intCast_neg, Rat.intCast_natCast, Rat.natCast_mul]; grind
theorem natAbs_val (t : Int) (b : Bool) (hb : t ≠ 0 → b = decide (t < 0)) (e : Int) : valD (.number b t.natAbs e) = (t : Rat) * p2 e := by
  show sg b _ = _
  by_cases h0 : t = 0
  · subst h0
    have : ((Int.natAbs 0 : Nat) : Rat) * p2 e = 0 := by rw [show ((Int.natAbs 0 : Nat) : Rat) = 0 from rfl]; grind
    rw [this]; cases b <;> simp [sg] <;> (rw [show ((0 : Int) : Rat) = 0 from rfl]; grind)
  · rw [hb h0]
    by_cases h : t < 0
    · have h2 : ((t.natAbs : Nat) : Rat) = -(t : Rat) := by
        have : ((t.natAbs : Nat) : Int) = -t := by omega
        rw [← Rat.intCast_natCast, this, Rat.intCast_neg]
      rw [h2]; simp [h, sg]; grind
    · have h2 : ((t.natAbs : Nat) : Rat) = (t : Rat) := by
        have : ((t.natAbs : Nat) : Int) = t := by omega
        rw [← Rat.intCast_natCast, this]
      rw [h2]; simp [h, sg]
theorem sum_val {a b : Ieee.Datum} (ha : isNum a = true) (hb : isNum b = true) : ∃ d, a.sum b = some d ∧ isNum d = true ∧ valD d = valD a + valD b := by
  obtain ⟨s, m, i, rfl⟩ := isNum_ex ha
  obtain ⟨t, n, j, rfl⟩ := isNum_ex hb
  refine ⟨_, rfl, rfl, ?_⟩
  rw [natAbs_val _ _ (fun h => by simp [h]), Rat.intCast_add, ← signed_val s m i (min i j) (by omega), ← signed_val t n j (min i j) (by omega)]
  grind
theorem opposite_val {a : Ieee.Datum} (ha : isNum a = true) : isNum a.opposite = true ∧ valD a.opposite = -valD a := by
  obtain ⟨s, m, i, rfl⟩ := isNum_ex ha
  refine ⟨rfl, ?_⟩
  show sg (!s) _ = -sg s _
  cases s <;> simp [sg]
theorem product_val {a b : Ieee.Datum} (ha : isNum a = true) (hb : isNum b = true) : ∃ d, a.product b = some d ∧ isNum d = true ∧ valD d = valD a * valD b := by
  obtain ⟨s, m, i, rfl⟩ := isNum_ex ha
  obtain ⟨t, n, j, rfl⟩ := isNum_ex hb
  refine ⟨_, rfl, rfl, ?_⟩
  show sg (s ^^ t) _ = sg s _ * sg t _
  rw [p2_add, Rat.natCast_mul]
  cases s <;> cases t <;> simp [sg] <;> grind

theorem res_write {k : FloatKind} {d : Ieee.Datum} (hd : isNum d = true) (ht : A (valD d) < tK k) : Res k (nrm k (k.encode d)) (valD d) := by
  obtain ⟨h1, h2, h3, _⟩ := write_ok k d hd ht
  rw [fN_nrm h1]
  exact ⟨h1, h2, h3⟩
theorem fop_add_res {k : FloatKind} {x y : Nat} (hx : fN k x = true) (hy : fN k y = true) (ht : A (vN k x + vN k y) < tK k) : Res k (fop .add k x y) (vN k x + vN k y) := by
  obtain ⟨d, h1, h2, h3⟩ := sum_val hx hy
  have hv : vN k x + vN k y = valD d := h3.symm
  have hf : fop .add k x y = nrm k (k.encode d) := by
    unfold fop floatBits Ieee.Format.add
    dsimp only
    rw [show (k.format.read x).sum (k.format.read y) = some d from h1]
    rfl
  rw [hv] at ht
  rw [hf, hv]
  exact res_write h2 ht
theorem fop_sub_res {k : FloatKind} {x y : Nat} (hx : fN k x = true) (hy : fN k y = true) (ht : A (vN k x - vN k y) < tK k) : Res k (fop .sub k x y) (vN k x - vN k y) := by
  obtain ⟨ho1, ho2⟩ := opposite_val hy
  obtain ⟨d, h1, h2, h3⟩ := sum_val hx ho1
  have hv : vN k x - vN k y = valD d := by rw [h3, ho2]; exact Rat.sub_eq_add_neg _ _
  have hf : fop .sub k x y = nrm k (k.encode d) := by
    unfold fop floatBits Ieee.Format.sub
    dsimp only
    rw [show (k.format.read x).sum (k.format.read y).opposite = some d from h1]
    rfl
  rw [hv] at ht
  rw [hf, hv]
  exact res_write h2 ht
theorem fop_mul_res {k : FloatKind} {x y : Nat} (hx : fN k x = true) (hy : fN k y = true) (ht : A (vN k x * vN k y) < tK k) : Res k (fop .mul k x y) (vN k x * vN k y) := by
  obtain ⟨d, h1, h2, h3⟩ := product_val hx hy
  have hv : vN k x * vN k y = valD d := h3.symm
  have hf : fop .mul k x y = nrm k (k.encode d) := by
    unfold fop floatBits Ieee.Format.mul
    dsimp only
    rw [show (k.format.read x).product (k.format.read y) = some d from h1]
    rfl
  rw [hv] at ht
  rw [hf, hv]
  exact res_write h2 ht

/-- The digits of a word: fewer than 'bK', not below 'lK'. -/
theorem digits (k : FloatKind) (x : Nat) (h : fN k x = true) : ∃ (s : Bool) (m : Nat) (e : Int), k.decode x = .number s m e ∧ m < 2 ^ bK k ∧ lK k ≤ e := by
  obtain ⟨hsw, h4, hfb, hlp⟩ := format_facts k
  obtain ⟨s, m, e, hd⟩ := isNum_ex h
  refine ⟨s, m, e, hd, ?_⟩
  have hbn : k.format.binade = 2 ^ k.format.fractionBits := rfl
  have hb0 : 0 < k.format.binade := by rw [hbn]; exact Nat.two_pow_pos _
  have hb1 : 2 ^ bK k = 2 * k.format.binade := by
    rw [hbn, show bK k = k.format.fractionBits + 1 by omega, Nat.pow_succ]; omega
  have hd' : k.format.read x = .number s m e := hd
  unfold Ieee.Format.read at hd'
  dsimp only at hd'
  split at hd'
  · cases hd'; exact ⟨by omega, by omega⟩
  · split at hd'
    · cases hd'
      have := Nat.mod_lt (x % k.format.signWeight) hb0
      exact ⟨by omega, by omega⟩
    · split at hd' <;> cases hd'

theorem Res.exactA {k : FloatKind} {r : Nat} {q : Rat} (h : Res k r q) {m : Nat} {e : Int} (h1 : A q = (m : Rat) * p2 e) (h2 : m < 2 ^ bK k) (h3 : lK k ≤ e) : vN k r = q := h.2.2 m e h1 h2 h3
theorem vN_lt (k : FloatKind) {x : Nat} (h : fN k x = true) : ∃ (m : Nat) (e : Int), A (vN k x) = (m : Rat) * p2 e ∧ m < 2 ^ bK k ∧ lK k ≤ e := by
  obtain ⟨s, m, e, hd, h1, h2⟩ := digits k x h
  exact ⟨m, e, by unfold vN; rw [hd, A_val], h1, h2⟩

theorem isInf_of_num {d : Ieee.Datum} (h : isNum d = true) : d.isInfinity = false := by obtain ⟨s, m, e, rfl⟩ := isNum_ex h; rfl
/-- A float32 as a float64. -/
theorem wd_ok {x : Nat} (h : fN .f32 x = true) (ht : A (vN .f32 x) < p2 1023) : fN .f64 (wd x) = true ∧ vN .f64 (wd x) = vN .f32 x := by
  obtain ⟨s, m, e, hd, h1, h2⟩ := digits .f32 x h
  have hv : vN .f32 x = valD (.number s m e) := by unfold vN; rw [hd]
  have hR : Res .f64 (nrm .f64 (FloatKind.f64.encode (.number s m e))) (valD (.number s m e)) := res_write rfl (by rw [← hv]; exact ht)
  have hnum := (write_ok .f64 (.number s m e) rfl (by rw [← hv]; exact ht)).1
  have hw : wd x = nrm .f64 (FloatKind.f64.encode (.number s m e)) := by
    unfold wd fcvt floatToFloatBits
    rw [if_neg (by decide), hd]
    dsimp only
    rw [isInf_of_num hnum]
    rfl
  rw [hw]
  refine ⟨hR.1, ?_⟩
  rw [hv]
  exact hR.2.2 m e (A_val s m e) (Nat.lt_trans h1 (by decide)) (by have : lK .f64 = -1074 := rfl; have : lK .f32 = -149 := rfl; omega)
/-- A float64 narrowed. -/
theorem nw_ok {x : Nat} (h : fN .f64 x = true) (ht : A (vN .f64 x) < p2 127) : fit1 x ∧ Res .f32 (nw x) (vN .f64 x) := by
  obtain ⟨s, m, e, hd, h1, h2⟩ := digits .f64 x h
  have hv : vN .f64 x = valD (.number s m e) := by unfold vN; rw [hd]
  have hR : Res .f32 (nrm .f32 (FloatKind.f32.encode (.number s m e))) (valD (.number s m e)) := res_write rfl (by rw [← hv]; exact ht)
  have hnum := (write_ok .f32 (.number s m e) rfl (by rw [← hv]; exact ht)).1
  have hw : floatToFloatBits .f64 x .f32 = some (FloatKind.f32.encode (.number s m e)) := by
    unfold floatToFloatBits
    rw [if_neg (by decide), hd]
    dsimp only
    rw [isInf_of_num hnum]
    rfl
  refine ⟨by unfold fit1 fits; rw [hw]; simp, ?_⟩
  rw [hv, show nw x = nrm .f32 (FloatKind.f32.encode (.number s m e)) by unfold nw fcvt; rw [hw]; rfl]
  exact hR
/-- What is no number is narrowed as it is. -/
theorem nw_not {x : Nat} (h : fN .f64 x = false) : fit1 x ∧ fN .f32 (nw x) = false := by
  unfold fN at h
  unfold fit1 fits nw fcvt floatToFloatBits
  rw [if_neg (by decide)]
  cases hd : FloatKind.f64.decode x with
  | number s m e => rw [hd] at h; simp [isNum] at h
  | infinity s =>
    dsimp only
    refine ⟨by simp, ?_⟩
    cases s <;> decide +kernel
  | nan s f =>
    dsimp only
    refine ⟨by simp [isN, hd, Ieee.Datum.isNaN], ?_⟩
    decide +kernel
end Go.Proofs.Ytklonahkacikbaa

/- Quotients of floats on values; finiteness and zero of words by their values. Conditions: none beyond the divisor's not being 0. -/
namespace Go.Proofs.Ytklonahkacikbaa
set_option linter.unusedSimpArgs false
set_option linter.unusedVariables false
open Go

theorem lcancel_le {a b c : Rat} (hc : 0 < c) (h : a * c ≤ b * c) : a ≤ b := by
  rcases Rat.le_total (a := a) (b := b) with h1 | h1
  · exact h1
  · have h2 := Rat.mul_le_mul_of_nonneg_right h1 (Rat.le_of_lt hc)
    have h3 : a * c = b * c := Rat.le_antisymm h h2
    rw [rcancel hc h3]; exact Rat.le_refl

theorem quotient_val {a b : Ieee.Datum} (ha : isNum a = true) (hb : isNum b = true) (h0 : valD b ≠ 0) :
    ∃ d, Ieee.Datum.quotient 54 a b = some d ∧ isNum d = true ∧ A (valD d * valD b - valD a) ≤ p2 (-54) * A (valD a) := by
  obtain ⟨s, m, i, rfl⟩ := isNum_ex ha
  obtain ⟨t, n, j, rfl⟩ := isNum_ex hb
  have hn : n ≠ 0 := by rintro rfl; exact h0 (A_eq_zero (by rw [A_val, show ((0 : Nat) : Rat) = 0 from rfl]; grind))
  unfold Ieee.Datum.quotient
  dsimp only
  rw [if_neg hn]
  generalize hmore : 54 + n.log2 - m.log2 = more
  refine ⟨_, rfl, rfl, ?_⟩
  rw [A_val, Nat.shiftLeft_eq]
  have hn0 : 0 < n := Nat.pos_of_ne_zero hn
  have hdm := Nat.div_add_mod (m * 2 ^ more) n
  have hml := Nat.mod_lt (m * 2 ^ more) hn0
  have hbig : m ≠ 0 → 2 ^ 53 * n ≤ m * 2 ^ more := by
    intro hm
    have h1 : n < 2 ^ (n.log2 + 1) := Nat.lt_log2_self
    have h2 : 2 ^ m.log2 ≤ m := Nat.log2_self_le hm
    calc 2 ^ 53 * n ≤ 2 ^ 53 * 2 ^ (n.log2 + 1) := Nat.mul_le_mul_left _ (Nat.le_of_lt h1)
      _ = 2 ^ (54 + n.log2) := by rw [← Nat.pow_add]; congr 1; omega
      _ ≤ 2 ^ (m.log2 + more) := Nat.pow_le_pow_right (by decide) (by omega)
      _ = 2 ^ m.log2 * 2 ^ more := Nat.pow_add ..
      _ ≤ m * 2 ^ more := Nat.mul_le_mul_right _ h2
  -- the digits' error
  obtain ⟨M, hM, hMd⟩ : ∃ M, 2 * (m * 2 ^ more / n) + (m * 2 ^ more % n != 0).toNat = M ∧
      (M * n ≤ 2 * (m * 2 ^ more) + n ∧ 2 * (m * 2 ^ more) ≤ M * n + n) ∧ (m = 0 → M = 0) := by
    refine ⟨_, rfl, ?_, fun h => by subst h; simp⟩
    generalize m * 2 ^ more = D at *
    rw [Nat.add_mul, Nat.mul_assoc, Nat.mul_comm (D / n) n]
    generalize n * (D / n) = p at *
    by_cases hz : D % n = 0
    · simp [hz]; omega
    · have : (D % n != 0) = true := by simpa using hz
      rw [this, Bool.toNat_true, Nat.one_mul]; omega
  rw [hM]
  have hvd : valD (.number (s ^^ t) M (i - j - (more : Int) - 1)) * valD (.number t n j) = sg s (((M * n : Nat) : Rat) * p2 (i - (more : Int) - 1)) := by
    show sg _ _ * sg _ _ = _
    have : p2 (i - j - (more : Int) - 1) * p2 j = p2 (i - (more : Int) - 1) := by rw [← p2_add]; congr 1; omega
    rw [← this, Rat.natCast_mul]
    cases s <;> cases t <;> simp [sg] <;> grind
  have hva : valD (.number s m i) = sg s (((2 * (m * 2 ^ more) : Nat) : Rat) * p2 (i - (more : Int) - 1)) := by
    show sg s _ = _
    have : p2 i = ((2 * 2 ^ more : Nat) : Rat) * p2 (i - (more : Int) - 1) := by
      have e1 : (2 * 2 ^ more : Nat) = 2 ^ (more + 1) := by rw [Nat.pow_succ]; omega
      rw [e1, ← p2_nat, ← p2_add]; congr 1; omega
    rw [this, Rat.natCast_mul, Rat.natCast_mul, Rat.natCast_mul]
    congr 1; grind
  have hma : (m : Rat) * p2 i = ((2 * (m * 2 ^ more) : Nat) : Rat) * p2 (i - (more : Int) - 1) := by
    have := congrArg A hva
    rw [A_val, A_sg, A_of_nonneg (Rat.mul_nonneg (by exact_mod_cast Nat.zero_le _) (Rat.le_of_lt (p2_pos _)))] at this
    exact this
  rw [hvd, hva, hma]
  have hp := p2_pos (i - (more : Int) - 1)
  generalize p2 (i - (more : Int) - 1) = P at *
  have hdif : sg s (((M * n : Nat) : Rat) * P) - sg s (((2 * (m * 2 ^ more) : Nat) : Rat) * P) = sg s ((((M * n : Nat) : Rat) - ((2 * (m * 2 ^ more) : Nat) : Rat)) * P) := by
    cases s <;> simp [sg] <;> grind
  rw [hdif, A_sg, A_mul, A_of_nonneg (Rat.le_of_lt hp)]
  have key : A (((M * n : Nat) : Rat) - ((2 * (m * 2 ^ more) : Nat) : Rat)) ≤ p2 (-54) * ((2 * (m * 2 ^ more) : Nat) : Rat) := by
    by_cases hm : m = 0
    · rw [hMd.2 hm, hm, Nat.zero_mul, Nat.zero_mul, Nat.mul_zero, show ((0 : Nat) : Rat) = 0 from rfl, show (0 : Rat) - 0 = 0 by grind, A_zero]
      grind
    · have hb1 := hbig hm
      have h54 : p2 (-54) * p2 54 = 1 := by rw [← p2_add]; exact p2_zero
      have h54' : p2 54 = ((2 ^ 54 : Nat) : Rat) := p2_nat 54
      have c1 : ((M * n : Nat) : Rat) ≤ ((2 * (m * 2 ^ more) : Nat) : Rat) + (n : Rat) := by exact_mod_cast hMd.1.1
      have c2 : ((2 * (m * 2 ^ more) : Nat) : Rat) ≤ ((M * n : Nat) : Rat) + (n : Rat) := by exact_mod_cast hMd.1.2
      have c3 : p2 54 * (n : Rat) ≤ ((2 * (m * 2 ^ more) : Nat) : Rat) := by
        rw [h54', ← Rat.natCast_mul]
        have : 2 ^ 54 * n ≤ 2 * (m * 2 ^ more) := by
          have : (2 : Nat) ^ 54 = 2 * 2 ^ 53 := by decide
          rw [this, Nat.mul_assoc]; omega
        exact_mod_cast this
      have c4 := Rat.mul_le_mul_of_nonneg_left c3 (Rat.le_of_lt (p2_pos (-54)))
      rw [← Rat.mul_assoc, h54] at c4
      rw [A_le]
      grind
  have := Rat.mul_le_mul_of_nonneg_right key (Rat.le_of_lt hp)
  rw [Rat.mul_assoc] at this
  exact this

/-- A quotient of float64. -/
theorem fop_quo_ok {x y : Nat} (hx : fN .f64 x = true) (hy : fN .f64 y = true) (h0 : vN .f64 y ≠ 0) {q : Rat} (hq : q * vN .f64 y = vN .f64 x) (ht : A q < p2 1000) :
    fN .f64 (fop .quo .f64 x y) = true ∧ A (vN .f64 (fop .quo .f64 x y) - q) ≤ p2 (-52) * A q + p2 (-1075) := by
  obtain ⟨d, h1, h2, h3⟩ := quotient_val hx hy h0
  have hf : fop .quo .f64 x y = nrm .f64 (FloatKind.f64.encode d) := by
    unfold fop floatBits Ieee.Format.div
    dsimp only
    rw [show Ieee.Datum.quotient (FloatKind.f64.format.fractionBits + 2) (FloatKind.f64.format.read x) (FloatKind.f64.format.read y) = some d from h1]
    rfl
  have hb := A_pos h0
  have e1 : A (valD d - q) ≤ p2 (-54) * A q := by
    refine lcancel_le hb ?_
    rw [← A_mul]
    have e2 : (valD d - q) * vN .f64 y = valD d * vN .f64 y - vN .f64 x := by rw [← hq]; grind
    rw [e2, Rat.mul_assoc, ← A_mul, hq]
    exact h3
  have hq0 := A_nonneg q
  have hs54 : p2 (-54) ≤ 1 := by have := p2_mono (show (-54 : Int) ≤ 0 by decide); rw [p2_zero] at this; exact this
  have e3 : A (valD d) ≤ A q + p2 (-54) * A q := by
    have := A_add (valD d - q) q
    rw [show valD d - q + q = valD d by grind] at this
    grind
  have e4 : p2 (-54) * A q ≤ A q := by have := Rat.mul_le_mul_of_nonneg_right hs54 hq0; grind
  have hR : Res .f64 (nrm .f64 (FloatKind.f64.encode d)) (valD d) := res_write h2 (by
    have e5 : p2 1000 + p2 1000 = p2 1001 := by rw [show (1001 : Int) = 1 + 1000 by rfl, p2_add, show p2 1 = 2 from rfl]; grind
    have e6 := p2_mono (show (1001 : Int) ≤ 1023 by decide)
    show A (valD d) < p2 1023
    grind)
  rw [hf]
  refine ⟨hR.1, ?_⟩
  have e7 := A_add (vN .f64 (nrm .f64 (FloatKind.f64.encode d)) - valD d) (valD d - q)
  rw [show vN .f64 (nrm .f64 (FloatKind.f64.encode d)) - valD d + (valD d - q) = vN .f64 (nrm .f64 (FloatKind.f64.encode d)) - q by grind] at e7
  have e8 : A (vN .f64 (nrm .f64 (FloatKind.f64.encode d)) - valD d) ≤ p2 (-53) * A (valD d) + p2 (-1075) := hR.2.1
  have e9 : p2 (-53) * A (valD d) ≤ p2 (-53) * (A q + p2 (-54) * A q) := Rat.mul_le_mul_of_nonneg_left e3 (Rat.le_of_lt (p2_pos _))
  have f1 : p2 (-53) = 2 * p2 (-54) := by rw [show (-53 : Int) = 1 + -54 by rfl, p2_add]; rfl
  have f2 : p2 (-52) = 4 * p2 (-54) := by rw [show (-52 : Int) = 2 + -54 by rfl, p2_add]; rfl
  have f3 : p2 (-54) * (p2 (-54) * A q) ≤ p2 (-54) * A q * (1 / 2) := by
    have g1 : p2 (-54) ≤ 1 / 2 := by
      have := p2_mono (show (-54 : Int) ≤ -1 by decide)
      have g2 : p2 (-1) = 1 / 2 := by decide +kernel
      rw [g2] at this; exact this
    have := Rat.mul_le_mul_of_nonneg_right g1 (show 0 ≤ p2 (-54) * A q from Rat.mul_nonneg (Rat.le_of_lt (p2_pos _)) hq0)
    grind
  rw [f1] at e8 e9
  rw [f2]
  have f4 : 2 * p2 (-54) * (A q + p2 (-54) * A q) = 2 * (p2 (-54) * A q) + 2 * (p2 (-54) * (p2 (-54) * A q)) := by grind
  grind
/-- A quotient by 0 is no number. -/
theorem fop_quo_zero {x y : Nat} (hx : fN .f64 x = true) (hy : fN .f64 y = true) (h0 : vN .f64 y = 0) : fN .f64 (fop .quo .f64 x y) = false := by
  obtain ⟨s, m, i, hdx, _, _⟩ := digits .f64 x hx
  obtain ⟨t, n, j, hdy, _, _⟩ := digits .f64 y hy
  have hn : n = 0 := by
    have h1 : A (vN .f64 y) = (n : Rat) * p2 j := by unfold vN; rw [hdy, A_val]
    rw [h0, A_zero] at h1
    have h2 : (n : Rat) * p2 j = 0 * p2 j := by rw [← h1]; grind
    have := rcancel (p2_pos j) h2
    exact_mod_cast this
  subst hn
  unfold fop floatBits Ieee.Format.div
  dsimp only
  rw [show FloatKind.f64.format.read x = .number s m i from hdx, show FloatKind.f64.format.read y = .number t 0 j from hdy]
  unfold Ieee.Datum.quotient
  dsimp only
  rw [if_pos rfl]
  by_cases hm : m = 0
  · rw [if_pos hm]; decide +kernel
  · rw [if_neg hm]
    cases s <;> cases t <;> decide +kernel

/-- x - x is 0 where x is a number, and no number elsewhere. -/
theorem finF_iff (x : Nat) : finF x = fN .f32 x := by
  unfold finF fN
  cases hd : FloatKind.f32.decode x with
  | number s m e =>
    have hx : fN .f32 x = true := by unfold fN; rw [hd]; rfl
    have hR := fop_sub_res (k := .f32) hx hx (by rw [show vN .f32 x - vN .f32 x = 0 by grind, A_zero]; exact p2_pos _)
    have hz : vN .f32 (fop .sub .f32 x x) = 0 := by
      have := hR.2.2 0 0 (by rw [show vN .f32 x - vN .f32 x = 0 by grind, A_zero, show ((0 : Nat) : Rat) = 0 from rfl]; grind) (by decide) (by decide)
      rw [this]; grind
    obtain ⟨t, n, j, hdy, _, _⟩ := digits .f32 _ hR.1
    have hn : n = 0 := by
      have h1 : A (vN .f32 (fop .sub .f32 x x)) = (n : Rat) * p2 j := by unfold vN; rw [hdy, A_val]
      rw [hz, A_zero] at h1
      have h2 : (n : Rat) * p2 j = 0 * p2 j := by rw [← h1]; grind
      have := rcancel (p2_pos j) h2
      exact_mod_cast this
    subst hn
    rw [nrm0]
    have h0 : FloatKind.f32.format.read 0 = .number false 0 (-149) := by decide +kernel
    unfold fcmp Ieee.Format.order
    rw [show FloatKind.f32.format.read (fop .sub .f32 x x) = .number t 0 j from hdy, h0]
    simp [Ieee.Datum.order, Ieee.signed, isNum]
  | infinity s =>
    have hf : fop .sub .f32 x x = qnan .f32 := by
      unfold fop floatBits Ieee.Format.sub
      dsimp only
      rw [show FloatKind.f32.format.read x = .infinity s from hd]
      clear hd
      cases s <;> decide +kernel
    rw [hf]; show fcmp .eql .f32 (qnan .f32) (nrm .f32 0) = false; decide +kernel
  | nan s f =>
    have hf : fop .sub .f32 x x = qnan .f32 := by
      unfold fop floatBits Ieee.Format.sub
      dsimp only
      rw [show FloatKind.f32.format.read x = .nan s f from hd, sum_nan_left]
      decide +kernel
    rw [hf]; show fcmp .eql .f32 (qnan .f32) (nrm .f32 0) = false; decide +kernel
theorem finC_iff (z : C2) : finC z = (fN .f32 z.1 && fN .f32 z.2) := by unfold finC; rw [finF_iff, finF_iff]
/-- Equal to 0. -/
theorem eql0_iff {x : Nat} (h : fN .f32 x = true) : fcmp .eql .f32 x (nrm .f32 0) = true ↔ vN .f32 x = 0 := by
  obtain ⟨t, n, j, hdy, _, _⟩ := digits .f32 _ h
  have h0 : FloatKind.f32.format.read 0 = .number false 0 (-149) := by decide +kernel
  have hA : A (vN .f32 x) = (n : Rat) * p2 j := by unfold vN; rw [hdy, A_val]
  have e1 : vN .f32 x = 0 ↔ n = 0 := by
    constructor
    · intro hv
      rw [hv, A_zero] at hA
      have h2 : (n : Rat) * p2 j = 0 * p2 j := by rw [← hA]; grind
      have := rcancel (p2_pos j) h2
      exact_mod_cast this
    · rintro rfl
      exact A_eq_zero (by rw [hA, show ((0 : Nat) : Rat) = 0 from rfl]; grind)
  rw [e1, nrm0]
  unfold fcmp Ieee.Format.order
  rw [show FloatKind.f32.format.read x = .number t n j from hdy, h0]
  simp only [Ieee.Datum.order, Ieee.signed]
  have hp : 0 < 2 ^ (j - min j (-149)).toNat := Nat.two_pow_pos _
  simp only [Nat.shiftLeft_eq, Nat.zero_mul]
  constructor
  · intro hh
    rw [beq_iff_eq] at hh
    have hh2 := Option.some.inj hh
    have hh3 := Int.compare_eq_eq.1 hh2
    rcases Nat.eq_zero_or_pos n with h1 | h1
    · exact h1
    · exfalso
      have := Nat.mul_pos h1 hp
      generalize n * 2 ^ (j - min j (-149)).toNat = y at *
      cases t <;> simp at hh3 <;> omega
  · rintro rfl
    rw [beq_iff_eq]
    congr 1
    refine Int.compare_eq_eq.2 ?_
    cases t <;> simp
theorem zeroC_iff {z : C2} (h : finC z = true) : zeroC z = true ↔ vN .f32 z.1 = 0 ∧ vN .f32 z.2 = 0 := by
  rw [finC_iff, Bool.and_eq_true] at h
  unfold zeroC
  rw [Bool.and_eq_true, eql0_iff h.1, eql0_iff h.2]
end Go.Proofs.Ytklonahkacikbaa

/- Complex numbers of rational parts, their 1-norm, and the complex operations of float32 on values: each gives the exact value but for a small relative error. Conditions: nothing is too great. -/
namespace Go.Proofs.Ytklonahkacikbaa
set_option linter.unusedSimpArgs false
set_option linter.unusedVariables false
open Go

structure Q2 where
  re : Rat
  im : Rat
theorem q2e {a b : Q2} (h1 : a.re = b.re) (h2 : a.im = b.im) : a = b := by cases a; cases b; simp_all
instance : Add Q2 := ⟨fun a b => ⟨a.re + b.re, a.im + b.im⟩⟩
instance : Sub Q2 := ⟨fun a b => ⟨a.re - b.re, a.im - b.im⟩⟩
instance : Neg Q2 := ⟨fun a => ⟨-a.re, -a.im⟩⟩
instance : Mul Q2 := ⟨fun a b => ⟨a.re * b.re - a.im * b.im, a.re * b.im + a.im * b.re⟩⟩
@[simp] theorem re_add (a b : Q2) : (a + b).re = a.re + b.re := rfl
@[simp] theorem im_add (a b : Q2) : (a + b).im = a.im + b.im := rfl
@[simp] theorem re_sub (a b : Q2) : (a - b).re = a.re - b.re := rfl
@[simp] theorem im_sub (a b : Q2) : (a - b).im = a.im - b.im := rfl
@[simp] theorem re_neg (a : Q2) : (-a).re = -a.re := rfl
@[simp] theorem im_neg (a : Q2) : (-a).im = -a.im := rfl
@[simp] theorem re_mul (a b : Q2) : (a * b).re = a.re * b.re - a.im * b.im := rfl
@[simp] theorem im_mul (a b : Q2) : (a * b).im = a.re * b.im + a.im * b.re := rfl

/-- The 1-norm. -/
def N (z : Q2) : Rat := A z.re + A z.im
theorem N_nonneg (z : Q2) : 0 ≤ N z := by have := A_nonneg z.re; have := A_nonneg z.im; unfold N; grind
theorem N_add (x y : Q2) : N (x + y) ≤ N x + N y := by
  have h1 := A_add x.re y.re; have h2 := A_add x.im y.im
  simp only [N, re_add, im_add]; grind
theorem N_sub (x y : Q2) : N (x - y) ≤ N x + N y := by
  have h1 := A_sub x.re y.re; have h2 := A_sub x.im y.im
  simp only [N, re_sub, im_sub]; grind
theorem N_neg (x : Q2) : N (-x) = N x := by simp only [N, re_neg, im_neg, A_neg]
theorem N_comm (x y : Q2) : N (x - y) = N (y - x) := by simp only [N, re_sub, im_sub, A_comm x.re, A_comm x.im]
theorem N_mul (x y : Q2) : N (x * y) ≤ N x * N y := by
  have h1 := A_sub (x.re * y.re) (x.im * y.im)
  have h2 := A_add (x.re * y.im) (x.im * y.re)
  simp only [A_mul] at h1 h2
  simp only [N, re_mul, im_mul]
  grind
theorem re_le_N (z : Q2) : A z.re ≤ N z := by have := A_nonneg z.im; unfold N; grind
theorem im_le_N (z : Q2) : A z.im ≤ N z := by have := A_nonneg z.re; unfold N; grind
theorem N_tri (x y : Q2) : N x ≤ N y + N (x - y) := by
  have := N_add y (x - y)
  rw [show y + (x - y) = x from q2e (by simp; grind) (by simp; grind)] at this
  exact this

/-- The value of a complex number's words; its parts are numbers. -/
def cv (z : C2) : Q2 := ⟨vN .f32 z.1, vN .f32 z.2⟩
def fC (z : C2) : Prop := fN .f32 z.1 = true ∧ fN .f32 z.2 = true
theorem fC_iff (z : C2) : fC z ↔ finC z = true := by unfold fC; rw [finC_iff, Bool.and_eq_true]
def u1 : Rat := p2 (-24) + p2 (-48)
def e1 : Rat := p2 (-148)
theorem u1_pos : 0 < u1 := by have := p2_pos (-24); have := p2_pos (-48); unfold u1; grind
theorem e1_pos : 0 < e1 := p2_pos _
/-- A result: its parts are numbers, near the exact value. -/
def Near (r : C2) (q : Q2) : Prop := fC r ∧ N (cv r - q) ≤ u1 * N q + e1

theorem p2_dbl {a b : Int} (h : b = a + 1) : p2 b = p2 a + p2 a := by rw [h, p2_add, show p2 1 = 2 from rfl]; grind
/-- One part of a result: near by 'u1' and half of 'e1'. -/
def Near1 (r : Nat) (q : Rat) : Prop := fN .f32 r = true ∧ A (vN .f32 r - q) ≤ u1 * A q + p2 (-149)
theorem near_mk {r : C2} {q : Q2} (h1 : Near1 r.1 q.re) (h2 : Near1 r.2 q.im) : Near r q := by
  refine ⟨⟨h1.1, h2.1⟩, ?_⟩
  have a1 := h1.2; have a2 := h2.2
  have e : e1 = p2 (-149) + p2 (-149) := p2_dbl (by omega)
  simp only [N, re_sub, im_sub, cv]
  rw [e]
  clear e
  generalize p2 (-149) = t at *
  generalize u1 = u at *
  grind
theorem near1_res {r : Nat} {q : Rat} (h : Res .f32 r q) : Near1 r q := by
  refine ⟨h.1, ?_⟩
  have h1 : A (vN .f32 r - q) ≤ p2 (-24) * A q + p2 (-150) := h.2.1
  have h2 := p2_mono (show (-150 : Int) ≤ -149 by decide)
  have h3 := Rat.mul_nonneg (Rat.le_of_lt (p2_pos (-48))) (A_nonneg q)
  unfold u1; grind

theorem p2_two (a : Int) : p2 a + p2 a = p2 (a + 1) := (p2_dbl rfl).symm

theorem addC_near {x y : C2} (hx : fC x) (hy : fC y) (ht : N (cv x + cv y) < p2 127) : Near (addC x y) (cv x + cv y) := by
  have h1 : A (vN .f32 x.1 + vN .f32 y.1) ≤ N (cv x + cv y) := re_le_N (cv x + cv y)
  have h2 : A (vN .f32 x.2 + vN .f32 y.2) ≤ N (cv x + cv y) := im_le_N (cv x + cv y)
  exact near_mk (near1_res (fop_add_res hx.1 hy.1 (show A (vN .f32 x.1 + vN .f32 y.1) < p2 127 by grind)))
    (near1_res (fop_add_res hx.2 hy.2 (show A (vN .f32 x.2 + vN .f32 y.2) < p2 127 by grind)))
theorem subC_near {x y : C2} (hx : fC x) (hy : fC y) (ht : N (cv x - cv y) < p2 127) : Near (subC x y) (cv x - cv y) := by
  have h1 : A (vN .f32 x.1 - vN .f32 y.1) ≤ N (cv x - cv y) := re_le_N (cv x - cv y)
  have h2 : A (vN .f32 x.2 - vN .f32 y.2) ≤ N (cv x - cv y) := im_le_N (cv x - cv y)
  exact near_mk (near1_res (fop_sub_res hx.1 hy.1 (show A (vN .f32 x.1 - vN .f32 y.1) < p2 127 by grind)))
    (near1_res (fop_sub_res hx.2 hy.2 (show A (vN .f32 x.2 - vN .f32 y.2) < p2 127 by grind)))

/-- The product of two float32, as float64: exact. -/
theorem prod_exact {x y : Nat} (hx : fN .f32 x = true) (hy : fN .f32 y = true) (h1 : A (vN .f32 x) < p2 200) (h2 : A (vN .f32 y) < p2 200) :
    fN .f64 (fop .mul .f64 (wd x) (wd y)) = true ∧ vN .f64 (fop .mul .f64 (wd x) (wd y)) = vN .f32 x * vN .f32 y := by
  have m1 := p2_mono (show (200 : Int) ≤ 1023 by decide)
  obtain ⟨w1, w2⟩ := wd_ok hx (by grind)
  obtain ⟨w3, w4⟩ := wd_ok hy (by grind)
  have ht : A (vN .f32 x * vN .f32 y) < p2 1023 := by
    rw [A_mul]
    have a1 := mul_le (Rat.le_of_lt h1) (Rat.le_of_lt h2) (A_nonneg _) (Rat.le_of_lt (p2_pos 200))
    rw [← p2_add] at a1
    have a2 : p2 (200 + 200) + p2 (200 + 200) = p2 401 := p2_two 400
    have a3 := p2_mono (show (401 : Int) ≤ 1023 by decide)
    have a4 := p2_pos (200 + 200)
    grind
  have hR := fop_mul_res (k := .f64) w1 w3 (by rw [w2, w4]; exact ht)
  rw [w2, w4] at hR
  refine ⟨hR.1, ?_⟩
  obtain ⟨m, e, a1, a2, a3⟩ := vN_lt .f32 hx
  obtain ⟨n, j, b1, b2, b3⟩ := vN_lt .f32 hy
  have a2' : m < 2 ^ 24 := a2
  have b2' : n < 2 ^ 24 := b2
  have a3' : (-149 : Int) ≤ e := a3
  have b3' : (-149 : Int) ≤ j := b3
  refine hR.2.2 (m * n) (e + j) ?_ ?_ ?_
  · rw [A_mul, a1, b1, p2_add, Rat.natCast_mul]; grind
  · have : m * n ≤ 2 ^ 24 * 2 ^ 24 := Nat.mul_le_mul (Nat.le_of_lt a2') (Nat.le_of_lt b2')
    have h3 : (2 : Nat) ^ 24 * 2 ^ 24 < 2 ^ bK .f64 := by decide
    omega
  · have : lK .f64 = -1074 := rfl
    omega

theorem small_tail {a b q : Rat} {i : Int} (h1 : A (a - b) ≤ p2 (-24) * A b + p2 (-150)) (h2 : A (b - q) ≤ p2 (-49) * A q + p2 i) (hi : i ≤ -152) : A (a - q) ≤ u1 * A q + p2 (-149) := by
  have t1 := A_add (a - b) (b - q)
  rw [show a - b + (b - q) = a - q by grind] at t1
  have t2 := A_add (b - q) q
  rw [show b - q + q = b by grind] at t2
  have n1 := A_nonneg q
  have m1 := p2_mono hi
  have f1 : p2 (-24) * A b ≤ p2 (-24) * (A q + p2 (-49) * A q + p2 i) := Rat.mul_le_mul_of_nonneg_left (by grind) (Rat.le_of_lt (p2_pos _))
  have f2 : p2 (-24) ≤ 1 := by have := p2_mono (show (-24 : Int) ≤ 0 by decide); rw [p2_zero] at this; exact this
  have f3 : p2 (-24) * (p2 (-49) * A q) ≤ p2 (-49) * A q := by
    have := Rat.mul_le_mul_of_nonneg_right f2 (Rat.mul_nonneg (Rat.le_of_lt (p2_pos (-49))) n1); grind
  have f4 : p2 (-24) * p2 i ≤ p2 i := by have := Rat.mul_le_mul_of_nonneg_right f2 (Rat.le_of_lt (p2_pos i)); grind
  have g1 : p2 (-48) = p2 (-49) + p2 (-49) := p2_dbl (by omega)
  have g2 : p2 (-149) = p2 (-150) + p2 (-150) := p2_dbl (by omega)
  have g3 : p2 (-150) = p2 (-151) + p2 (-151) := p2_dbl (by omega)
  have g4 : p2 (-151) = p2 (-152) + p2 (-152) := p2_dbl (by omega)
  have g5 := p2_pos (-152)
  unfold u1
  rw [g2, g1]
  rw [g3, g4] at h1 ⊢
  grind -mbtc
/-- A float64 near a value, narrowed. -/
theorem near1_nw {x : Nat} {q : Rat} {i : Int} (h : fN .f64 x = true) (h2 : A (vN .f64 x - q) ≤ p2 (-49) * A q + p2 i) (hi : i ≤ -152) (ht : A q < p2 126) : fit1 x ∧ Near1 (nw x) q := by
  have t2 := A_add (vN .f64 x - q) q
  rw [show vN .f64 x - q + q = vN .f64 x by grind] at t2
  have f2 : p2 (-49) * A q ≤ p2 (-49) * p2 126 := Rat.mul_le_mul_of_nonneg_left (Rat.le_of_lt ht) (Rat.le_of_lt (p2_pos _))
  rw [← p2_add] at f2
  have m1 := p2_mono hi
  have m2 := p2_mono (show (-152 : Int) ≤ -49 + 126 by decide)
  have m3 : p2 (-49 + 126) + p2 (-49 + 126) = p2 78 := p2_two _
  have m4 := p2_mono (show (78 : Int) ≤ 126 by decide)
  have m5 : p2 126 + p2 126 = p2 127 := p2_two _
  obtain ⟨a1, a2⟩ := nw_ok h (by grind)
  exact ⟨a1, a2.1, small_tail a2.2.1 h2 hi⟩

/-- Sums of two products of float32, in float64, narrowed. -/
theorem sum_near {P Q : Nat} {p q : Rat} (hP : fN .f64 P = true) (hp : vN .f64 P = p) (hQ : fN .f64 Q = true) (hq : vN .f64 Q = q) (ht : A (p + q) < p2 500) :
    fN .f64 (fop .add .f64 P Q) = true ∧ A (vN .f64 (fop .add .f64 P Q) - (p + q)) ≤ p2 (-53) * A (p + q) + p2 (-1075) := by
  have m1 := p2_mono (show (500 : Int) ≤ 1023 by decide)
  have := fop_add_res (k := .f64) hP hQ (by rw [hp, hq]; show _ < p2 1023; grind)
  rw [hp, hq] at this
  exact ⟨this.1, this.2.1⟩
theorem dif_near {P Q : Nat} {p q : Rat} (hP : fN .f64 P = true) (hp : vN .f64 P = p) (hQ : fN .f64 Q = true) (hq : vN .f64 Q = q) (ht : A (p - q) < p2 500) :
    fN .f64 (fop .sub .f64 P Q) = true ∧ A (vN .f64 (fop .sub .f64 P Q) - (p - q)) ≤ p2 (-53) * A (p - q) + p2 (-1075) := by
  have m1 := p2_mono (show (500 : Int) ≤ 1023 by decide)
  have := fop_sub_res (k := .f64) hP hQ (by rw [hp, hq]; show _ < p2 1023; grind)
  rw [hp, hq] at this
  exact ⟨this.1, this.2.1⟩
theorem weaken {a q : Rat} (h : A (a - q) ≤ p2 (-53) * A q + p2 (-1075)) : A (a - q) ≤ p2 (-49) * A q + p2 (-1075) := by
  have m1 := p2_mono (show (-53 : Int) ≤ -49 by decide)
  have := Rat.mul_le_mul_of_nonneg_right m1 (A_nonneg q)
  grind

/-- The two sums of a complex product, in float64. -/
theorem times_ok {x y : C2} (hx : fC x) (hy : fC y) (h1 : N (cv x) < p2 200) (h2 : N (cv y) < p2 200) (ht : N (cv x * cv y) < p2 500) :
    (fN .f64 (timesF x y).1 = true ∧ A (vN .f64 (timesF x y).1 - (cv x * cv y).re) ≤ p2 (-53) * A (cv x * cv y).re + p2 (-1075)) ∧
    (fN .f64 (timesF x y).2 = true ∧ A (vN .f64 (timesF x y).2 - (cv x * cv y).im) ≤ p2 (-53) * A (cv x * cv y).im + p2 (-1075)) := by
  have a1 := re_le_N (cv x); have a2 := im_le_N (cv x); have b1 := re_le_N (cv y); have b2 := im_le_N (cv y)
  have c1 := re_le_N (cv x * cv y); have c2 := im_le_N (cv x * cv y)
  simp only [cv] at a1 a2 b1 b2
  obtain ⟨p1, p2'⟩ := prod_exact hx.1 hy.1 (by unfold cv at *; grind) (by unfold cv at *; grind)
  obtain ⟨q1, q2⟩ := prod_exact hx.2 hy.2 (by unfold cv at *; grind) (by unfold cv at *; grind)
  obtain ⟨r1, r2⟩ := prod_exact hx.1 hy.2 (by unfold cv at *; grind) (by unfold cv at *; grind)
  obtain ⟨s1, s2⟩ := prod_exact hx.2 hy.1 (by unfold cv at *; grind) (by unfold cv at *; grind)
  exact ⟨dif_near p1 p2' q1 q2 (by simp only [re_mul, cv] at c1 ht ⊢; grind), sum_near r1 r2 s1 s2 (by simp only [im_mul, cv] at c2 ht ⊢; grind)⟩
theorem mulC_near {x y : C2} (hx : fC x) (hy : fC y) (h1 : N (cv x) < p2 200) (h2 : N (cv y) < p2 200) (ht : N (cv x * cv y) < p2 126) : fit2 (timesF x y) ∧ Near (mulC x y) (cv x * cv y) := by
  have m5 := p2_mono (show (126 : Int) ≤ 500 by decide)
  obtain ⟨⟨a1, a2⟩, b1, b2⟩ := times_ok hx hy h1 h2 (by grind)
  have c1 := re_le_N (cv x * cv y); have c2 := im_le_N (cv x * cv y)
  obtain ⟨f1, g1⟩ := near1_nw a1 (weaken a2) (by decide) (by grind)
  obtain ⟨f2, g2⟩ := near1_nw b1 (weaken b2) (by decide) (by grind)
  exact ⟨⟨f1, f2⟩, near_mk g1 g2⟩
end Go.Proofs.Ytklonahkacikbaa
