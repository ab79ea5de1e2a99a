/- Intervals of float64 operations. Conditions: numbers below 64. -/
import Derived.Test.YtklonahkacikbaaU10
import Derived.Test.YtklonahkacikbaaU9
import Derived.Laws.BitsAllLaws
namespace Go.Proofs.Ytklonahkacikbaa
open Go
set_option linter.unusedSimpArgs false
set_option linter.unusedVariables false

theorem nn_write {k : FloatKind} {d : Ieee.Datum} (hd : isNum d = true) (ht : A (valD d) < tK k) (h0 : 0 ≤ valD d) : 0 ≤ vN k (nrm k (k.encode d)) := by
  obtain ⟨s, m, e, rfl⟩ := isNum_ex hd
  obtain ⟨h1, h2, h3, _⟩ := write_ok k (.number s m e) rfl ht
  rw [fN_nrm h1]
  cases s
  · obtain ⟨M, P, h⟩ := write_num (k := k) (s := false) (m := m) (e := e) (by rw [A_val] at ht; exact ht)
    unfold vN
    rw [h]
    exact Rat.mul_nonneg (by exact_mod_cast Nat.zero_le M) (Rat.le_of_lt (p2_pos P))
  · have hm : (0 : Rat) ≤ (m : Rat) * p2 e := Rat.mul_nonneg (by exact_mod_cast Nat.zero_le m) (Rat.le_of_lt (p2_pos e))
    have hz : valD (.number true m e) = 0 := by
      have : valD (.number true m e) = -((m : Rat) * p2 e) := rfl
      rw [this] at h0 ⊢; grind
    have : vN k (k.encode (.number true m e)) = valD (.number true m e) := h3 0 0 (by rw [hz, A_zero, show ((0 : Nat) : Rat) = 0 from rfl]; grind) (by cases k <;> decide) (by cases k <;> decide)
    rw [this, hz]
    exact Rat.le_refl
theorem nn_add {x y : Nat} (hx : fN .f64 x = true) (hy : fN .f64 y = true) (h0 : 0 ≤ vN .f64 x + vN .f64 y) (ht : A (vN .f64 x + vN .f64 y) < p2 1023) : 0 ≤ vN .f64 (fop .add .f64 x y) := by
  obtain ⟨d, h1, h2, h3⟩ := sum_val hx hy
  have hv : vN .f64 x + vN .f64 y = valD d := h3.symm
  have hf : fop .add .f64 x y = nrm .f64 (FloatKind.f64.encode d) := by
    unfold fop floatBits Ieee.Format.add
    dsimp only
    rw [show (FloatKind.f64.format.read x).sum (FloatKind.f64.format.read y) = some d from h1]
    rfl
  rw [hf]
  rw [hv] at h0 ht
  exact nn_write h2 ht h0
theorem nn_sub {x y : Nat} (hx : fN .f64 x = true) (hy : fN .f64 y = true) (h0 : 0 ≤ vN .f64 x - vN .f64 y) (ht : A (vN .f64 x - vN .f64 y) < p2 1023) : 0 ≤ vN .f64 (fop .sub .f64 x y) := by
  obtain ⟨n1, n2⟩ := opposite_val (a := FloatKind.f64.decode y) hy
  obtain ⟨d, h1, h2, h3⟩ := sum_val (a := FloatKind.f64.decode x) (b := (FloatKind.f64.decode y).opposite) hx n1
  have hv : vN .f64 x - vN .f64 y = valD d := by rw [h3, n2]; unfold vN; grind
  have hf : fop .sub .f64 x y = nrm .f64 (FloatKind.f64.encode d) := by
    unfold fop floatBits Ieee.Format.sub
    dsimp only
    rw [show (FloatKind.f64.format.read x).sum (FloatKind.f64.format.read y).opposite = some d from h1]
    rfl
  rw [hf]
  rw [hv] at h0 ht
  exact nn_write h2 ht h0
theorem nn_mul {x y : Nat} (hx : fN .f64 x = true) (hy : fN .f64 y = true) (h0 : 0 ≤ vN .f64 x * vN .f64 y) (ht : A (vN .f64 x * vN .f64 y) < p2 1023) : 0 ≤ vN .f64 (fop .mul .f64 x y) := by
  obtain ⟨d, h1, h2, h3⟩ := product_val (a := FloatKind.f64.decode x) (b := FloatKind.f64.decode y) hx hy
  have hv : vN .f64 x * vN .f64 y = valD d := h3.symm
  have hf : fop .mul .f64 x y = nrm .f64 (FloatKind.f64.encode d) := by
    unfold fop floatBits Ieee.Format.mul
    dsimp only
    rw [show (FloatKind.f64.format.read x).product (FloatKind.f64.format.read y) = some d from h1]
    rfl
  rw [hf]
  rw [hv] at h0 ht
  exact nn_write h2 ht h0

theorem nn_quo {x y : Nat} {q : Rat} (hx : fN .f64 x = true) (hy : fN .f64 y = true) (h0 : 0 ≤ vN .f64 x) (hp : 0 < vN .f64 y) (hq : q * vN .f64 y = vN .f64 x) (hA : A q ≤ 64) : 0 ≤ vN .f64 (fop .quo .f64 x y) := by
  have yn : vN .f64 y ≠ 0 := by intro h; rw [h] at hp; exact absurd hp (by decide)
  obtain ⟨d, h1, h2, h3⟩ := quotient_val (a := FloatKind.f64.decode x) (b := FloatKind.f64.decode y) hx hy yn
  have hf : fop .quo .f64 x y = nrm .f64 (FloatKind.f64.encode d) := by
    unfold fop floatBits Ieee.Format.div
    dsimp only
    rw [show Ieee.Datum.quotient (FloatKind.f64.format.fractionBits + 2) (FloatKind.f64.format.read x) (FloatKind.f64.format.read y) = some d from h1]
    rfl
  have h3' : A (valD d * vN .f64 y - vN .f64 x) ≤ p2 (-54) * A (vN .f64 x) := h3
  rw [A_of_nonneg h0] at h3'
  have k1 := le_A (valD d * vN .f64 y - vN .f64 x)
  have k2 : p2 (-54) * vN .f64 x ≤ 1 / 2 * vN .f64 x := Rat.mul_le_mul_of_nonneg_right (by decide +kernel) h0
  have d0 : 0 ≤ valD d := lcancel_le hp (by grind)
  have d1 : valD d ≤ 2 * q := lcancel_le hp (by rw [Rat.mul_assoc, hq]; grind)
  have q64 := le_A q
  rw [hf]
  exact nn_write h2 (by rw [A_of_nonneg d0]; exact lt_of_p2 (a := 7) (Rat.le_trans (show valD d ≤ 128 by grind) (by decide +kernel)) (by decide)) d0
/-- A word that is a number from a to b. -/
def In (x : Nat) (a b : Rat) : Prop := fN .f64 (nrm .f64 x) = true ∧ a ≤ vN .f64 (nrm .f64 x) ∧ vN .f64 (nrm .f64 x) ≤ b
theorem In.mono {x : Nat} {a b c d : Rat} (h : In x a b) (h1 : c ≤ a) (h2 : b ≤ d) : In x c d := ⟨h.1, Rat.le_trans h1 h.2.1, Rat.le_trans h.2.2 h2⟩
def e0 : Rat := 1 / 1099511627776
theorem res_e0 {r : Nat} {q : Rat} (h : Res .f64 r q) (hq : A q ≤ 64) : A (vN .f64 r - q) ≤ e0 := by
  have h1 : A (vN .f64 r - q) ≤ p2 (-53) * A q + p2 (-1075) := h.2.1
  have h2 := Rat.mul_le_mul_of_nonneg_left hq (Rat.le_of_lt (p2_pos (-53)))
  have h3 : p2 (-53) * 64 + p2 (-1075) ≤ e0 := by decide +kernel
  exact Rat.le_trans h1 (Rat.le_trans (by generalize p2 (-53) = u at *; generalize p2 (-1075) = v at *; clear h3; grind) h3)
theorem l64 {x : Rat} (h : A x ≤ 64) : A x < p2 1023 := lt_of_p2 (a := 6) (Rat.le_trans h (by decide +kernel)) (by decide)
theorem in_of {r X : Nat} {lo hi : Rat} (h : nrm .f64 r = X) (h1 : fN .f64 X = true) (h2 : lo ≤ vN .f64 X) (h3 : vN .f64 X ≤ hi) : In r lo hi := by unfold In; rw [h]; exact ⟨h1, h2, h3⟩
theorem in_add {x y r : Nat} {a b c d lo hi : Rat} (hx : In x a b) (hy : In y c d) (hr : nrm .f64 r = fop .add .f64 (nrm .f64 x) (nrm .f64 y)) (h1 : -64 ≤ a + c) (h2 : b + d ≤ 64) (hlo : lo ≤ a + c - e0) (hhi : b + d + e0 ≤ hi) : In r lo hi := by
  have hA : A (vN .f64 (nrm .f64 x) + vN .f64 (nrm .f64 y)) ≤ 64 := A_le.2 ⟨by have := hx.2; have := hy.2; grind, by have := hx.2; have := hy.2; grind⟩
  have R := fop_add_res (k := .f64) hx.1 hy.1 (l64 hA)
  have e := le_A (vN .f64 (fop .add .f64 (nrm .f64 x) (nrm .f64 y)) - (vN .f64 (nrm .f64 x) + vN .f64 (nrm .f64 y)))
  have e' := res_e0 R hA
  have := hx.2; have := hy.2
  exact in_of hr R.1 (by grind) (by grind)
theorem in_sub {x y r : Nat} {a b c d lo hi : Rat} (hx : In x a b) (hy : In y c d) (hr : nrm .f64 r = fop .sub .f64 (nrm .f64 x) (nrm .f64 y)) (h1 : -64 ≤ a - d) (h2 : b - c ≤ 64) (hlo : lo ≤ a - d - e0) (hhi : b - c + e0 ≤ hi) : In r lo hi := by
  have hA : A (vN .f64 (nrm .f64 x) - vN .f64 (nrm .f64 y)) ≤ 64 := A_le.2 ⟨by have := hx.2; have := hy.2; grind, by have := hx.2; have := hy.2; grind⟩
  have R := fop_sub_res (k := .f64) hx.1 hy.1 (l64 hA)
  have e := le_A (vN .f64 (fop .sub .f64 (nrm .f64 x) (nrm .f64 y)) - (vN .f64 (nrm .f64 x) - vN .f64 (nrm .f64 y)))
  have e' := res_e0 R hA
  have := hx.2; have := hy.2
  exact in_of hr R.1 (by grind) (by grind)
/-- A difference that is not below 0. -/
theorem in_sub0 {x y r : Nat} {a b c d hi : Rat} (hx : In x a b) (hy : In y c d) (hr : nrm .f64 r = fop .sub .f64 (nrm .f64 x) (nrm .f64 y)) (h0 : d ≤ a) (h2 : b - c ≤ 64) (hhi : b - c + e0 ≤ hi) : In r 0 hi := by
  have hA : A (vN .f64 (nrm .f64 x) - vN .f64 (nrm .f64 y)) ≤ 64 := A_le.2 ⟨by have := hx.2; have := hy.2; grind, by have := hx.2; have := hy.2; grind⟩
  have R := fop_sub_res (k := .f64) hx.1 hy.1 (l64 hA)
  have e := le_A (vN .f64 (fop .sub .f64 (nrm .f64 x) (nrm .f64 y)) - (vN .f64 (nrm .f64 x) - vN .f64 (nrm .f64 y)))
  have e' := res_e0 R hA
  have := hx.2; have := hy.2
  exact in_of hr R.1 (nn_sub hx.1 hy.1 (by grind) (l64 hA)) (by grind)
/-- A product of numbers that are not below 0. -/
theorem in_mul {x y r : Nat} {a b c d lo hi : Rat} (hx : In x a b) (hy : In y c d) (hr : nrm .f64 r = fop .mul .f64 (nrm .f64 x) (nrm .f64 y)) (ha : 0 ≤ a) (hc : 0 ≤ c) (h2 : b * d ≤ 64) (hlo : lo ≤ a * c - e0 ∨ lo = 0) (hhi : b * d + e0 ≤ hi) : In r lo hi := by
  have m1 : a * c ≤ vN .f64 (nrm .f64 x) * vN .f64 (nrm .f64 y) := mul_le hx.2.1 hy.2.1 hc (Rat.le_trans ha hx.2.1)
  have m2 : vN .f64 (nrm .f64 x) * vN .f64 (nrm .f64 y) ≤ b * d := mul_le hx.2.2 hy.2.2 (Rat.le_trans hc hy.2.1) (Rat.le_trans ha (Rat.le_trans hx.2.1 hx.2.2))
  have m0 : 0 ≤ a * c := Rat.mul_nonneg ha hc
  have hA : A (vN .f64 (nrm .f64 x) * vN .f64 (nrm .f64 y)) ≤ 64 := A_le.2 ⟨by grind, by grind⟩
  have R := fop_mul_res (k := .f64) hx.1 hy.1 (l64 hA)
  have e := le_A (vN .f64 (fop .mul .f64 (nrm .f64 x) (nrm .f64 y)) - (vN .f64 (nrm .f64 x) * vN .f64 (nrm .f64 y)))
  have e' := res_e0 R hA
  refine in_of hr R.1 ?_ (by grind)
  rcases hlo with h | h
  · grind
  · rw [h]; exact nn_mul hx.1 hy.1 (by grind) (l64 hA)
/-- A quotient by what is above 0. -/
theorem in_quo {x y r : Nat} {a b c d lo hi : Rat} (hx : In x a b) (hy : In y c d) (hr : nrm .f64 r = fop .quo .f64 (nrm .f64 x) (nrm .f64 y)) (ha : 0 ≤ a) (hc : 0 < c) (hlo : (lo + e0) * d ≤ a ∨ lo = 0) (hlo0 : 0 ≤ lo) (hhi : b ≤ (hi - e0) * c) (hhi0 : e0 ≤ hi) (h64 : hi ≤ 64) : In r lo hi := by
  have y0 : 0 < vN .f64 (nrm .f64 y) := by have := hy.2.1; grind
  have yn : vN .f64 (nrm .f64 y) ≠ 0 := by intro h; rw [h] at y0; exact absurd y0 (by decide)
  obtain ⟨q, hq⟩ : ∃ q : Rat, q * vN .f64 (nrm .f64 y) = vN .f64 (nrm .f64 x) := ⟨vN .f64 (nrm .f64 x) * (vN .f64 (nrm .f64 y))⁻¹, by rw [Rat.mul_assoc, Rat.inv_mul_cancel _ yn, Rat.mul_one]⟩
  have q1 : q ≤ hi - e0 := lcancel_le y0 (by
    rw [hq]
    have := Rat.mul_le_mul_of_nonneg_left hy.2.1 (show 0 ≤ hi - e0 by grind)
    have := hx.2.2
    grind)
  have q0 : 0 ≤ q := lcancel_le y0 (by
    rw [hq]
    have := hx.2.1
    grind)
  have ep : (0 : Rat) ≤ e0 := by decide +kernel
  have hA : A q ≤ 64 := A_le.2 ⟨by grind, by grind⟩
  obtain ⟨f1, f2⟩ := fop_quo_ok hx.1 hy.1 yn hq (lt_of_p2 (a := 6) (Rat.le_trans hA (by decide +kernel)) (by decide))
  have f3 : A (vN .f64 (fop .quo .f64 (nrm .f64 x) (nrm .f64 y)) - q) ≤ e0 := by
    have h2 := Rat.mul_le_mul_of_nonneg_left hA (Rat.le_of_lt (p2_pos (-52)))
    have h3 : p2 (-52) * 64 + p2 (-1075) ≤ e0 := by decide +kernel
    exact Rat.le_trans f2 (Rat.le_trans (by generalize p2 (-52) = u at *; generalize p2 (-1075) = v at *; clear h3; grind) h3)
  have e := le_A (vN .f64 (fop .quo .f64 (nrm .f64 x) (nrm .f64 y)) - q)
  refine in_of hr f1 ?_ (by grind)
  rcases hlo with h | h
  · have q2 : lo + e0 ≤ q := lcancel_le y0 (by
      rw [hq]
      have := Rat.mul_le_mul_of_nonneg_left hy.2.2 (show 0 ≤ lo + e0 by grind)
      have := hx.2.1
      grind)
    grind
  · rw [h]; exact nn_quo hx.1 hy.1 (Rat.le_trans ha hx.2.1) y0 hq hA
theorem in_const {x : Nat} {a b : Rat} (h1 : fN .f64 x = true) (h2 : a ≤ vN .f64 x) (h3 : vN .f64 x ≤ b) : In x a b := by unfold In; rw [fN_nrm h1]; exact ⟨h1, h2, h3⟩
/-- A root. -/
theorem in_sqrt {x r : Nat} {a b lo hi : Rat} (hx : In x a b) (hr : nrm .f64 r = sqF (nrm .f64 x)) (ha : 0 ≤ a) (hb : b ≤ 64) (hlo : p2 (-60) ≤ lo) (hlo2 : lo * lo ≤ a) (hhi : p2 (-60) ≤ hi) (hhi2 : b ≤ hi * hi) : In r (lo * (1 - p2 (-40))) (hi * (1 + p2 (-40))) := by
  have v0 : 0 ≤ vN .f64 (nrm .f64 x) := Rat.le_trans ha hx.2.1
  have v90 : vN .f64 (nrm .f64 x) ≤ p2 90 := Rat.le_trans hx.2.2 (Rat.le_trans hb (by decide +kernel))
  exact in_of hr (sq_val hx.1 v0 v90).1 (sq_ge hx.1 v0 v90 hlo (Rat.le_trans hlo2 hx.2.1)) (sq_le hx.1 v0 v90 hhi (Rat.le_trans hx.2.2 hhi2))
/-- Comparisons. -/
theorem in_lss {x y : Nat} {a b c d : Rat} (hx : In x a b) (hy : In y c d) : (b < c → fcmp .lss .f64 (nrm .f64 x) (nrm .f64 y) = true) ∧ (d ≤ a → fcmp .lss .f64 (nrm .f64 x) (nrm .f64 y) = false) := by
  rw [cmp_lss hx.1 hy.1]
  have := hx.2; have := hy.2
  constructor
  · intro h; simp only [decide_eq_true_eq]; grind
  · intro h; simp only [decide_eq_false_iff_not]; grind
theorem in_geq {x y : Nat} {a b c d : Rat} (hx : In x a b) (hy : In y c d) : (b < c → fcmp .geq .f64 (nrm .f64 x) (nrm .f64 y) = false) ∧ (d ≤ a → fcmp .geq .f64 (nrm .f64 x) (nrm .f64 y) = true) := by
  rw [cmp_geq hx.1 hy.1]
  obtain ⟨h1, h2⟩ := in_lss hx hy
  exact ⟨fun h => by rw [h1 h]; rfl, fun h => by rw [h2 h]; rfl⟩
theorem in_gtr {x y : Nat} {a b c d : Rat} (hx : In x a b) (hy : In y c d) : (b ≤ c → fcmp .gtr .f64 (nrm .f64 x) (nrm .f64 y) = false) ∧ (d < a → fcmp .gtr .f64 (nrm .f64 x) (nrm .f64 y) = true) := by
  rw [cmp_gtr hx.1 hy.1]
  have := hx.2; have := hy.2
  constructor
  · intro h; simp only [decide_eq_false_iff_not]; grind
  · intro h; simp only [decide_eq_true_eq]; grind
/-- A float64 narrowed. -/
theorem in_nw {x : Nat} {a b : Rat} (hx : In x a b) (h1 : -64 ≤ a) (h2 : b ≤ 64) : fit1 (nrm .f64 x) ∧ fN .f32 (nw (nrm .f64 x)) = true ∧ a - 1 / 100000 ≤ vN .f32 (nw (nrm .f64 x)) ∧ vN .f32 (nw (nrm .f64 x)) ≤ b + 1 / 100000 := by
  have hA : A (vN .f64 (nrm .f64 x)) ≤ 64 := A_le.2 ⟨by have := hx.2; grind, by have := hx.2; grind⟩
  obtain ⟨f, R⟩ := nw_ok hx.1 (lt_of_p2 (a := 6) (Rat.le_trans hA (by decide +kernel)) (by decide))
  have h1 : A (vN .f32 (nw (nrm .f64 x)) - vN .f64 (nrm .f64 x)) ≤ p2 (-24) * A (vN .f64 (nrm .f64 x)) + p2 (-150) := R.2.1
  have h2 := Rat.mul_le_mul_of_nonneg_left hA (Rat.le_of_lt (p2_pos (-24)))
  have h3 : p2 (-24) * 64 + p2 (-150) ≤ 1 / 100000 := by decide +kernel
  have h4 : A (vN .f32 (nw (nrm .f64 x)) - vN .f64 (nrm .f64 x)) ≤ 1 / 100000 := Rat.le_trans h1 (Rat.le_trans (by generalize p2 (-24) = u at *; generalize p2 (-150) = v at *; clear h3; grind) h3)
  have e := le_A (vN .f32 (nw (nrm .f64 x)) - vN .f64 (nrm .f64 x))
  have := hx.2
  exact ⟨f, R.1, by grind, by grind⟩
end Go.Proofs.Ytklonahkacikbaa

/- Numbers of 64 bits on values: intervals, absolute values, opposites, the steps of the angle. Conditions: none beyond each fact's own. -/
namespace Go.Proofs.Ytklonahkacikbaa
open Go Go.RowKit
set_option linter.unusedSimpArgs false
set_option linter.unusedVariables false

theorem raw_of {k : FloatKind} {r X : Nat} (h : nrm k r = X) (hX : fN k X = true) : r = X := by
  cases hr : isN k r
  · rw [nrm_of_not hr] at h; exact h
  · rw [nrm_of_nan hr] at h
    rw [← h] at hX
    have := fN_not_nan hX
    rw [isN_qnan] at this
    cases this
theorem In.raw {x : Nat} {a b : Rat} (h : In x a b) : nrm .f64 x = x := (raw_of rfl h.1).symm
theorem nrm64_0 : nrm .f64 0 = 0 := by decide +kernel
theorem run_bits (x : Nat) (w : World) : (callFunc 88 #[.float .f64 x]).run Try.prog w = .ok (.value (.int .u64 x)) w := by kernel_rfl
theorem run_frombits (x : Int) (w : World) : (callFunc 87 #[.int .u64 x]).run Try.prog w = .ok (.value (.float .f64 x.toNat)) w := by kernel_rfl
/-- A word that is a number from a to b, itself. -/
def Iv (x : Nat) (a b : Rat) : Prop := fN .f64 x = true ∧ a ≤ vN .f64 x ∧ vN .f64 x ≤ b
theorem Iv.in_ {x : Nat} {a b : Rat} (h : Iv x a b) : In x a b := by unfold In; rw [fN_nrm h.1]; exact h
theorem Iv.mono {x : Nat} {a b c d : Rat} (h : Iv x a b) (h1 : c ≤ a) (h2 : b ≤ d) : Iv x c d := ⟨h.1, Rat.le_trans h1 h.2.1, Rat.le_trans h.2.2 h2⟩
theorem In.iv {x : Nat} {a b : Rat} (h : In x a b) : Iv (nrm .f64 x) a b := h
theorem iv_of {op : BinOp} {x y : Nat} {a b : Rat} (h : In (fop op .f64 x y) a b) : Iv (fop op .f64 x y) a b := by
  have : nrm .f64 (fop op .f64 x y) = fop op .f64 x y := by unfold fop; rw [nrm_nrm]
  unfold In at h
  rw [this] at h
  exact h
theorem fop_r {op : BinOp} {x y : Nat} {a b c d : Rat} (hx : Iv x a b) (hy : Iv y c d) : nrm .f64 (fop op .f64 x y) = fop op .f64 (nrm .f64 x) (nrm .f64 y) := by
  rw [fN_nrm hx.1, fN_nrm hy.1]; unfold fop; rw [nrm_nrm]
theorem iv_add {x y : Nat} {a b c d lo hi : Rat} (hx : Iv x a b) (hy : Iv y c d) (h1 : -64 ≤ a + c) (h2 : b + d ≤ 64) (hlo : lo ≤ a + c - e0) (hhi : b + d + e0 ≤ hi) : Iv (fop .add .f64 x y) lo hi := iv_of (in_add hx.in_ hy.in_ (fop_r hx hy) h1 h2 hlo hhi)
theorem iv_sub {x y : Nat} {a b c d lo hi : Rat} (hx : Iv x a b) (hy : Iv y c d) (h1 : -64 ≤ a - d) (h2 : b - c ≤ 64) (hlo : lo ≤ a - d - e0) (hhi : b - c + e0 ≤ hi) : Iv (fop .sub .f64 x y) lo hi := iv_of (in_sub hx.in_ hy.in_ (fop_r hx hy) h1 h2 hlo hhi)
theorem iv_sub0 {x y : Nat} {a b c d hi : Rat} (hx : Iv x a b) (hy : Iv y c d) (h0 : d ≤ a) (h2 : b - c ≤ 64) (hhi : b - c + e0 ≤ hi) : Iv (fop .sub .f64 x y) 0 hi := iv_of (in_sub0 hx.in_ hy.in_ (fop_r hx hy) h0 h2 hhi)
theorem iv_mul {x y : Nat} {a b c d lo hi : Rat} (hx : Iv x a b) (hy : Iv y c d) (ha : 0 ≤ a) (hc : 0 ≤ c) (h2 : b * d ≤ 64) (hlo : lo ≤ a * c - e0 ∨ lo = 0) (hhi : b * d + e0 ≤ hi) : Iv (fop .mul .f64 x y) lo hi := iv_of (in_mul hx.in_ hy.in_ (fop_r hx hy) ha hc h2 hlo hhi)
theorem iv_quo {x y : Nat} {a b c d lo hi : Rat} (hx : Iv x a b) (hy : Iv y c d) (ha : 0 ≤ a) (hc : 0 < c) (hlo : (lo + e0) * d ≤ a ∨ lo = 0) (hlo0 : 0 ≤ lo) (hhi : b ≤ (hi - e0) * c) (hhi0 : e0 ≤ hi) (h64 : hi ≤ 64) : Iv (fop .quo .f64 x y) lo hi := iv_of (in_quo hx.in_ hy.in_ (fop_r hx hy) ha hc hlo hlo0 hhi hhi0 h64)
theorem c1_iv : Iv (nrm .f64 4607182418800017408) 1 1 := by unfold Iv; decide +kernel
theorem c2pi_iv : Iv (nrm .f64 4618760256179416344) (62831 / 10000) (62832 / 10000) := by unfold Iv; decide +kernel
theorem chalf_iv : Iv (nrm .f64 4602678819172646912) (1 / 2) (1 / 2) := by unfold Iv; decide +kernel
theorem cquart_iv : Iv (nrm .f64 4598175219545276416) (1 / 4) (1 / 4) := by unfold Iv; decide +kernel
theorem e0v : e0 = 1 / 1099511627776 := rfl
theorem andNot_any (y : Nat) (h : y < 18446744073709551616) : bits .andNot .u64 (y : Int) 9223372036854775808 = ((y % 9223372036854775808 : Nat) : Int) := by
  have h1 := u64_andNot_nat y 9223372036854775808 (by omega) (by omega)
  rw [show ((9223372036854775808 : Nat) : Int) = 9223372036854775808 from rfl] at h1
  rw [h1]
  congr 1
  have h2 : y &&& (18446744073709551615 - 9223372036854775808) = y % 2 ^ 63 := by
    rw [show (18446744073709551615 - 9223372036854775808 : Nat) = 2 ^ 63 - 1 by decide]
    exact Nat.and_two_pow_sub_one_eq_mod y 63
  rw [h2]
def absW (y : Nat) : Nat := y % 9223372036854775808
theorem abs_impl (y : Nat) (w : World) (h : y < 18446744073709551616) : Calls Try.prog 77 #[.float .f64 y] w fun e w' => e = .returned (.float .f64 (absW y)) ∧ w = w' := by
  have hb := run_bits
  have hf := run_frombits
  have Ha := Lib.hid (andNot_any y h)
  clear h
  go_enter Try.func77, Try.ntmps77
  go_wp2
  go_ret
  exact ⟨by simp [Ha.out, absW]; omega, rfl⟩
theorem absW_val {y : Nat} (h : fN .f64 y = true) : fN .f64 (absW y) = true ∧ vN .f64 (absW y) = A (vN .f64 y) := by
  obtain ⟨s, m, e, hd⟩ := isNum_ex h
  have e1' : Ieee.double.signWeight = 9223372036854775808 := double_facts.1
  have key : FloatKind.f64.decode (absW y) = .number false m e := by
    have hd' : Ieee.double.read y = .number s m e := hd
    show Ieee.double.read (y % 9223372036854775808) = _
    unfold Ieee.Format.read at hd' ⊢
    dsimp only at hd' ⊢
    rw [e1'] at hd' ⊢
    have h1 : y % 9223372036854775808 / 9223372036854775808 % 2 = 0 := by omega
    have h2 : y % 9223372036854775808 % 9223372036854775808 = y % 9223372036854775808 := by omega
    rw [h1, h2]
    split at hd'
    · rename_i hh; rw [if_pos hh]; cases hd'; rfl
    · rename_i hh
      rw [if_neg hh]
      split at hd'
      · rename_i hh2; rw [if_pos hh2]; cases hd'; rfl
      · split at hd' <;> cases hd'
  refine ⟨by unfold fN; rw [key]; rfl, ?_⟩
  unfold vN
  rw [key, hd, A_val]
  rfl
theorem enc_lt (s : Bool) (m : Nat) (e : Int) : FloatKind.f64.encode (.number s m e) < 18446744073709551616 := by
  obtain ⟨r, h1, h2⟩ := nearest_rung Ieee.double s m e
  show Ieee.double.nearest s m e < _
  rw [h1]
  have e1' : Ieee.double.signWeight = 9223372036854775808 := double_facts.1
  have e3 : Ieee.double.infRung = 9218868437227405312 := double_facts.2.2.1
  unfold Ieee.Format.word
  rw [e1']
  rw [e3] at h2
  split <;> omega
theorem wd_lt {x : Nat} (h : fN .f32 x = true) (ht : A (vN .f32 x) < p2 1023) : wd x < 18446744073709551616 := by
  obtain ⟨s, m, e, hd, h1, h2⟩ := digits .f32 x h
  have hv : vN .f32 x = valD (.number s m e) := by unfold vN; rw [hd]
  have hw := write_ok .f64 (.number s m e) rfl (by rw [← hv]; exact ht)
  have hnum := (write_ok .f64 (.number s m e) rfl (by rw [← hv]; exact ht)).1
  have he : wd x = nrm .f64 (FloatKind.f64.encode (.number s m e)) := by
    unfold wd fcvt floatToFloatBits
    rw [if_neg (by decide), hd]
    dsimp only
    rw [isInf_of_num hnum]
    rfl
  rw [he, fN_nrm hw.1]
  exact enc_lt s m e
theorem nan_bits : fN .f64 9221120237041090561 = false := by decide +kernel
theorem nan_impl (w : World) : Calls Try.prog 76 #[] w fun e w' => ∃ x, e = .returned (.float .f64 x) ∧ w = w' ∧ fN .f64 (nrm .f64 x) = false := by
  have hf := run_frombits
  go_enter Try.func76, Try.ntmps76
  go_wp2
  go_ret
  exact ⟨_, rfl, rfl, by decide +kernel⟩
theorem self_sub {y : Nat} (h : fN .f64 y = true) : fcmp .neq .f64 (fop .sub .f64 y y) 0 = false := by
  have f0 : fN .f64 0 = true := by decide +kernel
  have v0 : vN .f64 0 = 0 := by decide +kernel
  have e : vN .f64 y - vN .f64 y = 0 := by grind
  have R := fop_sub_res (k := .f64) h h (by rw [e, A_zero]; exact p2_pos _)
  rw [e] at R
  have hz := R.2.2 0 0 (by rw [A_zero, show ((0 : Nat) : Rat) = 0 from rfl]; grind) (by decide) (by decide)
  rw [cmp_neq R.1 f0, cmp_eql R.1 f0, hz, v0]
  simp
theorem le_of_parts2 {x y : Rat} (h1 : x ≤ y) (h2 : -x ≤ y) : A x ≤ y := A_le.2 ⟨h1, h2⟩
theorem in_zero : In 0 0 0 := in_const (by decide +kernel) (by decide +kernel) (by decide +kernel)
theorem cquart_in : In 4598175219545276416 (1 / 4) (1 / 4) := in_const (by decide +kernel) (by decide +kernel) (by decide +kernel)
theorem c8_iv : Iv (nrm .f64 4620693217682128896) 8 8 := by unfold Iv; decide +kernel
theorem iv_sqrt {x : Nat} {a b lo hi : Rat} (hx : Iv x a b) (ha : 0 ≤ a) (hb : b ≤ 64) (hlo : p2 (-60) ≤ lo) (hlo2 : lo * lo ≤ a) (hhi : p2 (-60) ≤ hi) (hhi2 : b ≤ hi * hi) : Iv (sqF x) (lo * (1 - p2 (-40))) (hi * (1 + p2 (-40))) := by
  have h := in_sqrt (r := sqF x) hx.in_ (by rw [fN_nrm hx.1]; unfold sqF; rw [nrm_nrm]) ha hb hlo hlo2 hhi hhi2
  have e : nrm .f64 (sqF x) = sqF x := by unfold sqF; rw [nrm_nrm]
  unfold In at h
  rw [e] at h
  exact h
def tS (t : Nat) : Nat := fop .quo .f64 t (fop .add .f64 (nrm .f64 4607182418800017408) (sqF (fop .add .f64 (nrm .f64 4607182418800017408) (fop .mul .f64 t t))))
theorem pA_iv {u p k : Nat} (hu : Iv u 0 (229 / 100000)) (hp : Iv p 0 (1001 / 1000)) (hk : Iv k 1 15) : Iv (fop .sub .f64 (fop .quo .f64 (nrm .f64 4607182418800017408) k) (fop .mul .f64 u p)) 0 (1001 / 1000) := by
  have h1 : Iv (fop .mul .f64 u p) 0 (23 / 10000) := iv_mul hu hp (by decide) (by decide) (by decide +kernel) (.inr rfl) (by decide +kernel)
  have h2 : Iv (fop .quo .f64 (nrm .f64 4607182418800017408) k) (66 / 1000) (10001 / 10000) := iv_quo c1_iv hk (by decide) (by decide) (by decide +kernel) (by decide +kernel) (by decide +kernel) (by decide +kernel) (by decide +kernel)
  exact iv_sub0 h2 h1 (by decide +kernel) (by decide +kernel) (by decide +kernel)
def kA (j : Nat) : Nat := nrm .f64 (floatOfInt .f64 (15 - 2 * (j : Int)))
theorem kA_test : ∀ j, j < 8 → fcmp .geq .f64 (kA j) (nrm .f64 4607182418800017408) = true := by decide +kernel
theorem kA_last : fcmp .geq .f64 (kA 8) (nrm .f64 4607182418800017408) = false := by decide +kernel
theorem kA_next : ∀ j, j < 8 → fop .sub .f64 (kA j) (nrm .f64 4611686018427387904) = kA (j + 1) := by decide +kernel
theorem kA_zero : nrm .f64 4624633867356078080 = kA 0 := by decide +kernel
theorem kA_iv : ∀ j, j < 8 → fN .f64 (kA j) = true ∧ 1 ≤ vN .f64 (kA j) ∧ vN .f64 (kA j) ≤ 15 := by decide +kernel
/-- The opposite. -/
theorem neg_val {x : Nat} (h : fN .f64 x = true) : fN .f64 (Op.negFloat .f64 x) = true ∧ vN .f64 (Op.negFloat .f64 x) = -vN .f64 x := by
  have h2 : Op.negFloat .f64 x = x ^^^ 2 ^ 63 := rfl
  have e1 : Ieee.double.signWeight = 2 ^ 63 := by rw [double_facts.1]
  have hm : (x ^^^ 2 ^ 63) % 2 ^ 63 = x % 2 ^ 63 := by rw [Nat.xor_mod_two_pow, Nat.mod_self, Nat.xor_zero]
  have hs : ((x ^^^ 2 ^ 63) / 2 ^ 63 % 2 == 1) = !(x / 2 ^ 63 % 2 == 1) := by
    have t1 : ∀ y : Nat, (y / 2 ^ 63 % 2 == 1) = y.testBit 63 := fun y => by
      rw [Nat.testBit_eq_decide_div_mod_eq]
      by_cases hy : y / 2 ^ 63 % 2 = 1 <;> simp [hy]
    rw [t1, t1, Nat.testBit_xor, Nat.testBit_two_pow_self]
    cases x.testBit 63 <;> rfl
  have key : Ieee.double.read (x ^^^ 2 ^ 63) = (Ieee.double.read x).opposite := by
    unfold Ieee.Format.read
    simp only [e1, hm, hs]
    split
    · rfl
    · split
      · rfl
      · split <;> rfl
  have hx : isNum (Ieee.double.read x) = true := h
  obtain ⟨a1, a2⟩ := opposite_val hx
  refine ⟨by unfold fN; show isNum (Ieee.double.read _) = true; rw [h2, key]; exact a1, ?_⟩
  unfold vN
  show valD (Ieee.double.read _) = -valD (Ieee.double.read x)
  rw [h2, key]; exact a2
theorem in_neg {x : Nat} {a b : Rat} (h : In x a b) : In (Op.negFloat .f64 x) (-b) (-a) := by
  have hx : nrm .f64 x = x := h.raw
  have h' := h
  unfold In at h'
  rw [hx] at h'
  obtain ⟨f, v⟩ := neg_val h'.1
  unfold In
  rw [fN_nrm f]
  exact ⟨f, by rw [v]; grind, by rw [v]; grind⟩
theorem wid_abs {y r : Nat} (hf : fN .f32 (nrm .f32 y) = true) (hb : A (vN .f32 (nrm .f32 y)) < p2 1023) (hr : nrm .f64 r = wd (nrm .f32 y)) : r < 18446744073709551616 ∧ fN .f64 (nrm .f64 r) = true ∧ vN .f64 (nrm .f64 r) = vN .f32 (nrm .f32 y) ∧ fN .f64 (absW r) = true ∧ vN .f64 (absW r) = A (vN .f32 (nrm .f32 y)) := by
  obtain ⟨w1, w2⟩ := wd_ok hf hb
  have e : r = wd (nrm .f32 y) := raw_of hr w1
  have h2 : fN .f64 r = true := by rw [e]; exact w1
  obtain ⟨a1, a2⟩ := absW_val h2
  have v2 : vN .f64 r = vN .f32 (nrm .f32 y) := by rw [e]; exact w2
  refine ⟨by rw [e]; exact wd_lt hf hb, by rw [hr]; exact w1, by rw [hr]; exact w2, a1, by rw [a2, v2]⟩
theorem abs_facts {r : Nat} {v : Rat} (h1 : r < 18446744073709551616) (h2 : fN .f64 (nrm .f64 r) = true) (h3 : vN .f64 (nrm .f64 r) = v) : fN .f64 (absW r) = true ∧ vN .f64 (absW r) = A v := by
  have e : nrm .f64 r = r := (raw_of rfl h2).symm
  rw [e] at h2 h3
  obtain ⟨a1, a2⟩ := absW_val h2
  exact ⟨a1, by rw [a2, h3]⟩
end Go.Proofs.Ytklonahkacikbaa

/- The angle of a number in turns as a pure function of words, and its bounds. Conditions: finite words, not both 0. -/
namespace Go.Proofs.Ytklonahkacikbaa
open Go Go.RowKit
set_option linter.unusedSimpArgs false
set_option linter.unusedVariables false

def angT (a b : Nat) : Nat := if fcmp .gtr .f64 a b then fop .quo .f64 b a else fop .quo .f64 a b
def tI (t : Nat) : Nat → Nat | 0 => t | i + 1 => tS (tI t i)
def angP (u : Nat) : Nat → Nat | 0 => nrm .f64 0 | i + 1 => fop .sub .f64 (fop .quo .f64 (nrm .f64 4607182418800017408) (kA i)) (fop .mul .f64 u (angP u i))
def angM (t : Nat) : Nat := fop .quo .f64 (fop .mul .f64 (nrm .f64 4620693217682128896) (fop .mul .f64 t (angP (fop .mul .f64 t t) 8))) (nrm .f64 4618760256179416344)
def angG (g : Bool) (m : Nat) : Nat := if g then fop .sub .f64 (nrm .f64 4598175219545276416) m else m
def angX (g : Bool) (m : Nat) : Nat := if g then fop .sub .f64 (nrm .f64 4602678819172646912) m else m
def angN (g : Bool) (m : Nat) : Nat := if g then Op.negFloat .f64 m else m
/-- The angle of a point, of 64-bit words. -/
def angW (y x : Nat) : Nat := angN (fcmp .lss .f64 y 0) (angX (fcmp .lss .f64 x 0) (angG (fcmp .gtr .f64 (absW y) (absW x)) (angM (tI (angT (absW y) (absW x)) 3))))
/-- The angle of a point. -/
def angF (y x : Nat) : Nat := if fcmp .eql .f32 x 0 && fcmp .eql .f32 y 0 then 0 else nw (angW (wd y) (wd x))

theorem quo_iv {a b : Nat} {T : Rat} (ha : fN .f64 a = true) (hb : fN .f64 b = true) (a0 : 0 ≤ vN .f64 a) (b0 : 0 < vN .f64 b) (h : vN .f64 a ≤ T * vN .f64 b) (hT : T ≤ 1) : Iv (fop .quo .f64 a b) 0 (T + e0) := by
  have yn : vN .f64 b ≠ 0 := by intro h; rw [h] at b0; exact absurd b0 (by decide)
  obtain ⟨q, hq⟩ : ∃ q : Rat, q * vN .f64 b = vN .f64 a := ⟨vN .f64 a * (vN .f64 b)⁻¹, by rw [Rat.mul_assoc, Rat.inv_mul_cancel _ yn, Rat.mul_one]⟩
  have q1 : q ≤ T := lcancel_le b0 (by rw [hq]; exact h)
  have q0 : 0 ≤ q := lcancel_le b0 (by rw [hq]; grind)
  have hA : A q ≤ 64 := by rw [A_of_nonneg q0]; grind
  obtain ⟨f1, f2⟩ := fop_quo_ok ha hb yn hq (lt_of_p2 (a := 6) (Rat.le_trans hA (by decide +kernel)) (by decide))
  have f3 : A (vN .f64 (fop .quo .f64 a b) - q) ≤ e0 := by
    have h2 := Rat.mul_le_mul_of_nonneg_left hA (Rat.le_of_lt (p2_pos (-52)))
    have h3 : p2 (-52) * 64 + p2 (-1075) ≤ e0 := by decide +kernel
    exact Rat.le_trans f2 (Rat.le_trans (by generalize p2 (-52) = u at *; generalize p2 (-1075) = v at *; clear h3; grind) h3)
  have e := le_A (vN .f64 (fop .quo .f64 a b) - q)
  refine ⟨f1, nn_quo ha hb a0 b0 hq hA, ?_⟩
  generalize e0 = t at *
  grind
theorem angT_iv {a b : Nat} (ha : fN .f64 a = true) (hb : fN .f64 b = true) (a0 : 0 ≤ vN .f64 a) (b0 : 0 ≤ vN .f64 b) (h : vN .f64 a ≠ 0 ∨ vN .f64 b ≠ 0) : Iv (angT a b) 0 (10001 / 10000) := by
  have e : (1 : Rat) + e0 ≤ 10001 / 10000 := by decide +kernel
  unfold angT
  rw [cmp_gtr ha hb]
  by_cases hg : vN .f64 b < vN .f64 a
  · simp only [hg, decide_true, if_true]
    exact (quo_iv (T := 1) hb ha b0 (by grind) (by grind) (by decide)).mono (by decide) e
  · simp only [hg, decide_false]
    have bp : 0 < vN .f64 b := by
      rcases h with h | h
      · have : 0 < vN .f64 a := Rat.lt_of_le_of_ne a0 (fun h' => h h'.symm)
        grind
      · exact Rat.lt_of_le_of_ne b0 (fun h' => h h'.symm)
    exact (quo_iv (T := 1) ha hb a0 bp (by grind) (by decide)).mono (by decide) e
def tB1 : Nat → Rat | 0 => 10001 / 10000 | 1 => 5003 / 10000 | 2 => 2503 / 10000 | _ => 1253 / 10000
theorem tS_iv1 {t : Nat} {T T' : Rat} (h : Iv t 0 T) (hT : T ≤ 10001 / 10000) (hT' : T ≤ (T' - e0) * (19998 / 10000)) (h0 : e0 ≤ T') (h1 : T' ≤ 1) : Iv (tS t) 0 T' := by
  have h' := h.mono Rat.le_refl hT
  have a1 : Iv (fop .mul .f64 t t) 0 (10003 / 10000) := iv_mul h' h' (by decide) (by decide) (by decide +kernel) (.inr rfl) (by decide +kernel)
  have a2 : Iv (fop .add .f64 (nrm .f64 4607182418800017408) (fop .mul .f64 t t)) (9999 / 10000) (20004 / 10000) := iv_add c1_iv a1 (by decide +kernel) (by decide +kernel) (by decide +kernel) (by decide +kernel)
  have a3 := (iv_sqrt (lo := 9999 / 10000) (hi := 142 / 100) a2 (by decide +kernel) (by decide +kernel) (by decide +kernel) (by decide +kernel) (by decide +kernel) (by decide +kernel)).mono (show (9998 / 10000 + 1 / 100000 : Rat) ≤ _ by decide +kernel) (show _ ≤ (143 / 100 : Rat) by decide +kernel)
  have a4 : Iv (fop .add .f64 (nrm .f64 4607182418800017408) (sqF (fop .add .f64 (nrm .f64 4607182418800017408) (fop .mul .f64 t t)))) (19998 / 10000) (25 / 10) := iv_add c1_iv a3 (by decide +kernel) (by decide +kernel) (by decide +kernel) (by decide +kernel)
  exact iv_quo h a4 (by decide) (by decide +kernel) (.inr rfl) (by decide) hT' h0 (Rat.le_trans h1 (by decide))
theorem tB1_ok : ∀ j, j < 3 → tB1 j ≤ 10001 / 10000 ∧ tB1 j ≤ (tB1 (j + 1) - e0) * (19998 / 10000) ∧ e0 ≤ tB1 (j + 1) ∧ tB1 (j + 1) ≤ 1 := by decide +kernel
theorem tI_iv {t : Nat} (h : Iv t 0 (10001 / 10000)) : ∀ i, i ≤ 3 → Iv (tI t i) 0 (tB1 i)
  | 0, _ => h
  | i + 1, hi => by
    obtain ⟨a, b, c, d⟩ := tB1_ok i (by omega)
    exact tS_iv1 (tI_iv h i (by omega)) a b c d
theorem angP_iv {u : Nat} (hu : Iv u 0 (16 / 1000)) : ∀ i, i ≤ 8 → Iv (angP u i) 0 (1001 / 1000)
  | 0, _ => by unfold angP Iv; decide +kernel
  | i + 1, hi => by
    have hp := angP_iv hu i (by omega)
    have hk := kA_iv i (by omega)
    have h1 : Iv (fop .mul .f64 u (angP u i)) 0 (161 / 10000) := iv_mul hu hp (by decide) (by decide) (by decide +kernel) (.inr rfl) (by decide +kernel)
    have h2 : Iv (fop .quo .f64 (nrm .f64 4607182418800017408) (kA i)) (66 / 1000) (10001 / 10000) := iv_quo c1_iv hk (by decide) (by decide) (by decide +kernel) (by decide +kernel) (by decide +kernel) (by decide +kernel) (by decide +kernel)
    exact iv_sub0 h2 h1 (by decide +kernel) (by decide +kernel) (by decide +kernel)
theorem angM_iv {t : Nat} (ht : Iv t 0 (1253 / 10000)) : Iv (angM t) 0 (161 / 1000) := by
  have hu : Iv (fop .mul .f64 t t) 0 (16 / 1000) := iv_mul ht ht (by decide) (by decide) (by decide +kernel) (.inr rfl) (by decide +kernel)
  have hp := angP_iv hu 8 (by decide)
  have h1 : Iv (fop .mul .f64 t (angP (fop .mul .f64 t t) 8)) 0 (1255 / 10000) := iv_mul ht hp (by decide) (by decide) (by decide +kernel) (.inr rfl) (by decide +kernel)
  have h2 : Iv (fop .mul .f64 (nrm .f64 4620693217682128896) (fop .mul .f64 t (angP (fop .mul .f64 t t) 8))) 0 (10041 / 10000) := iv_mul c8_iv h1 (by decide) (by decide) (by decide +kernel) (.inr rfl) (by decide +kernel)
  exact iv_quo h2 c2pi_iv (by decide) (by decide +kernel) (.inr rfl) (by decide) (by decide +kernel) (by decide +kernel) (by decide +kernel)
theorem angG_iv (g : Bool) {m : Nat} (h : Iv m 0 (161 / 1000)) : Iv (angG g m) 0 (251 / 1000) := by
  cases g
  · exact h.mono (by decide) (by decide +kernel)
  · exact iv_sub0 cquart_iv h (by decide +kernel) (by decide +kernel) (by decide +kernel)
theorem angX_iv (g : Bool) {m : Nat} (h : Iv m 0 (251 / 1000)) : Iv (angX g m) 0 (501 / 1000) := by
  cases g
  · exact h.mono (by decide) (by decide +kernel)
  · exact iv_sub0 chalf_iv h (by decide +kernel) (by decide +kernel) (by decide +kernel)
theorem angN_iv (g : Bool) {m : Nat} (h : Iv m 0 (501 / 1000)) : Iv (angN g m) (-(501 / 1000)) (501 / 1000) := by
  cases g
  · exact h.mono (by decide +kernel) Rat.le_refl
  · obtain ⟨a, b, c⟩ := h
    obtain ⟨d, e⟩ := neg_val a
    exact ⟨d, by show _ ≤ vN .f64 (Op.negFloat .f64 m); rw [e]; grind, by show vN .f64 (Op.negFloat .f64 m) ≤ _; rw [e]; grind⟩
/-- What the walks need of a number's two absolute values. -/
structure AngA (a b : Nat) : Prop where
  fa : fN .f64 a = true
  fb : fN .f64 b = true
  t : Iv (angT a b) 0 (10001 / 10000)
theorem AngA.m {a b : Nat} (h : AngA a b) : Iv (angM (tI (angT a b) 3)) 0 (161 / 1000) := angM_iv (tI_iv h.t 3 (by decide))
theorem ang_fit {x : Nat} (h : Iv x (-(501 / 1000)) (501 / 1000)) : fit1 x ∧ fN .f32 (nw x) = true ∧ A (vN .f32 (nw x)) ≤ 502 / 1000 := by
  have := in_nw h.in_ (by decide +kernel) (by decide +kernel)
  rw [fN_nrm h.1] at this
  obtain ⟨a, b, c, d⟩ := this
  exact ⟨a, b, le_of_parts2 (by grind) (by grind)⟩
theorem angA_of {y x : Nat} (fy : fN .f32 y = true) (fx : fN .f32 x = true) (hy : A (vN .f32 y) < p2 1023) (hx : A (vN .f32 x) < p2 1023) (h : vN .f32 x ≠ 0 ∨ vN .f32 y ≠ 0) : AngA (absW (wd y)) (absW (wd x)) := by
  obtain ⟨w1, w2⟩ := wd_ok fy hy
  obtain ⟨w3, w4⟩ := wd_ok fx hx
  obtain ⟨a1, a2⟩ := absW_val w1
  obtain ⟨b1, b2⟩ := absW_val w3
  have nz : ∀ {r : Rat}, r ≠ 0 → A r ≠ 0 := fun {r} h h' => h (by unfold A at h'; split at h' <;> grind)
  refine ⟨a1, b1, angT_iv a1 b1 (by rw [a2]; exact A_nonneg _) (by rw [b2]; exact A_nonneg _) ?_⟩
  rcases h with h | h
  · exact .inr (by rw [b2, w4]; exact nz h)
  · exact .inl (by rw [a2, w2]; exact nz h)
theorem angW_iv {y x : Nat} (h : AngA (absW y) (absW x)) : Iv (angW y x) (-(501 / 1000)) (501 / 1000) := angN_iv _ (angX_iv _ (angG_iv _ h.m))
/-- The angle is told and small. -/
theorem angF_ok {y x : Nat} (fy : fN .f32 y = true) (fx : fN .f32 x = true) (hy : A (vN .f32 y) < p2 1023) (hx : A (vN .f32 x) < p2 1023) : fN .f32 (angF y x) = true ∧ A (vN .f32 (angF y x)) ≤ 502 / 1000 := by
  have g0 : fN .f32 0 = true := by decide +kernel
  unfold angF
  rw [cmp_eql fx g0, cmp_eql fy g0, vN0]
  by_cases h1 : vN .f32 x = 0 ∧ vN .f32 y = 0
  · simp only [h1, decide_true, Bool.and_self, if_true]
    exact ⟨g0, by rw [vN0]; decide +kernel⟩
  · have h2 : (decide (vN .f32 x = 0) && decide (vN .f32 y = 0)) = false := by simp; grind
    rw [h2]
    exact (ang_fit (angW_iv (angA_of fy fx hy hx (by grind)))).2
end Go.Proofs.Ytklonahkacikbaa
