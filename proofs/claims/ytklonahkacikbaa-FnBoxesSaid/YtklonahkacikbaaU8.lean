/- Quotients of complex numbers of float32 on values: near the exact quotient. Conditions: the divisor is not too small, nothing is too great. -/
import Derived.Test.YtklonahkacikbaaU7
import Derived.Test.YtklonahkacikbaaU4
namespace Go.Proofs.Ytklonahkacikbaa
set_option linter.unusedSimpArgs false
set_option linter.unusedVariables false
open Go

theorem negF_ok {x : Nat} (h : fN .f32 x = true) : fN .f32 (negF x) = true ∧ vN .f32 (negF x) = -vN .f32 x := by
  have h2 : Op.negFloat .f32 x = x ^^^ 2 ^ 31 := rfl
  have e1 : Ieee.single.signWeight = 2 ^ 31 := by rw [single_facts.1]
  have hm : (x ^^^ 2 ^ 31) % 2 ^ 31 = x % 2 ^ 31 := by rw [Nat.xor_mod_two_pow, Nat.mod_self, Nat.xor_zero]
  have hs : ((x ^^^ 2 ^ 31) / 2 ^ 31 % 2 == 1) = !(x / 2 ^ 31 % 2 == 1) := by
    have t1 : ∀ y : Nat, (y / 2 ^ 31 % 2 == 1) = y.testBit 31 := fun y => by
      rw [Nat.testBit_eq_decide_div_mod_eq]
      by_cases hy : y / 2 ^ 31 % 2 = 1 <;> simp [hy]
    rw [t1, t1, Nat.testBit_xor, Nat.testBit_two_pow_self]
    cases x.testBit 31 <;> rfl
  have key : Ieee.single.read (x ^^^ 2 ^ 31) = (Ieee.single.read x).opposite := by
    unfold Ieee.Format.read
    simp only [e1, hm, hs]
    split
    · rfl
    · split
      · rfl
      · split <;> rfl
  have hx : isNum (Ieee.single.read x) = true := h
  obtain ⟨a1, a2⟩ := opposite_val hx
  have f1 : fN .f32 (Op.negFloat .f32 x) = true := by
    unfold fN; show isNum (Ieee.single.read _) = true; rw [h2, key]; exact a1
  unfold negF
  rw [fN_nrm f1]
  refine ⟨f1, ?_⟩
  unfold vN
  show valD (Ieee.single.read _) = -valD (Ieee.single.read x)
  rw [h2, key]; exact a2
theorem conjC_ok {s : C2} (h : fC s) : fC (conjC s) ∧ cv (conjC s) = ⟨(cv s).re, -(cv s).im⟩ := by
  obtain ⟨a, b⟩ := negF_ok h.2
  exact ⟨⟨h.1, a⟩, q2e rfl b⟩

theorem p2_small {a : Int} (h : a ≤ 0) : p2 a ≤ 1 := by have := p2_mono h; rw [p2_zero] at this; exact this
theorem quo_part {x y : Nat} {a p q : Rat} (fa : fN .f64 x = true) (ha : A (vN .f64 x - a) ≤ p2 (-53) * A a + p2 (-1075)) (fp : fN .f64 y = true) (hp : A (vN .f64 y - p) ≤ p2 (-53) * A p + p2 (-1075))
    (hpl : p2 (-100) ≤ p) (hq : q * p = a) (hqt : A q < p2 126) : fit1 (fop .quo .f64 x y) ∧ Near1 (nw (fop .quo .f64 x y)) q := by
  have p0 : 0 < p := by have := p2_pos (-100); grind
  rw [A_of_nonneg (Rat.le_of_lt p0)] at hp
  have hAa : A a = A q * p := by rw [← hq, A_mul, A_of_nonneg (Rat.le_of_lt p0)]
  rw [hAa] at ha
  generalize hX : vN .f64 x = X at *
  generalize hP : vN .f64 y = P at *
  have hq0 := A_nonneg q
  -- the divisor
  have d1 : p2 (-1075) ≤ p2 (-53) * p := by
    have h1 := Rat.mul_le_mul_of_nonneg_left hpl (Rat.le_of_lt (p2_pos (-53)))
    rw [← p2_add] at h1
    have := p2_mono (show (-1075 : Int) ≤ -53 + -100 by decide)
    grind
  have d2 : p2 (-53) * p ≤ p * (1 / 4) := by
    have h1 := p2_mono (show (-53 : Int) ≤ -2 by decide)
    rw [show p2 (-2) = 1 / 4 by decide +kernel] at h1
    have := Rat.mul_le_mul_of_nonneg_right h1 (Rat.le_of_lt p0)
    grind
  have d3 := le_A (P - p)
  have d4 : p ≤ 2 * P := by grind
  have P0 : 0 < P := by grind
  have P1 : P ≠ 0 := by intro h; rw [h] at P0; exact absurd P0 (by decide)
  -- the exact quotient of the two
  have hqd : X * P⁻¹ * P = X := by rw [Rat.mul_assoc, Rat.mul_comm P⁻¹ P, Rat.mul_inv_cancel P P1]; grind
  generalize X * P⁻¹ = qd at hqd
  have k1 : A (qd - q) * P ≤ (4 * (p2 (-53) * A q) + p2 (-974) + p2 (-974) * A q) * P := by
    have m1 : A (qd - q) * P = A (X - a - q * (P - p)) := by
      conv => lhs; rw [← A_of_nonneg (Rat.le_of_lt P0)]
      rw [← A_mul]; congr 1; rw [← hqd, ← hq]; grind
    have m2 := A_sub (X - a) (q * (P - p))
    rw [A_mul] at m2
    have m3 := Rat.mul_le_mul_of_nonneg_left hp hq0
    have m4 : p2 (-1075) ≤ p2 (-974) * P := by
      have h1 : p2 (-101) ≤ P := by
        have : p2 (-100) = p2 (-101) + p2 (-101) := p2_dbl (by omega)
        grind
      have h2 := Rat.mul_le_mul_of_nonneg_left h1 (Rat.le_of_lt (p2_pos (-974)))
      rw [← p2_add] at h2
      exact h2
    have m5 := Rat.mul_le_mul_of_nonneg_left m4 hq0
    have m6 := Rat.mul_le_mul_of_nonneg_left d4 (Rat.mul_nonneg (Rat.le_of_lt (p2_pos (-53))) hq0)
    rw [m1]
    clear d1 d2 d3 hqt hqd m1 hX hP
    generalize p2 (-53) = c at *
    generalize p2 (-974) = d at *
    generalize p2 (-1075) = e at *
    generalize A (X - a - q * (P - p)) = B1 at *
    generalize A (X - a) = B2 at *
    generalize A (P - p) = B3 at *
    generalize A q = B4 at *
    clear hAa
    grind
  have k2 := lcancel_le P0 k1
  have k3 : p2 (-974) * A q ≤ p2 (-53) * A q := Rat.mul_le_mul_of_nonneg_right (p2_mono (by decide)) hq0
  have k4 : A (qd - q) ≤ p2 (-50) * A q + p2 (-974) := by
    have g1 : p2 (-50) = p2 (-51) + p2 (-51) := p2_dbl (by omega)
    have g2 : p2 (-51) = p2 (-52) + p2 (-52) := p2_dbl (by omega)
    have g3 : p2 (-52) = p2 (-53) + p2 (-53) := p2_dbl (by omega)
    have g4 := Rat.mul_nonneg (Rat.le_of_lt (p2_pos (-53))) hq0
    rw [g1, g2, g3]
    clear k1 d1 d2 d3 hqt hX hP ha hp hpl g1 g2 g3
    generalize p2 (-53) = c at *
    generalize p2 (-974) = d at *
    generalize A (qd - q) = B1 at *
    generalize A q = B4 at *
    grind
  have k5 := A_add (qd - q) q
  rw [show qd - q + q = qd by grind] at k5
  have k6 : A qd ≤ 2 * A q + 1 := by
    have h1 := Rat.mul_le_mul_of_nonneg_right (p2_small (show (-50 : Int) ≤ 0 by decide)) hq0
    have h2 := p2_small (show (-974 : Int) ≤ 0 by decide)
    grind
  have h0 : vN .f64 y ≠ 0 := by rw [hP]; exact P1
  obtain ⟨r1, r2⟩ := fop_quo_ok fa fp h0 (q := qd) (by rw [hX, hP]; exact hqd) (by
    have a1 := p2_two 126
    have a2 := p2_two 127
    have a3 := p2_mono (show (128 : Int) ≤ 1000 by decide)
    have a4 : 1 ≤ p2 127 := one_le_p2 127
    have a5 : p2 126 + p2 126 = p2 127 := p2_two 126
    have a6 : p2 127 + p2 127 = p2 128 := p2_two 127
    grind)
  refine near1_nw r1 (i := -972) ?_ (by decide) hqt
  have s1 := A_add (vN .f64 (fop .quo .f64 x y) - qd) (qd - q)
  rw [show vN .f64 (fop .quo .f64 x y) - qd + (qd - q) = vN .f64 (fop .quo .f64 x y) - q by grind] at s1
  have s2 : p2 (-52) * A qd ≤ p2 (-52) * (2 * A q + 1) := Rat.mul_le_mul_of_nonneg_left k6 (Rat.le_of_lt (p2_pos _))
  have s3 : p2 (-52) * A qd ≤ p2 (-52) * (A q + (p2 (-50) * A q + p2 (-974))) := Rat.mul_le_mul_of_nonneg_left (by grind) (Rat.le_of_lt (p2_pos _))
  have s4 : p2 (-52) * (p2 (-50) * A q) ≤ 1 * (p2 (-52) * A q) := by
    have := Rat.mul_le_mul_of_nonneg_right (p2_small (show (-50 : Int) ≤ 0 by decide)) (Rat.mul_nonneg (Rat.le_of_lt (p2_pos (-52))) hq0)
    grind
  have s5 : p2 (-52) * p2 (-974) ≤ 1 * p2 (-974) := Rat.mul_le_mul_of_nonneg_right (p2_small (by decide)) (Rat.le_of_lt (p2_pos _))
  have s6 := p2_mono (show (-1075 : Int) ≤ -974 by decide)
  have g0 : p2 (-49) = p2 (-50) + p2 (-50) := p2_dbl (by omega)
  have g1 : p2 (-50) = p2 (-51) + p2 (-51) := p2_dbl (by omega)
  have g2 : p2 (-51) = p2 (-52) + p2 (-52) := p2_dbl (by omega)
  have g3 : p2 (-972) = p2 (-973) + p2 (-973) := p2_dbl (by omega)
  have g4 : p2 (-973) = p2 (-974) + p2 (-974) := p2_dbl (by omega)
  have g5 := p2_pos (-974)
  have g6 := Rat.mul_nonneg (Rat.le_of_lt (p2_pos (-52))) hq0
  clear s2 k6 k5 k2 k3 k1 d1 d2 d3 hqt hX hP ha hp hpl h0 fa fp r1 hAa
  rw [g3, g4, g0]
  rw [g1, g2] at k4 s3 s4 ⊢
  clear g0 g1 g2 g3 g4
  generalize p2 (-52) = c at *
  generalize p2 (-974) = d at *
  generalize p2 (-1075) = e at *
  generalize A (vN .f64 (fop .quo .f64 x y) - q) = B0 at *
  generalize A (vN .f64 (fop .quo .f64 x y) - qd) = B1 at *
  generalize A (qd - q) = B2 at *
  generalize A qd = B3 at *
  generalize A q = B4 at *
  grind

/-- The square of the length. -/
def sqN (z : Q2) : Rat := z.re * z.re + z.im * z.im
theorem sq_A (x : Rat) : x * x = A x * A x := by unfold A; split <;> grind
theorem sq_nonneg (x : Rat) : 0 ≤ x * x := by rw [sq_A]; exact Rat.mul_nonneg (A_nonneg x) (A_nonneg x)
theorem sqN_ge (z : Q2) : N z * N z ≤ 2 * sqN z := by
  have h := sq_nonneg (A z.re - A z.im)
  unfold sqN N
  rw [sq_A z.re, sq_A z.im]
  grind
theorem sqN_le (z : Q2) : sqN z ≤ N z * N z := by
  have h := Rat.mul_nonneg (A_nonneg z.re) (A_nonneg z.im)
  unfold sqN N
  rw [sq_A z.re, sq_A z.im]
  grind

theorem powerF_ok {s : C2} (hs : fC s) (h2 : N (cv s) < p2 100) : fN .f64 (powerF s) = true ∧ A (vN .f64 (powerF s) - sqN (cv s)) ≤ p2 (-53) * A (sqN (cv s)) + p2 (-1075) := by
  have a1 : A (vN .f32 s.1) ≤ N (cv s) := re_le_N (cv s)
  have a2 : A (vN .f32 s.2) ≤ N (cv s) := im_le_N (cv s)
  have m1 := p2_mono (show (100 : Int) ≤ 200 by decide)
  obtain ⟨p1, p2'⟩ := prod_exact hs.1 hs.1 (by grind) (by grind)
  obtain ⟨q1, q2⟩ := prod_exact hs.2 hs.2 (by grind) (by grind)
  refine sum_near p1 p2' q1 q2 ?_
  have b1 := sqN_le (cv s)
  have b2 := mul_le (Rat.le_of_lt h2) (Rat.le_of_lt h2) (N_nonneg _) (Rat.le_of_lt (p2_pos 100))
  rw [← p2_add] at b2
  have b3 := p2_mono (show (100 + 100 : Int) ≤ 499 by decide)
  have b4 : p2 499 + p2 499 = p2 500 := p2_two 499
  have b5 := p2_pos 499
  have b6 : 0 ≤ sqN (cv s) := by have := sq_nonneg (cv s).re; have := sq_nonneg (cv s).im; unfold sqN; grind
  show A (sqN (cv s)) < p2 500
  rw [A_of_nonneg b6]
  grind

/-- A quotient: near the exact one. -/
theorem quoC_near {v s : C2} {q : Q2} (hv : fC v) (hs : fC s) (hq : q * cv s = cv v) (h1 : N (cv v) < p2 126) (h2 : N (cv s) < p2 100) (h3 : p2 (-40) ≤ N (cv s)) (h4 : N q < p2 126) :
    quoFit v s ∧ Near (quoC v s) q := by
  obtain ⟨c1, c2⟩ := conjC_ok hs
  have hNc : N (cv (conjC s)) = N (cv s) := by rw [c2]; unfold N; rw [A_neg]
  have m1 := p2_mono (show (126 : Int) ≤ 200 by decide)
  have m2 := p2_mono (show (100 : Int) ≤ 200 by decide)
  have hm := N_mul (cv v) (cv (conjC s))
  rw [hNc] at hm
  have h5 := mul_le (Rat.le_of_lt h1) (Rat.le_of_lt h2) (N_nonneg _) (Rat.le_of_lt (p2_pos 126))
  rw [← p2_add] at h5
  have m3 := p2_mono (show (126 + 100 : Int) ≤ 499 by decide)
  have m4 : p2 499 + p2 499 = p2 500 := p2_two 499
  have m5 := p2_pos 499
  obtain ⟨⟨t1, t2⟩, t3, t4⟩ := times_ok hv c1 (by grind) (by rw [hNc]; grind) (by grind)
  obtain ⟨w1, w2⟩ := powerF_ok hs h2
  have hp : p2 (-100) ≤ sqN (cv s) := by
    have a1 := sqN_ge (cv s)
    have a2 := mul_le h3 h3 (Rat.le_of_lt (p2_pos _)) (N_nonneg (cv s))
    rw [← p2_add] at a2
    have a3 := p2_mono (show (-99 : Int) ≤ -40 + -40 by decide)
    have a4 : p2 (-99) = p2 (-100) + p2 (-100) := p2_dbl (by omega)
    grind
  have e1 : q.re * sqN (cv s) = (cv v * cv (conjC s)).re := by
    rw [c2, ← hq]; simp only [re_mul, im_mul, sqN]; grind
  have e2 : q.im * sqN (cv s) = (cv v * cv (conjC s)).im := by
    rw [c2, ← hq]; simp only [re_mul, im_mul, sqN]; grind
  have n1 := re_le_N q; have n2 := im_le_N q
  obtain ⟨f1, g1⟩ := quo_part t1 t2 w1 w2 hp e1 (by grind)
  obtain ⟨f2, g2⟩ := quo_part t3 t4 w1 w2 hp e2 (by grind)
  exact ⟨⟨f1, f2⟩, near_mk g1 g2⟩
/-- A quotient by 0: no number, but narrowed as it is. -/
theorem quoC_zero {v s : C2} (hv : fC v) (hs : fC s) (h0 : N (cv s) = 0) (h1 : N (cv v) < p2 126) : quoFit v s ∧ ¬ fC (quoC v s) := by
  obtain ⟨c1, c2⟩ := conjC_ok hs
  have hNc : N (cv (conjC s)) = 0 := by rw [c2, ← h0]; unfold N; rw [A_neg]
  have m1 := p2_mono (show (126 : Int) ≤ 200 by decide)
  have hm := N_mul (cv v) (cv (conjC s))
  rw [hNc] at hm
  have z1 := p2_pos 200; have z2 := p2_pos 500; have z3 := p2_pos 100
  obtain ⟨⟨t1, _⟩, t3, _⟩ := times_ok hv c1 (by grind) (by rw [hNc]; grind) (by grind)
  obtain ⟨w1, w2⟩ := powerF_ok hs (by rw [h0]; exact z3)
  have hz : sqN (cv s) = 0 := by
    have a1 := sqN_le (cv s)
    have a2 : 0 ≤ sqN (cv s) := by have := sq_nonneg (cv s).re; have := sq_nonneg (cv s).im; unfold sqN; grind
    rw [h0] at a1; grind
  have n1 := A_nonneg (cv s).re; have n2 := A_nonneg (cv s).im
  have r0 : vN .f32 s.1 = 0 := A_eq_zero (show A (cv s).re = 0 by unfold N at h0; grind)
  have i0 : vN .f32 s.2 = 0 := A_eq_zero (show A (cv s).im = 0 by unfold N at h0; grind)
  have hw : vN .f64 (powerF s) = 0 := by
    have a1 : A (vN .f32 s.1) < p2 200 := by rw [r0, A_zero]; exact z1
    have a2 : A (vN .f32 s.2) < p2 200 := by rw [i0, A_zero]; exact z1
    obtain ⟨p1, p2'⟩ := prod_exact hs.1 hs.1 a1 a1
    obtain ⟨q1, q2⟩ := prod_exact hs.2 hs.2 a2 a2
    have e0 : vN .f64 (fop .mul .f64 (wd s.1) (wd s.1)) + vN .f64 (fop .mul .f64 (wd s.2) (wd s.2)) = 0 := by rw [p2', q2, r0, i0]; grind
    have hR := fop_add_res (k := .f64) p1 q1 (by rw [e0, A_zero]; exact p2_pos _)
    have := hR.2.2 0 0 (by rw [e0, A_zero, show ((0 : Nat) : Rat) = 0 from rfl]; grind) (by decide) (by decide)
    rw [e0] at this
    exact this
  have k1 := nw_not (fop_quo_zero t1 w1 hw)
  have k2 := nw_not (fop_quo_zero t3 w1 hw)
  refine ⟨⟨k1.1, k2.1⟩, fun h => ?_⟩
  have := h.1
  rw [show (quoC v s).1 = nw (fop .quo .f64 (timesF v (conjC s)).1 (powerF s)) from rfl, k1.2] at this
  cases this
end Go.Proofs.Ytklonahkacikbaa

/- Horner's rule of float32 on values: its error; polynomials of two, three and four terms whose last is 1, and their slopes. Conditions: nothing is too great. -/
namespace Go.Proofs.Ytklonahkacikbaa
set_option linter.unusedSimpArgs false
set_option linter.unusedVariables false
open Go

def one2 : Q2 := ⟨1, 0⟩
def two2 : Q2 := ⟨2, 0⟩
def three2 : Q2 := ⟨3, 0⟩

/-- One step of Horner's rule: what is added to the error. -/
theorem horner_step {v z k : C2} {V : Q2} {E m r : Rat} (hv : fC v) (hz : fC z) (hk : fC k) (hE : N (cv v - V) ≤ E) (hm : N V ≤ m) (hr : N (cv z) ≤ r)
    (h1 : m + E < p2 200) (h2 : r < p2 200) (h3 : (m + E) * r < p2 125) {m' : Rat} (hm' : N (V * cv z + cv k) ≤ m') (h4 : m' + E * r < p2 125) :
    fit2 (timesF v z) ∧ fC (addC (mulC v z) k) ∧
    N (cv (addC (mulC v z) k) - (V * cv z + cv k)) ≤ E * r + u1 * ((m + E) * r) + e1 + (u1 * (m' + E * r + u1 * ((m + E) * r) + e1) + e1) := by
  have hu := u1_pos
  have hu4 : u1 ≤ 1 / 4 := by decide +kernel
  have he1 : e1 ≤ 1 := p2_small (by decide)
  obtain ⟨u, hu'⟩ : ∃ u, u1 = u := ⟨_, rfl⟩
  obtain ⟨e, he'⟩ : ∃ e, e1 = e := ⟨_, rfl⟩
  rw [hu'] at hu hu4 ⊢
  rw [he'] at he1 ⊢
  have t1 := N_tri (cv v) V
  have t2 := N_nonneg (cv v)
  have t3 := N_nonneg (cv z)
  have t4 := N_nonneg (cv v - V)
  have t5 := N_nonneg V
  have a1 : N (cv v * cv z) ≤ (m + E) * r := by
    have := N_mul (cv v) (cv z)
    have := mul_le (show N (cv v) ≤ m + E by grind) hr t3 (by grind)
    grind
  have b1 : p2 125 + p2 125 = p2 126 := p2_two 125
  have b2 : p2 126 + p2 126 = p2 127 := p2_two 126
  have b3 := p2_pos 125
  obtain ⟨f1, g1⟩ := mulC_near hv hz (by grind) (by grind) (by grind)
  have a2 : N (cv (mulC v z) - cv v * cv z) ≤ u * ((m + E) * r) + e := by
    have := g1.2
    rw [hu', he'] at this
    have := Rat.mul_le_mul_of_nonneg_left a1 (Rat.le_of_lt hu)
    grind
  have a3 : N ((cv v - V) * cv z) ≤ E * r := by
    have := N_mul (cv v - V) (cv z)
    have := mul_le hE hr t3 (by grind)
    grind
  have a4 : N (cv (mulC v z) + cv k) ≤ m' + E * r + u * ((m + E) * r) + e := by
    have eq : cv (mulC v z) + cv k = (V * cv z + cv k) + ((cv v - V) * cv z + (cv (mulC v z) - cv v * cv z)) := q2e (by simp; grind) (by simp; grind)
    rw [eq]
    have c1 := N_add (V * cv z + cv k) ((cv v - V) * cv z + (cv (mulC v z) - cv v * cv z))
    have c2 := N_add ((cv v - V) * cv z) (cv (mulC v z) - cv v * cv z)
    grind
  have hu1 : u * ((m + E) * r) ≤ 1 / 4 * p2 125 := by
    have h0 : 0 ≤ (m + E) * r := Rat.mul_nonneg (by grind) (by grind)
    have := Rat.mul_le_mul_of_nonneg_right hu4 h0
    grind
  have hb : (1 : Rat) ≤ 1 / 4 * p2 125 := by decide +kernel
  have g2 := addC_near g1.1 hk (by grind)
  refine ⟨f1, g2.1, ?_⟩
  have eq : cv (addC (mulC v z) k) - (V * cv z + cv k) = ((cv v - V) * cv z + (cv (mulC v z) - cv v * cv z)) + (cv (addC (mulC v z) k) - (cv (mulC v z) + cv k)) := q2e (by simp; grind) (by simp; grind)
  rw [eq]
  have c1 := N_add ((cv v - V) * cv z + (cv (mulC v z) - cv v * cv z)) (cv (addC (mulC v z) k) - (cv (mulC v z) + cv k))
  have c2 := N_add ((cv v - V) * cv z) (cv (mulC v z) - cv v * cv z)
  have c3 := g2.2
  rw [hu', he'] at c3
  have c4 := Rat.mul_le_mul_of_nonneg_left a4 (Rat.le_of_lt hu)
  grind
end Go.Proofs.Ytklonahkacikbaa

/- Horner's rule on values: the error of two and three steps, as a polynomial of the number's norm. Conditions: nothing is too great. -/
namespace Go.Proofs.Ytklonahkacikbaa
set_option linter.unusedSimpArgs false
set_option linter.unusedVariables false
open Go

/-- The constants of relative errors, growing a little step by step. -/
def Ua : Rat := 1 / 16777216 + 1 / 70368744177664
def Ub : Rat := 1 / 16777216 + 1 / 35184372088832
def Uc : Rat := 1 / 16777216 + 1 / 17592186044416
theorem Ua_ok : u1 * (1 + u1) ≤ Ua ∧ 0 * (1 + 3 * u1) ≤ Ua ∧ 0 ≤ Ua ∧ Ua ≤ 1 / 1048576 := by decide +kernel
theorem Ub_ok : u1 * (1 + u1) ≤ Ub ∧ Ua * (1 + 3 * u1) ≤ Ub ∧ 0 ≤ Ub ∧ Ub ≤ 1 / 1048576 := by decide +kernel
theorem Uc_ok : u1 * (1 + u1) ≤ Uc ∧ Ub * (1 + 3 * u1) ≤ Uc ∧ 0 ≤ Uc ∧ Uc ≤ 1 / 1048576 := by decide +kernel

theorem step_bound {E P t m m' r u e Uk Uk' : Rat} (hE : E ≤ Uk * P + t) (hE0 : 0 ≤ E) (hP : 0 ≤ P) (ht : 0 ≤ t) (hm : 0 ≤ m) (hm' : 0 ≤ m') (hr : 0 ≤ r) (hu : 0 ≤ u) (hu4 : u ≤ 1 / 4) (he : 0 ≤ e)
    (hk1 : u * (1 + u) ≤ Uk') (hk2 : Uk * (1 + 3 * u) ≤ Uk') (hk : 0 ≤ Uk) :
    E * r + u * ((m + E) * r) + e + (u * (m' + E * r + u * ((m + E) * r) + e) + e) ≤ Uk' * (P * r + m * r + m') + (2 * (t * r) + 3 * e) := by
  have hEr : E * r ≤ (Uk * P + t) * r := Rat.mul_le_mul_of_nonneg_right hE hr
  have hEr0 : 0 ≤ E * r := Rat.mul_nonneg hE0 hr
  have hmr : 0 ≤ m * r := Rat.mul_nonneg hm hr
  have hPr : 0 ≤ P * r := Rat.mul_nonneg hP hr
  have htr : 0 ≤ t * r := Rat.mul_nonneg ht hr
  generalize hx : E * r = x at *
  generalize hy : m * r = y at *
  generalize hz : P * r = z at *
  generalize hw : t * r = w at *
  have e1' : (m + E) * r = y + x := by rw [← hx, ← hy]; grind
  have e2' : (Uk * P + t) * r = Uk * z + w := by rw [← hz, ← hw]; grind
  rw [e2'] at hEr
  rw [e1']
  clear e1' e2' hx hy hz hw hE
  -- x (1 + 2u + u^2) <= x (1 + 3u)
  have huu : u * u ≤ u * 1 := Rat.mul_le_mul_of_nonneg_left (by grind) hu
  have k1 : u * u * x ≤ u * 1 * x := Rat.mul_le_mul_of_nonneg_right huu hEr0
  have k2 : (1 + 3 * u) * x ≤ (1 + 3 * u) * (Uk * z + w) := Rat.mul_le_mul_of_nonneg_left hEr (by grind)
  have k3 : Uk * (1 + 3 * u) * z ≤ Uk' * z := Rat.mul_le_mul_of_nonneg_right hk2 hPr
  have k4 : u * (1 + u) * y ≤ Uk' * y := Rat.mul_le_mul_of_nonneg_right hk1 hmr
  have k5 : u * (1 + u) * m' ≤ Uk' * m' := Rat.mul_le_mul_of_nonneg_right hk1 hm'
  have k6 : 0 ≤ u * u * m' := Rat.mul_nonneg (Rat.mul_nonneg hu hu) hm'
  have k7 : u * w ≤ 1 / 4 * w := Rat.mul_le_mul_of_nonneg_right hu4 htr
  have k8 : u * e ≤ 1 / 4 * e := Rat.mul_le_mul_of_nonneg_right hu4 he
  grind

/-- A value of Horner's rule: computed 'v' for the exact 'V'. -/
structure Hs (v : C2) (V : Q2) (P m t Uk : Rat) : Prop where
  f : fC v
  err : N (cv v - V) ≤ Uk * P + t
  le : N V ≤ m
  P0 : 0 ≤ P
  t0 : 0 ≤ t
theorem Hs.m0 {v : C2} {V : Q2} {P m t Uk : Rat} (h : Hs v V P m t Uk) : 0 ≤ m := by have := N_nonneg V; have := h.le; grind

theorem hs_step {v z k : C2} {V : Q2} {P m t Uk Uk' r b : Rat} (h : Hs v V P m t Uk) (hz : fC z) (hk : fC k) (hr : N (cv z) ≤ r) (hb : N (cv k) ≤ b)
    (hU : u1 * (1 + u1) ≤ Uk' ∧ Uk * (1 + 3 * u1) ≤ Uk' ∧ 0 ≤ Uk' ∧ Uk' ≤ 1 / 1048576) (hUk : 0 ≤ Uk ∧ Uk ≤ 1 / 1048576) (hs1 : m + P * (1 / 1048576) + t < p2 200) (hs2 : r < p2 200) (hs3 : (m + P * (1 / 1048576) + t) * r + b < p2 124) :
    fit2 (timesF v z) ∧ Hs (addC (mulC v z) k) (V * cv z + cv k) (P * r + m * r + (m * r + b)) (m * r + b) (2 * (t * r) + 3 * e1) Uk' := by
  have hm := h.m0
  have hP := h.P0
  have ht := h.t0
  have hr0 : 0 ≤ r := by have := N_nonneg (cv z); grind
  have hb0 : 0 ≤ b := by have := N_nonneg (cv k); grind
  have hUP : Uk * P ≤ 1 / 1048576 * P := Rat.mul_le_mul_of_nonneg_right hUk.2 hP
  have hUP0 : 0 ≤ Uk * P := Rat.mul_nonneg hUk.1 hP
  have hm' : N (V * cv z + cv k) ≤ m * r + b := by
    have a1 := N_add (V * cv z) (cv k)
    have a2 := N_mul V (cv z)
    have a3 := mul_le h.le hr (N_nonneg _) hm
    grind
  have hb1 : p2 124 + p2 124 = p2 125 := p2_two 124
  have hb2 := p2_pos 124
  have s1 : (m + (Uk * P + t)) * r ≤ (m + P * (1 / 1048576) + t) * r := Rat.mul_le_mul_of_nonneg_right (by grind) hr0
  have s2 : (m + (Uk * P + t)) * r = m * r + (Uk * P + t) * r := by grind
  have s3 : 0 ≤ (Uk * P + t) * r := Rat.mul_nonneg (by grind) hr0
  have s4 : 0 ≤ m * r := Rat.mul_nonneg hm hr0
  obtain ⟨a1, a2, a3⟩ := horner_step h.f hz hk h.err h.le hr (by grind) hs2 (by grind) hm' (by grind)
  have hu := u1_pos
  have he := e1_pos
  have hu4 : u1 ≤ 1 / 4 := by decide +kernel
  have hst := step_bound (Rat.le_refl (a := Uk * P + t)) (by grind) hP ht hm (show 0 ≤ m * r + b by grind) hr0 (Rat.le_of_lt hu) hu4 (Rat.le_of_lt he) hU.1 hU.2.1 hUk.1
  refine ⟨a1, a2, Rat.le_trans a3 hst, hm', ?_, ?_⟩
  · have := Rat.mul_nonneg hP hr0
    grind
  · have := Rat.mul_nonneg ht hr0
    grind
theorem hs_zero {v : C2} {V : Q2} {m : Rat} (hf : fC v) (hv : cv v = V) (hm : N V ≤ m) : Hs v V 0 m 0 0 := by
  refine ⟨hf, ?_, hm, Rat.le_refl, Rat.le_refl⟩
  rw [hv]
  have : V - V = ⟨0, 0⟩ := q2e (by simp; grind) (by simp; grind)
  rw [this]; decide +kernel
end Go.Proofs.Ytklonahkacikbaa

/- Polynomials of two, three and four terms whose last is 1: their slopes; the shape of a Newton step. Conditions: as told. -/
namespace Go.Proofs.Ytklonahkacikbaa
set_option linter.unusedSimpArgs false
set_option linter.unusedVariables false
open Go

abbrev kf (k : Nat) : Nat := nrm .f32 (floatOfInt .f32 ((k : Nat) : Int))
theorem kf_val {k m : Nat} {e : Int} (h : FloatKind.f32.decode (kf k) = .number false m e) (hq : (m : Rat) * p2 e = (k : Rat)) : fN .f32 (kf k) = true ∧ vN .f32 (kf k) = (k : Rat) := by
  unfold fN vN
  rw [h]
  exact ⟨rfl, hq⟩
theorem kf1 : fN .f32 (kf 1) = true ∧ vN .f32 (kf 1) = 1 := kf_val (m := 8388608) (e := -23) (by decide +kernel) (by decide +kernel)
theorem kf2 : fN .f32 (kf 2) = true ∧ vN .f32 (kf 2) = 2 := kf_val (m := 8388608) (e := -22) (by decide +kernel) (by decide +kernel)
theorem kf3 : fN .f32 (kf 3) = true ∧ vN .f32 (kf 3) = 3 := kf_val (m := 12582912) (e := -22) (by decide +kernel) (by decide +kernel)

theorem scale1 {x : C2} (hx : fC x) (hn : N (cv x) < p2 100) : fC (scaleC x (kf 1)) ∧ cv (scaleC x (kf 1)) = cv x := by
  have m1 := p2_mono (show (100 : Int) ≤ 127 by decide)
  have key : ∀ y, fN .f32 y = true → A (vN .f32 y) < p2 100 → fN .f32 (fop .mul .f32 y (kf 1)) = true ∧ vN .f32 (fop .mul .f32 y (kf 1)) = vN .f32 y := by
    intro y hy ha
    have e : vN .f32 y * vN .f32 (kf 1) = vN .f32 y := by rw [kf1.2]; grind
    have hR := fop_mul_res hy kf1.1 (by rw [e]; show _ < p2 127; grind)
    rw [e] at hR
    obtain ⟨m, i, a1, a2, a3⟩ := vN_lt .f32 hy
    exact ⟨hR.1, hR.2.2 m i a1 a2 a3⟩
  have a1 : A (vN .f32 x.1) ≤ N (cv x) := re_le_N (cv x)
  have a2 : A (vN .f32 x.2) ≤ N (cv x) := im_le_N (cv x)
  obtain ⟨b1, b2⟩ := key x.1 hx.1 (by grind)
  obtain ⟨c1, c2⟩ := key x.2 hx.2 (by grind)
  exact ⟨⟨b1, c1⟩, q2e b2 c2⟩
theorem scale2 {x : C2} (hx : fC x) (hn : N (cv x) < p2 100) : fC (scaleC x (kf 2)) ∧ cv (scaleC x (kf 2)) = cv x + cv x := by
  have m1 := p2_mono (show (101 : Int) ≤ 127 by decide)
  have m2 : p2 100 + p2 100 = p2 101 := p2_two 100
  have key : ∀ y, fN .f32 y = true → A (vN .f32 y) < p2 100 → fN .f32 (fop .mul .f32 y (kf 2)) = true ∧ vN .f32 (fop .mul .f32 y (kf 2)) = vN .f32 y + vN .f32 y := by
    intro y hy ha
    have e : vN .f32 y * vN .f32 (kf 2) = vN .f32 y + vN .f32 y := by rw [kf2.2]; grind
    have e2 : A (vN .f32 y + vN .f32 y) = A (vN .f32 y) + A (vN .f32 y) := by
      rw [show vN .f32 y + vN .f32 y = 2 * vN .f32 y by grind, A_mul, show A 2 = 2 from rfl]; grind
    have hR := fop_mul_res hy kf2.1 (by rw [e, e2]; show _ < p2 127; grind)
    rw [e] at hR
    obtain ⟨m, i, a1, a2, a3⟩ := vN_lt .f32 hy
    refine ⟨hR.1, hR.2.2 m (i + 1) ?_ a2 (by omega)⟩
    rw [e2, a1, p2_dbl rfl]; grind
  have a1 : A (vN .f32 x.1) ≤ N (cv x) := re_le_N (cv x)
  have a2 : A (vN .f32 x.2) ≤ N (cv x) := im_le_N (cv x)
  obtain ⟨b1, b2⟩ := key x.1 hx.1 (by grind)
  obtain ⟨c1, c2⟩ := key x.2 hx.2 (by grind)
  exact ⟨⟨b1, c1⟩, q2e b2 c2⟩
theorem scale3 {x : C2} (hx : fC x) (h1 : cv x = one2) : fC (scaleC x (kf 3)) ∧ cv (scaleC x (kf 3)) = three2 := by
  have h3 : vN .f32 x.1 = 1 := congrArg Q2.re h1
  have h4 : vN .f32 x.2 = 0 := congrArg Q2.im h1
  have e1' : vN .f32 x.1 * vN .f32 (kf 3) = 3 := by rw [kf3.2, h3]; decide +kernel
  have e2' : vN .f32 x.2 * vN .f32 (kf 3) = 0 := by rw [kf3.2, h4]; decide +kernel
  have r1 := fop_mul_res hx.1 kf3.1 (by rw [e1']; show A 3 < p2 127; decide +kernel)
  have r2 := fop_mul_res hx.2 kf3.1 (by rw [e2']; show A 0 < p2 127; decide +kernel)
  rw [e1'] at r1
  rw [e2'] at r2
  exact ⟨⟨r1.1, r2.1⟩, q2e (r1.2.2 3 0 (by decide +kernel) (by decide) (by decide)) (r2.2.2 0 0 (by decide +kernel) (by decide) (by decide))⟩

theorem not_zeroC {x : C2} (hx : fC x) (h : (cv x).re ≠ 0) : zeroC x = false := by
  have hf := (fC_iff x).1 hx
  cases hz : zeroC x with
  | false => rfl
  | true => exact absurd ((zeroC_iff hf).1 hz).1 h
theorem fin_not_zero {x : C2} (hx : fC x) {q : Q2} (hq : cv x = q) (h : q.re ≠ 0) : finC x = true ∧ zeroC x = false := ⟨(fC_iff x).1 hx, not_zeroC hx (by rw [hq]; exact h)⟩

theorem poly_of {F : List C2} (hl : 1 < F.length) (hf : F.all finC = true) (hz : zeroC (F.getD (F.length - 1) (0, 0)) = false) : validF F = true ∧ polyF F = (F, true) := by
  have hv : validF F = true := by unfold validF; rw [hf, hz]; simp
  have ht : trimF F = F := by unfold trimF; rw [trimN_stop hl hz]; simp
  exact ⟨hv, by unfold polyF; rw [ht, if_pos hv]⟩
theorem poly_one {x : C2} (hf : finC x = true) : validF [x] = true ∧ polyF [x] = ([x], true) := by
  have hv : validF [x] = true := by unfold validF; simp [hf]
  have ht : trimF [x] = [x] := by unfold trimF; rw [trimN_small (by simp)]; simp
  exact ⟨hv, by unfold polyF; rw [ht, if_pos hv]⟩

theorem slope4 {D C B L : C2} (hD : fC D) (hC : fC C) (hB : fC B) (hL : fC L) (h1 : cv L = one2) (nC : N (cv C) < p2 100) (nB : N (cv B) < p2 100) :
    rootedF [D, C, B, L] = true ∧ validF [D, C, B, L] = true ∧ ∃ C' B' L', slopePolyF [D, C, B, L] = ([C', B', L'], true) ∧ validF [C', B', L'] = true ∧ fC C' ∧ fC B' ∧ fC L' ∧ cv C' = cv C ∧ cv B' = cv B + cv B ∧ cv L' = three2 := by
  obtain ⟨c1, c2⟩ := scale1 hC nC
  obtain ⟨b1, b2⟩ := scale2 hB nB
  obtain ⟨l1, l2⟩ := scale3 hL h1
  obtain ⟨f1, f2⟩ := fin_not_zero hL h1 (by decide)
  obtain ⟨g1, g2⟩ := fin_not_zero l1 l2 (by decide)
  have hv : validF [D, C, B, L] = true := (poly_of (by simp) (by simp [f1, (fC_iff _).1 hD, (fC_iff _).1 hC, (fC_iff _).1 hB]) (by simpa using f2)).1
  refine ⟨by unfold rootedF; rw [hv]; rfl, hv, _, _, _, ?_, ?_, c1, b1, l1, c2, b2, l2⟩
  · unfold slopePolyF
    rw [if_pos hv]
    exact (poly_of (F := [scaleC C (kf 1), scaleC B (kf 2), scaleC L (kf 3)]) (by simp) (by simp [g1, (fC_iff _).1 c1, (fC_iff _).1 b1]) (by simpa using g2)).2
  · exact (poly_of (F := [scaleC C (kf 1), scaleC B (kf 2), scaleC L (kf 3)]) (by simp) (by simp [g1, (fC_iff _).1 c1, (fC_iff _).1 b1]) (by simpa using g2)).1
theorem slope3 {C B L : C2} (hC : fC C) (hB : fC B) (hL : fC L) (h1 : cv L = one2) (nB : N (cv B) < p2 100) :
    rootedF [C, B, L] = true ∧ validF [C, B, L] = true ∧ ∃ B' L', slopePolyF [C, B, L] = ([B', L'], true) ∧ validF [B', L'] = true ∧ fC B' ∧ fC L' ∧ cv B' = cv B ∧ cv L' = two2 := by
  obtain ⟨b1, b2⟩ := scale1 hB nB
  obtain ⟨l1, l2⟩ := scale2 hL (by rw [h1]; decide +kernel)
  rw [h1] at l2
  have l2' : cv (scaleC L (kf 2)) = two2 := l2.trans (q2e (by decide +kernel) (by decide +kernel))
  obtain ⟨f1, f2⟩ := fin_not_zero hL h1 (by decide)
  obtain ⟨g1, g2⟩ := fin_not_zero l1 l2' (by decide)
  have hv : validF [C, B, L] = true := (poly_of (by simp) (by simp [f1, (fC_iff _).1 hC, (fC_iff _).1 hB]) (by simpa using f2)).1
  refine ⟨by unfold rootedF; rw [hv]; rfl, hv, _, _, ?_, ?_, b1, l1, b2, l2'⟩
  · unfold slopePolyF
    rw [if_pos hv]
    exact (poly_of (F := [scaleC B (kf 1), scaleC L (kf 2)]) (by simp) (by simp [g1, (fC_iff _).1 b1]) (by simpa using g2)).2
  · exact (poly_of (F := [scaleC B (kf 1), scaleC L (kf 2)]) (by simp) (by simp [g1, (fC_iff _).1 b1]) (by simpa using g2)).1
theorem slope2 {B L : C2} (hB : fC B) (hL : fC L) (h1 : cv L = one2) :
    rootedF [B, L] = true ∧ validF [B, L] = true ∧ ∃ L', slopePolyF [B, L] = ([L'], true) ∧ validF [L'] = true ∧ fC L' ∧ cv L' = one2 := by
  obtain ⟨l1, l2⟩ := scale1 hL (by rw [h1]; decide +kernel)
  rw [h1] at l2
  obtain ⟨f1, f2⟩ := fin_not_zero hL h1 (by decide)
  obtain ⟨g1, g2⟩ := fin_not_zero l1 l2 (by decide)
  have hv : validF [B, L] = true := (poly_of (by simp) (by simp [f1, (fC_iff _).1 hB]) (by simpa using f2)).1
  refine ⟨by unfold rootedF; rw [hv]; rfl, hv, _, ?_, ?_, l1, l2⟩
  · unfold slopePolyF
    rw [if_pos hv]
    exact (poly_one (x := scaleC L (kf 1)) g1).2
  · exact (poly_one (x := scaleC L (kf 1)) g1).1

/-- The shape of a Newton step. -/
theorem step_shape {F S : List C2} {z : C2} (hr : rootedF F = true) (hv : validF F = true) (hS : slopePolyF F = (S, true)) (hSv : validF S = true) (hz : fC z) (h1 : fC (nestedF F z)) (h2 : fC (nestedF S z)) :
    stepF F z = (if zeroC (nestedF F z) = true then (z, true) else if finC (quoC (nestedF F z) (nestedF S z)) = true then finiteX (subC z (quoC (nestedF F z) (nestedF S z))) else ((0, 0), false)) ∧
    (safeStep F z ↔ safeN F z ∧ safeN S z ∧ quoFit (nestedF F z) (nestedF S z)) := by
  have hz' := (fC_iff z).1 hz
  have h1' := (fC_iff _).1 h1
  have h2' := (fC_iff _).1 h2
  have e1 : polyAtF F z = (nestedF F z, true) := by unfold polyAtF finiteX; rw [if_pos ⟨hv, hz'⟩, if_pos h1']
  have e2 : polyAtF S z = (nestedF S z, true) := by unfold polyAtF finiteX; rw [if_pos ⟨hSv, hz'⟩, if_pos h2']
  refine ⟨?_, ?_⟩
  · unfold stepF
    simp only [hr, hz', hS, e1, e2, Bool.and_self, if_true, Bool.true_and]
  · unfold safeStep
    rw [hS, e1, e2]
end Go.Proofs.Ytklonahkacikbaa

/- Values of polynomials of two, three and four terms by Horner's rule, with their errors. Conditions: numbers of norm at most 2 ^ 41, terms of norm at most 32. -/
namespace Go.Proofs.Ytklonahkacikbaa
set_option linter.unusedSimpArgs false
set_option linter.unusedVariables false
open Go

theorem Hs.mono {v : C2} {V V' : Q2} {P m t U P' m' t' : Rat} (h : Hs v V P m t U) (hV : V = V') (hP : P = P') (hm : m = m') (ht : t ≤ t') : Hs v V' P' m' t' U := by
  subst hV hP hm
  refine ⟨h.f, ?_, h.le, h.P0, ?_⟩
  · have := h.err; grind
  · have := h.t0; grind

theorem nested2 (B L z : C2) : nestedF [B, L] z = addC (mulC L z) B := rfl
theorem nested3 (C B L z : C2) : nestedF [C, B, L] z = addC (mulC (addC (mulC L z) B) z) C := rfl
theorem nested4 (D C B L z : C2) : nestedF [D, C, B, L] z = addC (mulC (addC (mulC (addC (mulC L z) B) z) C) z) D := rfl

theorem num_e : 3 * e1 ≤ p2 (-140) ∧ e1 ≤ p2 (-148) := by decide +kernel

section
variable {D C B L z : C2} {l : Q2} {r b c d m0 : Rat}
theorem eval2 (hz : fC z) (hr : N (cv z) ≤ r) (hr2 : r ≤ p2 41) (hL : fC L) (hl : cv L = l) (h0 : N l ≤ m0) (h04 : m0 ≤ 4) (hB : fC B) (hb : N (cv B) ≤ b) (hb2 : b ≤ 32) :
    safeN [B, L] z ∧ Hs (nestedF [B, L] z) (l * cv z + cv B) (2 * m0 * r + b) (m0 * r + b) (3 * e1) Ua := by
  have z0 := hs_zero hL hl h0
  have n0 := z0.m0
  have r0 : 0 ≤ r := by have := N_nonneg (cv z); grind
  have q1 : (p2 41 : Rat) = 2199023255552 := by decide +kernel
  have q2 : (2199023255552 * 8 : Rat) < p2 124 := by decide +kernel
  have q3 : (2199023255552 : Rat) < p2 200 := by decide +kernel
  rw [q1] at hr2
  have k1 := mul_le h04 hr2 r0 (by decide +kernel)
  obtain ⟨s1, h1⟩ := hs_step z0 hz hB hr hb Ua_ok (by decide +kernel) (by grind) (by grind) (by grind)
  exact ⟨⟨s1, trivial⟩, h1.mono rfl (by grind) rfl (by grind)⟩
theorem eval3 (hz : fC z) (hr : N (cv z) ≤ r) (hr2 : r ≤ p2 41) (hL : fC L) (hl : cv L = l) (h0 : N l ≤ m0) (h04 : m0 ≤ 4) (hB : fC B) (hb : N (cv B) ≤ b) (hb2 : b ≤ 32) (hC : fC C) (hc : N (cv C) ≤ c) (hc2 : c ≤ 32) :
    safeN [C, B, L] z ∧ Hs (nestedF [C, B, L] z) ((l * cv z + cv B) * cv z + cv C) (4 * m0 * (r * r) + 3 * (b * r) + c) (m0 * (r * r) + b * r + c) (6 * (e1 * r) + 3 * e1) Ub := by
  obtain ⟨⟨s1, _⟩, h1⟩ := eval2 hz hr hr2 hL hl h0 h04 hB hb hb2
  have r0 : 0 ≤ r := by have := N_nonneg (cv z); grind
  have n0 : 0 ≤ m0 := by have := N_nonneg l; grind
  have b0 : 0 ≤ b := by have := N_nonneg (cv B); grind
  have q1 : (p2 41 : Rat) = 2199023255552 := by decide +kernel
  have q2 : ((8796093022208 + 32 + 17592186044416 + 32 + 1) * 2199023255552 + 32 : Rat) < p2 124 := by decide +kernel
  have q3 : (8796093022208 + 32 + 17592186044416 + 32 + 1 : Rat) < p2 200 := by decide +kernel
  have q4 : 3 * e1 ≤ 1 := by decide +kernel
  rw [q1] at hr2
  have k1 := mul_le h04 hr2 r0 (by decide +kernel)
  have k2 : m0 * r + b + (2 * m0 * r + b) * (1 / 1048576) + 3 * e1 ≤ 8796093022208 + 32 + 17592186044416 + 32 + 1 := by grind
  have k3 := mul_le k2 hr2 r0 (by decide +kernel)
  obtain ⟨s2, h2⟩ := hs_step h1 hz hC hr hc Ub_ok ⟨Ua_ok.2.2.1, Ua_ok.2.2.2⟩ (by grind) (by grind) (by grind)
  exact ⟨⟨s1, s2, trivial⟩, h2.mono rfl (by grind) (by grind) (by grind)⟩
theorem eval4 (hz : fC z) (hr : N (cv z) ≤ r) (hr2 : r ≤ p2 41) (hL : fC L) (hl : cv L = l) (h0 : N l ≤ m0) (h04 : m0 ≤ 1) (hB : fC B) (hb : N (cv B) ≤ b) (hb2 : b ≤ 32) (hC : fC C) (hc : N (cv C) ≤ c) (hc2 : c ≤ 32)
    (hD : fC D) (hd : N (cv D) ≤ d) (hd2 : d ≤ 32) :
    safeN [D, C, B, L] z ∧ Hs (nestedF [D, C, B, L] z) (((l * cv z + cv B) * cv z + cv C) * cv z + cv D) (6 * m0 * (r * r * r) + 5 * (b * (r * r)) + 3 * (c * r) + d) (m0 * (r * r * r) + b * (r * r) + c * r + d) (p2 (-60)) Uc := by
  obtain ⟨⟨s1, s2, _⟩, h2⟩ := eval3 hz hr hr2 hL hl h0 (by grind) hB hb hb2 hC hc hc2
  have r0 : 0 ≤ r := by have := N_nonneg (cv z); grind
  have n0 : 0 ≤ m0 := by have := N_nonneg l; grind
  have b0 : 0 ≤ b := by have := N_nonneg (cv B); grind
  have q1 : (p2 41 : Rat) = 2199023255552 := by decide +kernel
  have q2 : ((2199023255552 * 2199023255552 * (3 / 2) + 32 * 2199023255552 * 4 + 64 + 1) * 2199023255552 + 32 : Rat) < p2 124 := by decide +kernel
  have q3 : (2199023255552 * 2199023255552 * (3 / 2) + 32 * 2199023255552 * 4 + 64 + 1 : Rat) < p2 200 := by decide +kernel
  have q4 : 6 * (e1 * 2199023255552) + 3 * e1 ≤ 1 := by decide +kernel
  have q5 : 12 * (e1 * (2199023255552 * 2199023255552)) + 6 * (e1 * 2199023255552) + 3 * e1 ≤ p2 (-60) := by decide +kernel
  have e0 := e1_pos
  rw [q1] at hr2
  have k1 := mul_le hr2 hr2 r0 (by decide +kernel)
  have k2 := mul_le h04 k1 (Rat.mul_nonneg r0 r0) (by decide)
  have k3 := mul_le hb2 hr2 r0 (by decide +kernel)
  have k4 := Rat.mul_le_mul_of_nonneg_left hr2 (Rat.le_of_lt e0)
  have k5 := Rat.mul_le_mul_of_nonneg_left k1 (Rat.le_of_lt e0)
  have k6 : m0 * (r * r) + b * r + c + (4 * m0 * (r * r) + 3 * (b * r) + c) * (1 / 1048576) + (6 * (e1 * r) + 3 * e1) ≤ 2199023255552 * 2199023255552 * (3 / 2) + 32 * 2199023255552 * 4 + 64 + 1 := by
    clear hr hL hl h0 hB hb hC hc hD hd h2 s1 s2 q5 k5 q2 q3
    generalize e1 = e at *
    grind
  have k7 := mul_le k6 hr2 r0 (by decide +kernel)
  obtain ⟨s3, h3⟩ := hs_step h2 hz hD hr hd Uc_ok ⟨Ub_ok.2.2.1, Ub_ok.2.2.2⟩ (by grind) (by grind) (by grind)
  refine ⟨⟨s1, s2, s3, trivial⟩, h3.mono rfl (by grind) (by grind) ?_⟩
  clear hr hL hl h0 hB hb hC hc hD hd h2 s1 s2 h3 q2 q3 q4 k6 k7 k1 k2 k3 s3
  generalize e1 = e at *
  generalize p2 (-60) = x at *
  grind
end
end Go.Proofs.Ytklonahkacikbaa

/- A Newton step on values: where the slope is 0 it stands or ends; elsewhere its result is near the exact one of the computed value and slope. Conditions: nothing is too great, the slope is 0 or not too small. -/
namespace Go.Proofs.Ytklonahkacikbaa
set_option linter.unusedSimpArgs false
set_option linter.unusedVariables false
open Go

theorem N_zero {z : Q2} (h : N z = 0) : z.re = 0 ∧ z.im = 0 := by
  have n1 := A_nonneg z.re; have n2 := A_nonneg z.im
  unfold N at h
  exact ⟨A_eq_zero (by grind), A_eq_zero (by grind)⟩
theorem sqN_nonneg (z : Q2) : 0 ≤ sqN z := by have := sq_nonneg z.re; have := sq_nonneg z.im; unfold sqN; grind
theorem sqN_pos {z : Q2} (h : 0 < N z) : 0 < sqN z := by
  have h1 := sqN_ge z
  have h2 := Rat.mul_pos h h
  grind
/-- There is a quotient. -/
theorem quo_ex (v : Q2) {s : Q2} (h : 0 < N s) : ∃ q : Q2, q * s = v := by
  have h1 := sqN_pos h
  have h2 : sqN s * (sqN s)⁻¹ = 1 := Rat.mul_inv_cancel _ (by intro h0; rw [h0] at h1; exact absurd h1 (by decide))
  unfold sqN at h2
  generalize (s.re * s.re + s.im * s.im)⁻¹ = i at h2
  refine ⟨⟨(v.re * s.re + v.im * s.im) * i, (v.im * s.re - v.re * s.im) * i⟩, q2e ?_ ?_⟩
  · simp only [re_mul]
    have : (v.re * s.re + v.im * s.im) * i * s.re - (v.im * s.re - v.re * s.im) * i * s.im = v.re * ((s.re * s.re + s.im * s.im) * i) := by grind
    rw [this, h2]; grind
  · simp only [im_mul]
    have : (v.re * s.re + v.im * s.im) * i * s.im + (v.im * s.re - v.re * s.im) * i * s.re = v.im * ((s.re * s.re + s.im * s.im) * i) := by grind
    rw [this, h2]; grind
/-- The norm of a quotient, by the divisor's square. -/
theorem quo_sq {q s v : Q2} (h : q * s = v) : N q * sqN s ≤ N v * N s := by
  have e1 : q.re * sqN s = v.re * s.re + v.im * s.im := by rw [← h]; simp only [re_mul, im_mul, sqN]; grind
  have e2 : q.im * sqN s = v.im * s.re - v.re * s.im := by rw [← h]; simp only [re_mul, im_mul, sqN]; grind
  have h0 := sqN_nonneg s
  have a1 := A_mul q.re (sqN s)
  have a2 := A_mul q.im (sqN s)
  rw [A_of_nonneg h0] at a1 a2
  have b1 := A_add (v.re * s.re) (v.im * s.im)
  have b2 := A_sub (v.im * s.re) (v.re * s.im)
  simp only [A_mul] at b1 b2
  rw [e1] at a1
  rw [e2] at a2
  unfold N
  grind
theorem quo_le {q s v : Q2} (h : q * s = v) : N q * N s ≤ 2 * N v := by
  rcases Rat.le_total (a := N s) (b := 0) with h0 | h0
  · have n1 := N_nonneg s
    have : N s = 0 := Rat.le_antisymm h0 n1
    have n2 := N_nonneg v
    rw [this]; grind
  · by_cases hz : N s = 0
    · have n2 := N_nonneg v
      rw [hz]; grind
    · have hp : 0 < N s := by have := N_nonneg s; grind
      refine lcancel_le hp ?_
      have k1 := quo_sq h
      have k2 := sqN_ge s
      have k3 := Rat.mul_le_mul_of_nonneg_left k2 (N_nonneg q)
      grind

theorem lt_of_p2 {x : Rat} {a b : Int} (h : x ≤ p2 a) (hab : a < b) : x < p2 b := by
  have h1 := p2_mono (show a + 1 ≤ b by omega)
  have h2 : p2 a + p2 a = p2 (a + 1) := p2_two a
  have h3 := p2_pos a
  grind

section
variable {F S : List C2} {z : C2}
/-- Where the slope is 0. -/
theorem step_zero (hr : rootedF F = true) (hv : validF F = true) (hS : slopePolyF F = (S, true)) (hSv : validF S = true) (hz : fC z) (h1 : fC (nestedF F z)) (h2 : fC (nestedF S z))
    (hs1 : safeN F z) (hs2 : safeN S z) (b1 : N (cv (nestedF F z)) < p2 126) (h0 : N (cv (nestedF S z)) = 0) :
    safeStep F z ∧ ((stepF F z).2 = true → (stepF F z).1 = z) := by
  obtain ⟨e, hsafe⟩ := step_shape hr hv hS hSv hz h1 h2
  obtain ⟨q1, q2⟩ := quoC_zero h1 h2 h0 b1
  rw [fC_iff] at q2
  refine ⟨hsafe.2 ⟨hs1, hs2, q1⟩, ?_⟩
  rw [e]
  by_cases hz0 : zeroC (nestedF F z) = true
  · rw [if_pos hz0]; intro _; rfl
  · rw [if_neg hz0, if_neg q2]; intro h; cases h
/-- Where the slope is not too small. -/
theorem step_res (hr : rootedF F = true) (hv : validF F = true) (hS : slopePolyF F = (S, true)) (hSv : validF S = true) (hz : fC z) (h1 : fC (nestedF F z)) (h2 : fC (nestedF S z))
    (hs1 : safeN F z) (hs2 : safeN S z) (b1 : N (cv (nestedF F z)) < p2 126) (b2 : N (cv (nestedF S z)) < p2 100) (b3 : p2 (-40) ≤ N (cv (nestedF S z)))
    (bz : N (cv z) ≤ p2 41) {q : Q2} (hq : q * cv (nestedF S z) = cv (nestedF F z)) (bq : N q ≤ p2 42) :
    safeStep F z ∧ ∃ z', stepF F z = (z', true) ∧ fC z' ∧ N (cv z' - (cv z - q)) ≤ u1 * (2 * N q + N (cv z - q)) + 3 * e1 := by
  obtain ⟨e, hsafe⟩ := step_shape hr hv hS hSv hz h1 h2
  obtain ⟨q1, q2⟩ := quoC_near h1 h2 hq b1 b2 b3 (lt_of_p2 bq (by decide))
  refine ⟨hsafe.2 ⟨hs1, hs2, q1⟩, ?_⟩
  rw [e]
  have hu := u1_pos
  have he := e1_pos
  have hu4 : u1 ≤ 1 / 4 := by decide +kernel
  have he4 : e1 ≤ 1 := by decide +kernel
  obtain ⟨u, hu'⟩ : ∃ u, u1 = u := ⟨_, rfl⟩
  obtain ⟨f, he'⟩ : ∃ f, e1 = f := ⟨_, rfl⟩
  rw [hu'] at hu hu4 ⊢
  rw [he'] at he he4 ⊢
  have q0 := N_nonneg q
  have d0 := N_nonneg (cv z - q)
  have uq0 := Rat.mul_nonneg (Rat.le_of_lt hu) q0
  have ud0 := Rat.mul_nonneg (Rat.le_of_lt hu) d0
  by_cases hz0 : zeroC (nestedF F z) = true
  · rw [if_pos hz0]
    refine ⟨z, rfl, hz, ?_⟩
    have hv0 := (zeroC_iff ((fC_iff _).1 h1)).1 hz0
    have hN0 : N (cv (nestedF F z)) = 0 := by
      show A (vN .f32 _) + A (vN .f32 _) = 0
      rw [hv0.1, hv0.2, A_zero]; decide +kernel
    have k1 := quo_le hq
    rw [hN0] at k1
    have k2 : N q * N (cv (nestedF S z)) ≤ 0 * N (cv (nestedF S z)) := by grind
    have k3 : N q ≤ 0 := lcancel_le (by have := p2_pos (-40); grind) k2
    have k4 := N_zero (Rat.le_antisymm k3 q0)
    have k5 : cv z - (cv z - q) = q := q2e (by simp; grind) (by simp; grind)
    rw [k5]
    have : 0 ≤ u * (2 * N q + N (cv z - q)) := Rat.mul_nonneg (Rat.le_of_lt hu) (by grind)
    grind
  · rw [if_neg hz0, if_pos ((fC_iff _).1 q2.1)]
    have g := q2.2
    rw [hu', he'] at g
    have t1 := N_tri (cv (quoC (nestedF F z) (nestedF S z))) q
    have s1 : N (cv z - cv (quoC (nestedF F z) (nestedF S z))) ≤ N (cv z - q) + (u * N q + f) := by
      have : cv z - cv (quoC (nestedF F z) (nestedF S z)) = (cv z - q) - (cv (quoC (nestedF F z) (nestedF S z)) - q) := q2e (by simp; grind) (by simp; grind)
      rw [this]
      have := N_sub (cv z - q) (cv (quoC (nestedF F z) (nestedF S z)) - q)
      grind
    have s2 : N (cv z - q) ≤ p2 41 + p2 42 := by have := N_sub (cv z) q; grind
    have s3 : N (cv z - cv (quoC (nestedF F z) (nestedF S z))) < p2 127 := by
      have c1 : p2 41 + p2 42 + (1 / 4 * p2 42 + 1) < p2 127 := by decide +kernel
      have c2 : u * N q ≤ 1 / 4 * p2 42 := mul_le hu4 bq q0 (by decide +kernel)
      grind
    have hn := subC_near hz q2.1 s3
    refine ⟨_, by unfold finiteX; rw [if_pos ((fC_iff _).1 hn.1)], hn.1, ?_⟩
    have g2 := hn.2
    rw [hu', he'] at g2
    have eq : cv (subC z (quoC (nestedF F z) (nestedF S z))) - (cv z - q) = (cv (subC z (quoC (nestedF F z) (nestedF S z))) - (cv z - cv (quoC (nestedF F z) (nestedF S z)))) - (cv (quoC (nestedF F z) (nestedF S z)) - q) := q2e (by simp; grind) (by simp; grind)
    rw [eq]
    have g3 := N_sub (cv (subC z (quoC (nestedF F z) (nestedF S z))) - (cv z - cv (quoC (nestedF F z) (nestedF S z)))) (cv (quoC (nestedF F z) (nestedF S z)) - q)
    have g4 := Rat.mul_le_mul_of_nonneg_left s1 (Rat.le_of_lt hu)
    have g5 := Rat.mul_le_mul_of_nonneg_right hu4 uq0
    have g6 := Rat.mul_le_mul_of_nonneg_right hu4 (Rat.le_of_lt he)
    clear e eq s3 s2 s1 hn q2 q1 hsafe b1 b2 b3 bq bz t1 hu4 he4 hs1 hs2
    generalize N (cv (subC z (quoC (nestedF F z) (nestedF S z))) - (cv z - cv (quoC (nestedF F z) (nestedF S z))) - (cv (quoC (nestedF F z) (nestedF S z)) - q)) = a1 at *
    generalize N (cv (subC z (quoC (nestedF F z) (nestedF S z))) - (cv z - cv (quoC (nestedF F z) (nestedF S z)))) = a2 at *
    generalize N (cv (quoC (nestedF F z) (nestedF S z)) - q) = a3 at *
    generalize N (cv z - cv (quoC (nestedF F z) (nestedF S z))) = a4 at *
    generalize N (cv z - q) = a5 at *
    generalize N q = a6 at *
    grind
end
end Go.Proofs.Ytklonahkacikbaa
