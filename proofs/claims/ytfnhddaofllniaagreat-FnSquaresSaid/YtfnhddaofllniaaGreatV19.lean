/- The bounds of the coefficients of the polynomial near each of its drawn roots. Conditions: up to four roots as they are drawn. -/
import Derived.Test.YtfnhddaofllniaaGreatV18
namespace Go.Proofs.YtfnhddaofllniaaGreat
open Go
set_option linter.unusedSimpArgs false
set_option linter.unusedVariables false

theorem inv_ab {u a : Q2} {r s : Rat} (h : u * a = one2) (ha : Lb a r) (hr : 0 < r) (hs : 1 ≤ s * r) (h0 : 0 ≤ s) : Ab u s := by
  refine ⟨h0, ?_⟩
  have e : sqN u * sqN a = 1 := by rw [← sqN_mul, h]; decide +kernel
  have c := Rat.mul_le_mul_of_nonneg_left ha.2 (sqN_nonneg u)
  have d := mul_le hs hs (by decide +kernel) (Rat.mul_nonneg h0 (Rat.le_of_lt hr))
  have p : 0 < r * r := Rat.mul_pos hr hr
  refine lcancel_le p ?_
  grind
/-- Three distances and their inverses. -/
theorem cof3 {a b g ua ub ug : Q2} (h1 : ua * a = one2) (h2 : ub * b = one2) (h3 : ug * g = one2) : (ua * (ub * ug)) * (a * (b * g)) = one2 ∧ (ua * (ub * ug)) * (a * b + a * g + b * g) = ua + ub + ug ∧ (ua * (ub * ug)) * (a + b + g) = ub * ug + ua * ug + ua * ub := by
  have e1 : (ua * (ub * ug)) * (a * (b * g)) = (ua * a) * ((ub * b) * (ug * g)) := by
    have x : b * g * (ub * ug) = (ub * b) * (ug * g) := q2e (by simp; grind) (by simp; grind)
    rw [← x]
    generalize ub * ug = p
    generalize b * g = q
    exact q2e (by simp; grind) (by simp; grind)
  have e2 : (ua * (ub * ug)) * (a * b + a * g + b * g) = ug * ((ua * a) * (ub * b)) + ub * ((ua * a) * (ug * g)) + ua * ((ub * b) * (ug * g)) := by
    have x1 : (ua * (ub * ug)) * (a * b) = ug * ((ua * a) * (ub * b)) := by
      have y : (ua * a) * (ub * b) = (ua * ub) * (a * b) := q2e (by simp; grind) (by simp; grind)
      rw [y]; generalize a * b = p; exact q2e (by simp; grind) (by simp; grind)
    have x2 : (ua * (ub * ug)) * (a * g) = ub * ((ua * a) * (ug * g)) := by
      have y : (ua * a) * (ug * g) = (ua * ug) * (a * g) := q2e (by simp; grind) (by simp; grind)
      rw [y]; generalize a * g = p; exact q2e (by simp; grind) (by simp; grind)
    have x3 : (ua * (ub * ug)) * (b * g) = ua * ((ub * b) * (ug * g)) := by
      have y : (ub * b) * (ug * g) = (ub * ug) * (b * g) := q2e (by simp; grind) (by simp; grind)
      rw [y]; generalize b * g = p; exact q2e (by simp; grind) (by simp; grind)
    rw [← x1, ← x2, ← x3]
    generalize ua * (ub * ug) = p
    exact q2e (by simp; grind) (by simp; grind)
  have e3 : (ua * (ub * ug)) * (a + b + g) = (ub * ug) * (ua * a) + (ua * ug) * (ub * b) + (ua * ub) * (ug * g) := q2e (by simp; grind) (by simp; grind)
  rw [e1, e2, e3, h1, h2, h3]
  simp only [one_mul2, mul_one2]
  refine ⟨trivial, q2e (by simp; grind) (by simp; grind), trivial⟩
theorem ass2 (P c : Q2) : P * P * c = P * (P * c) := mul_assoc2 P P c
theorem ass3 (P c : Q2) : P * (P * P) * c = P * P * (P * c) := q2e (by simp; grind) (by simp; grind)
/-- The end of four. -/
theorem cof4e {a b g ua ub ug M c2 c3 : Q2} (h1 : ua * a = one2) (h2 : ub * b = one2) (h3 : ug * g = one2) (hM : M = a * (b * g)) (e2 : c2 = a * b + a * g + b * g) (e3 : c3 = a + b + g)
    (A1 : Ab ua 2) (A2 : Ab ub (2 / 3)) (A3 : Ab ug (2 / 5)) (B1 : Lb a (1 / 2)) (B2 : Lb b (3 / 2)) (B3 : Lb g (5 / 2)) (C1 : Ab a (5 / 2)) (C2 : Ab b (3202 / 1000)) (C3 : Ab g (4032 / 1000)) :
    Cof M (ua * (ub * ug)) (ua * (ub * ug) * (ua * (ub * ug)) * c2) (ua * (ub * ug) * (ua * (ub * ug) * (ua * (ub * ug))) * c3) (ua * (ub * ug) * (ua * (ub * ug)) * (ua * (ub * ug) * (ua * (ub * ug))) * one2) (41 / 25) (7 / 10) (9 / 100) (15 / 8) 33 (8 / 15) := by
  obtain ⟨x1, x2, x3⟩ := cof3 h1 h2 h3
  have P := A1.mul (A2.mul A3)
  rw [hM, e2, e3]
  refine ⟨?_, ?_, ?_, ?_, ?_, x1, P.mono (by decide +kernel)⟩
  · rw [ass2, x2]
    exact (P.mul ((A1.add A2).add A3)).mono (by decide +kernel)
  · rw [ass3, x3]
    exact ((P.mul P).mul (((A2.mul A3).add (A1.mul A3)).add (A1.mul A2))).mono (by decide +kernel)
  · rw [mul_one2]
    exact ((P.mul P).mul (P.mul P)).mono (by decide +kernel)
  · exact (B1.mul (B2.mul B3)).mono (by decide +kernel) (by decide +kernel)
  · exact (C1.mul (C2.mul C3)).mono (by decide +kernel)
/-- The middle of four: a and b are the neighbours. -/
theorem cof4m {a b g ua ub ug M c2 c3 : Q2} (h1 : ua * a = one2) (h2 : ub * b = one2) (h3 : ug * g = one2) (hM : M = a * (b * g)) (e2 : c2 = a * b + a * g + b * g) (e3 : c3 = a + b + g)
    (A1 : Ab (ua * ub) 2) (A2 : Ab (ua * ub * (ua + ub)) (49 / 20)) (A3 : Ab ug (2 / 3)) (B1 : Lb (a * b) (1 / 2)) (B3 : Lb g (3 / 2)) (C1 : Ab a (5 / 2)) (C2 : Ab b (5 / 2)) (C3 : Ab g (3202 / 1000)) :
    Cof M (ua * (ub * ug)) (ua * (ub * ug) * (ua * (ub * ug)) * c2) (ua * (ub * ug) * (ua * (ub * ug) * (ua * (ub * ug))) * c3) (ua * (ub * ug) * (ua * (ub * ug)) * (ua * (ub * ug) * (ua * (ub * ug))) * one2) (253 / 100) (251 / 50) (317 / 100) (3 / 4) 21 (4 / 3) := by
  obtain ⟨x1, x2, x3⟩ := cof3 h1 h2 h3
  have P : Ab (ua * (ub * ug)) (2 * (2 / 3)) := by rw [← mul_assoc2]; exact A1.mul A3
  rw [hM, e2, e3]
  refine ⟨?_, ?_, ?_, ?_, ?_, x1, P.mono (by decide +kernel)⟩
  · rw [ass2, x2]
    have e : ua * (ub * ug) * (ua + ub + ug) = ua * ub * (ua + ub) * ug + ua * ub * (ug * ug) := by
      have y : ua * (ub * ug) = ua * ub * ug := q2e (by simp; grind) (by simp; grind)
      rw [y]; generalize ua * ub = p; exact q2e (by simp; grind) (by simp; grind)
    rw [e]
    exact ((A2.mul A3).add (A1.mul (A3.mul A3))).mono (by decide +kernel)
  · rw [ass3, x3]
    have e : ua * (ub * ug) * (ua * (ub * ug)) * (ub * ug + ua * ug + ua * ub) = ug * (ug * ug) * (ua * ub * (ua + ub)) * (ua * ub) + ua * ub * (ua * ub) * (ua * ub) * (ug * ug) := by
      have y : ua * (ub * ug) = ua * ub * ug := q2e (by simp; grind) (by simp; grind)
      have y2 : ub * ug + ua * ug + ua * ub = ug * (ua + ub) + ua * ub := q2e (by simp; grind) (by simp; grind)
      rw [y, y2]; generalize ua * ub = p; generalize ua + ub = q
      have y3 : p * ug * (p * ug) = p * p * (ug * ug) := q2e (by simp; grind) (by simp; grind)
      have y4 : ug * (ug * ug) * (p * q) * p = p * p * (ug * ug) * (ug * q) := by
        generalize ug * ug = u2
        have z1 : ug * u2 * (p * q) * p = ug * u2 * (p * p * q) := q2e (by simp; grind) (by simp; grind)
        rw [z1]; generalize p * p = p2'; exact q2e (by simp; grind) (by simp; grind)
      have y5 : p * p * p * (ug * ug) = p * p * (ug * ug) * p := by
        generalize ug * ug = u2; generalize p * p = p2'; exact q2e (by simp; grind) (by simp; grind)
      rw [y3, y4, y5]; generalize p * p * (ug * ug) = w; generalize ug * q = x
      exact q2e (by simp; grind) (by simp; grind)
    rw [e]
    exact ((((A3.mul (A3.mul A3)).mul A2).mul A1).add (((A1.mul A1).mul A1).mul (A3.mul A3))).mono (by decide +kernel)
  · rw [mul_one2]
    exact ((P.mul P).mul (P.mul P)).mono (by decide +kernel)
  · rw [← mul_assoc2]
    exact (B1.mul B3).mono (by decide +kernel) (by decide +kernel)
  · exact (C1.mul (C2.mul C3)).mono (by decide +kernel)
/-- Of three. -/
theorem cof2 {a b ua ub : Q2} (h1 : ua * a = one2) (h2 : ub * b = one2) : (ua * ub) * (a * b) = one2 ∧ (ua * ub) * (a + b) = ua + ub := by
  have e1 : (ua * ub) * (a * b) = (ua * a) * (ub * b) := q2e (by simp; grind) (by simp; grind)
  have e2 : (ua * ub) * (a + b) = ub * (ua * a) + ua * (ub * b) := q2e (by simp; grind) (by simp; grind)
  rw [e1, e2, h1, h2]
  simp only [one_mul2, mul_one2]
  exact ⟨trivial, q2e (by simp; grind) (by simp; grind)⟩
theorem cof3e {a b ua ub M c2 : Q2} (h1 : ua * a = one2) (h2 : ub * b = one2) (hM : M = a * b) (e2 : c2 = a + b)
    (A1 : Ab ua 2) (A2 : Ab ub (2 / 3)) (B1 : Lb a (1 / 2)) (B2 : Lb b (3 / 2)) (C1 : Ab a (5 / 2)) (C2 : Ab b (3202 / 1000)) :
    Cof M (ua * ub) (ua * ub * (ua * ub) * c2) (ua * ub * (ua * ub * (ua * ub)) * one2) (ua * ub * (ua * ub) * (ua * ub * (ua * ub)) * zero2) (32 / 9) (64 / 27) 0 (3 / 4) (81 / 10) (4 / 3) := by
  obtain ⟨x1, x2⟩ := cof2 h1 h2
  have P := A1.mul A2
  rw [hM, e2]
  refine ⟨?_, ?_, ?_, ?_, ?_, x1, P.mono (by decide +kernel)⟩
  · rw [ass2, x2]
    exact (P.mul (A1.add A2)).mono (by decide +kernel)
  · rw [mul_one2]
    exact (P.mul (P.mul P)).mono (by decide +kernel)
  · exact (((P.mul P).mul (P.mul P)).mul Ab.zero).mono (by decide +kernel)
  · exact (B1.mul B2).mono (by decide +kernel) (by decide +kernel)
  · exact (C1.mul C2).mono (by decide +kernel)
theorem cof3m {a b ua ub M c2 : Q2} (h1 : ua * a = one2) (h2 : ub * b = one2) (hM : M = a * b) (e2 : c2 = a + b)
    (A1 : Ab (ua * ub) 2) (A2 : Ab (ua * ub * (ua + ub)) (49 / 20)) (B1 : Lb (a * b) (1 / 2)) (C1 : Ab a (5 / 2)) (C2 : Ab b (5 / 2)) :
    Cof M (ua * ub) (ua * ub * (ua * ub) * c2) (ua * ub * (ua * ub * (ua * ub)) * one2) (ua * ub * (ua * ub) * (ua * ub * (ua * ub)) * zero2) (49 / 20) 8 0 (1 / 2) (63 / 10) 2 := by
  obtain ⟨x1, x2⟩ := cof2 h1 h2
  rw [hM, e2]
  refine ⟨?_, ?_, ?_, ?_, ?_, x1, A1⟩
  · rw [ass2, x2]
    exact A2
  · rw [mul_one2]
    exact (A1.mul (A1.mul A1)).mono (by decide +kernel)
  · exact (((A1.mul A1).mul (A1.mul A1)).mul Ab.zero).mono (by decide +kernel)
  · exact B1
  · exact (C1.mul C2).mono (by decide +kernel)
theorem cof2' {a ua M : Q2} (h1 : ua * a = one2) (hM : M = a) (A1 : Ab ua 2) (B1 : Lb a (1 / 2)) (C1 : Ab a (5 / 2)) :
    Cof M ua (ua * ua * one2) (ua * (ua * ua) * zero2) (ua * ua * (ua * ua) * zero2) 4 0 0 (1 / 2) (5 / 2) 2 := by
  subst hM
  refine ⟨?_, ?_, ?_, B1, C1, h1, A1⟩
  · rw [mul_one2]; exact (A1.mul A1).mono (by decide +kernel)
  · exact ((A1.mul (A1.mul A1)).mul Ab.zero).mono (by decide +kernel)
  · exact (((A1.mul A1).mul (A1.mul A1)).mul Ab.zero).mono (by decide +kernel)
theorem cof1 : Cof one2 one2 (one2 * one2 * zero2) (one2 * (one2 * one2) * zero2) (one2 * one2 * (one2 * one2) * zero2) 0 0 0 1 1 1 := by
  have o : Ab one2 1 := ⟨by decide +kernel, by decide +kernel⟩
  refine ⟨?_, ?_, ?_, ⟨by decide +kernel, by decide +kernel⟩, o, mul_one2 one2, o⟩
  · exact ((o.mul o).mul Ab.zero).mono (by decide +kernel)
  · exact ((o.mul (o.mul o)).mul Ab.zero).mono (by decide +kernel)
  · exact (((o.mul o).mul (o.mul o)).mul Ab.zero).mono (by decide +kernel)
end Go.Proofs.YtfnhddaofllniaaGreat

/- The polynomial of the drawn roots near each root: its scaled form, with tables of bounds for twelve steps. Conditions: up to four roots as they are drawn. -/
namespace Go.Proofs.YtfnhddaofllniaaGreat
open Go
set_option linter.unusedSimpArgs false
set_option linter.unusedVariables false

theorem int_sq (a : Int) : 0 ≤ a * a := by
  rcases Int.le_total 0 a with h | h
  · exact Int.mul_nonneg h h
  · exact Int.mul_nonneg_of_nonpos_of_nonpos h h
def aq (X : Nat → Int × Int) (i j : Nat) : Q2 := rq X i - rq X j
theorem aq_re (X : Nat → Int × Int) (i j : Nat) : (aq X i j).re = (((X i).1 - (X j).1 : Int) : Rat) * (1 / 8) := by
  show ((X i).1 : Rat) * p2 (-3) - ((X j).1 : Rat) * p2 (-3) = _
  rw [p2m3, Rat.intCast_sub]; grind
theorem aq_im (X : Nat → Int × Int) (i j : Nat) : (aq X i j).im = (((X i).2 - (X j).2 : Int) : Rat) * (1 / 8) := by
  show ((X i).2 : Rat) * p2 (-3) - ((X j).2 : Rat) * p2 (-3) = _
  rw [p2m3, Rat.intCast_sub]; grind
theorem aq_self (X : Nat → Int × Int) (i : Nat) : aq X i i = zero2 := q2e (by simp [aq, zero2]; try grind) (by simp [aq, zero2]; try grind)
theorem aq_sq (X : Nat → Int × Int) (i j : Nat) : sqN (aq X i j) = ((((X i).1 - (X j).1) * ((X i).1 - (X j).1) + ((X i).2 - (X j).2) * ((X i).2 - (X j).2) : Int) : Rat) * (1 / 64) := by
  unfold sqN
  rw [aq_re, aq_im, Rat.intCast_add, Rat.intCast_mul, Rat.intCast_mul]
  grind
section
variable {ls : List C2} {X : Nat → Int × Int}
theorem DX.lb (h : DX ls X) {i j k : Nat} (hi : i < ls.length) (hj : j < ls.length) (hk : i = j + k ∨ j = i + k) (h1 : 1 ≤ k) {r : Rat} (hr : r ≤ ((8 * k - 4 : Nat) : Rat) * (1 / 8)) (h0 : 0 ≤ r) : Lb (aq X i j) r := by
  refine Lb.of_re h0 (Rat.le_trans hr ?_)
  rw [aq_re, A_intm _ (by decide +kernel)]
  refine Rat.mul_le_mul_of_nonneg_right ?_ (by decide +kernel)
  have a := h.x i hi
  have b := h.x j hj
  have : 8 * k - 4 ≤ ((X i).1 - (X j).1).natAbs := by omega
  exact_mod_cast this
theorem DX.ab (h : DX ls X) {i j k : Nat} (hi : i < ls.length) (hj : j < ls.length) (hk : i = j + k ∨ j = i + k) {r : Rat} (hr : (((8 * (k : Int) + 4) * (8 * (k : Int) + 4) + 256 : Int) : Rat) * (1 / 64) ≤ r * r) (h0 : 0 ≤ r) : Ab (aq X i j) r := by
  refine ⟨h0, Rat.le_trans ?_ hr⟩
  rw [aq_sq]
  refine Rat.mul_le_mul_of_nonneg_right ?_ (by decide +kernel)
  have a := h.x i hi
  have b := h.x j hj
  have c := h.y i hi
  have d := h.y j hj
  have e := (mulb (a := (X i).1 - (X j).1) (b := (X i).1 - (X j).1) (U := 8 * (k : Int) + 4) (V := 8 * (k : Int) + 4) (by omega) (by omega)).2
  have f := (mulb (a := (X i).2 - (X j).2) (b := (X i).2 - (X j).2) (U := 16) (V := 16) (by omega) (by omega)).2
  exact Rat.intCast_le_intCast.2 (by omega)
theorem DX.inv (h : DX ls X) {i j k : Nat} (hi : i < ls.length) (hj : j < ls.length) (hk : i = j + k ∨ j = i + k) (h1 : 1 ≤ k) : inv2 (aq X i j) * aq X i j = one2 := by
  refine inv2_mul ?_
  have a := (h.lb hi hj hk h1 (r := 1 / 2) (by
    have : ((4 : Nat) : Rat) ≤ ((8 * k - 4 : Nat) : Rat) := by exact_mod_cast (by omega : 4 ≤ 8 * k - 4)
    have e : ((4 : Nat) : Rat) = 4 := rfl
    grind) (by decide +kernel)).N
  grind
/-- Two neighbours on both sides. -/
theorem DX.two (h : DX ls X) {i j : Nat} (hi : i = j + 1) (hj : j + 2 < ls.length) : Lb (aq X i j * aq X i (j + 2)) (1 / 2) ∧ Ab (inv2 (aq X i j) * inv2 (aq X i (j + 2))) 2 ∧
    Ab (inv2 (aq X i j) * inv2 (aq X i (j + 2)) * (inv2 (aq X i j) + inv2 (aq X i (j + 2)))) (49 / 20) := by
  have u1' := h.inv (i := i) (j := j) (k := 1) (by omega) (by omega) (by omega) (by omega)
  have u2' := h.inv (i := i) (j := j + 2) (k := 1) (by omega) (by omega) (by omega) (by omega)
  have xi := h.x i (by omega)
  have xj := h.x j (by omega)
  have xk := h.x (j + 2) hj
  have yi := h.y i (by omega)
  have yj := h.y j (by omega)
  have yk := h.y (j + 2) hj
  obtain ⟨P, hP⟩ := Int.eq_ofNat_of_zero_le (show 0 ≤ (X i).1 - (X j).1 by omega)
  obtain ⟨Q, hQ⟩ := Int.eq_ofNat_of_zero_le (show 0 ≤ (X (j + 2)).1 - (X i).1 by omega)
  obtain ⟨s, hs⟩ := Int.eq_ofNat_of_zero_le (show 0 ≤ (X i).2 - (X j).2 + 16 by omega)
  obtain ⟨t, ht⟩ := Int.eq_ofNat_of_zero_le (show 0 ≤ (X i).2 - (X (j + 2)).2 + 16 by omega)
  have J1 := j1 P (by omega) Q (by omega) ⟨by omega, by omega, by omega⟩
  have J2 := j2_ok P (by omega) Q (by omega) ⟨by omega, by omega, by omega⟩ s (by omega) t (by omega)
  unfold j2 at J2
  rw [decide_eq_true_eq] at J2
  have sa : sqN (aq X i j) = (((P : Int) * P + ((s : Int) - 16) * ((s : Int) - 16) : Int) : Rat) * (1 / 64) := by
    rw [aq_sq, hP, show (X i).2 - (X j).2 = (s : Int) - 16 by omega]
  have sb : sqN (aq X i (j + 2)) = (((Q : Int) * Q + ((t : Int) - 16) * ((t : Int) - 16) : Int) : Rat) * (1 / 64) := by
    rw [aq_sq, show (X i).1 - (X (j + 2)).1 = -(Q : Int) by omega, show (X i).2 - (X (j + 2)).2 = (t : Int) - 16 by omega, Int.neg_mul_neg]
  have sab : sqN (aq X i j + aq X i (j + 2)) = ((((P : Int) - Q) * ((P : Int) - Q) + ((s : Int) + t - 32) * ((s : Int) + t - 32) : Int) : Rat) * (1 / 64) := by
    unfold sqN
    rw [re_add, im_add, aq_re, aq_im, aq_re, aq_im, hP, show (X i).1 - (X (j + 2)).1 = -(Q : Int) by omega, show (X i).2 - (X j).2 = (s : Int) - 16 by omega, show (X i).2 - (X (j + 2)).2 = (t : Int) - 16 by omega]
    have e1 : (((P : Int) : Rat) * (1 / 8) + ((-(Q : Int) : Int) : Rat) * (1 / 8)) = (((P : Int) - Q : Int) : Rat) * (1 / 8) := by rw [Rat.intCast_neg, Rat.intCast_sub]; grind
    have e2 : ((((s : Int) - 16 : Int) : Rat) * (1 / 8) + (((t : Int) - 16 : Int) : Rat) * (1 / 8)) = (((s : Int) + t - 32 : Int) : Rat) * (1 / 8) := by
      rw [show (s : Int) + t - 32 = ((s : Int) - 16) + ((t : Int) - 16) by omega, Rat.intCast_add]; grind
    rw [e1, e2, Rat.intCast_add, Rat.intCast_mul, Rat.intCast_mul]
    grind
  generalize aq X i j = a at *
  generalize aq X i (j + 2) = b at *
  generalize inv2 a = ua at *
  generalize inv2 b = ub at *
  have hab := cof2 u1' u2'
  have lab : Lb (a * b) (1 / 2) := by
    refine ⟨by decide +kernel, ?_⟩
    rw [sqN_mul, sa, sb]
    have m1 : (P : Int) * P ≤ (P : Int) * P + ((s : Int) - 16) * ((s : Int) - 16) := by have := int_sq ((s : Int) - 16); omega
    have m2 : (Q : Int) * Q ≤ (Q : Int) * Q + ((t : Int) - 16) * ((t : Int) - 16) := by have := int_sq ((t : Int) - 16); omega
    generalize (P : Int) * P + ((s : Int) - 16) * ((s : Int) - 16) = U at *
    generalize (Q : Int) * Q + ((t : Int) - 16) * ((t : Int) - 16) = V at *
    have k0 : (32 : Int) ≤ (P : Int) * Q := by exact_mod_cast J1
    have k1 : (32 : Int) * 32 ≤ (P : Int) * Q * ((P : Int) * Q) := Int.mul_le_mul k0 k0 (by decide) (by omega)
    have k2 : (P : Int) * P * ((Q : Int) * Q) ≤ U * V := Int.mul_le_mul m1 m2 (int_sq _) (by have := int_sq (P : Int); omega)
    have k3 : (P : Int) * P * ((Q : Int) * Q) = (P : Int) * Q * ((P : Int) * Q) := by grind
    have k4 : (1024 : Int) ≤ U * V := by omega
    have k5 : ((1024 : Int) : Rat) ≤ ((U * V : Int) : Rat) := Rat.intCast_le_intCast.2 k4
    rw [Rat.intCast_mul] at k5
    have e : ((1024 : Int) : Rat) = 1024 := rfl
    rw [e] at k5
    grind
  refine ⟨lab, inv_ab hab.1 lab (by decide +kernel) (by decide +kernel) (by decide +kernel), by decide +kernel, ?_⟩
  have ex : ua * ub * (ua + ub) * (a * b * (a * b)) = a + b := by
    have y : ua * ub * (ua + ub) * (a * b * (a * b)) = (ua * ub) * (a * b) * ((ua * b) * a + (ub * a) * b) := by
      have z : (ua * b) * a + (ub * a) * b = (ua + ub) * (a * b) := q2e (by simp; grind) (by simp; grind)
      rw [z]
      generalize ua * ub = p
      generalize a * b = q
      generalize ua + ub = w
      exact q2e (by simp; grind) (by simp; grind)
    have y2 : (ua * b) * a + (ub * a) * b = (ua * a) * b + (ub * b) * a := q2e (by simp; grind) (by simp; grind)
    rw [y, hab.1, y2, u1', u2', one_mul2, one_mul2, one_mul2]
    exact q2e (by simp; grind) (by simp; grind)
  have en : sqN (ua * ub * (ua + ub)) * (sqN (a * b) * sqN (a * b)) = sqN (a + b) := by rw [← sqN_mul (a * b), ← sqN_mul, ex]
  have wp : 0 < sqN (a * b) * sqN (a * b) := by
    have := lab.2
    exact Rat.mul_pos (by grind) (by grind)
  refine lcancel_le wp ?_
  rw [en, sab, sqN_mul, sa, sb]
  generalize (P : Int) * P + ((s : Int) - 16) * ((s : Int) - 16) = U at *
  generalize (Q : Int) * Q + ((t : Int) - 16) * ((t : Int) - 16) = V at *
  generalize ((P : Int) - Q) * ((P : Int) - Q) + ((s : Int) + t - 32) * ((s : Int) + t - 32) = W at *
  have k5 : ((W * 104857600 : Int) : Rat) ≤ ((2401 * ((U * V) * (U * V)) : Int) : Rat) := Rat.intCast_le_intCast.2 J2
  rw [Rat.intCast_mul, Rat.intCast_mul, Rat.intCast_mul, Rat.intCast_mul] at k5
  have e : ((104857600 : Int) : Rat) = 104857600 := rfl
  have e' : ((2401 : Int) : Rat) = 2401 := rfl
  rw [e, e'] at k5
  grind
end
end Go.Proofs.YtfnhddaofllniaaGreat
