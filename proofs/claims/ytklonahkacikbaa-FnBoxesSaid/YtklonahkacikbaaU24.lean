/- The angle of a number near the positive reals is its tangent's short series, nearly: on words. Conditions: the tangent is at most 28 / 100. -/
import Derived.Test.YtklonahkacikbaaU23
namespace Go.Proofs.Ytklonahkacikbaa
open Go Go.RowKit
set_option linter.unusedSimpArgs false
set_option linter.unusedVariables false

theorem kap_ok : vN .f64 (nrm .f64 4618760256179416344) = 884279719003555 / 140737488355328 := by decide +kernel
def kapR : Rat := 884279719003555 / 140737488355328
/-- Three halvings. -/
theorem three_half {w : Nat} (h : Iv w 0 (281 / 1000)) : A (8 * T5 (vN .f64 (tI w 3)) - T5 (vN .f64 w)) ≤ 6 / 100000 ∧ Iv (tI w 3) 0 (36 / 1000) := by
  have i1 : Iv (tS w) 0 (1406 / 10000) := tS_iv1 h (by decide +kernel) (by decide +kernel) (by decide +kernel) (by decide +kernel)
  have i2 : Iv (tS (tS w)) 0 (704 / 10000) := tS_iv1 i1 (by decide +kernel) (by decide +kernel) (by decide +kernel) (by decide +kernel)
  have i3 : Iv (tS (tS (tS w))) 0 (36 / 1000) := tS_iv1 i2 (by decide +kernel) (by decide +kernel) (by decide +kernel) (by decide +kernel)
  have h1 := tS_half (h.mono Rat.le_refl (by decide +kernel))
  have h2 := tS_half (i1.mono Rat.le_refl (by decide +kernel))
  have h3 := tS_half (i2.mono Rat.le_refl (by decide +kernel))
  have sq : ∀ {x : Nat} {b : Rat}, Iv x 0 b → vN .f64 x * vN .f64 x ≤ b * b := fun hx => by
    exact Rat.le_trans (le_A _).1 (abs_m (iv_A hx) (iv_A hx))
  have a1 := t5_half h1 (Rat.le_trans (iv_A i1) (by decide +kernel)) (iv_A h) (sq i1) (by decide +kernel) (by decide +kernel)
  have a2 := t5_half h2 (Rat.le_trans (iv_A i2) (by decide +kernel)) (iv_A i1) (sq i2) (by decide +kernel) (by decide +kernel)
  have a3 := t5_half h3 (Rat.le_trans (iv_A i3) (by decide +kernel)) (iv_A i2) (sq i3) (by decide +kernel) (by decide +kernel)
  refine ⟨?_, i3⟩
  have s := abs_a (abs_a (abs_k (k := 4) (by decide +kernel) a3) (abs_k (k := 2) (by decide +kernel) a2)) a1
  have e : tI w 3 = tS (tS (tS w)) := rfl
  rw [e]
  rw [show 4 * (2 * T5 (vN .f64 (tS (tS (tS w)))) - T5 (vN .f64 (tS (tS w)))) + 2 * (2 * T5 (vN .f64 (tS (tS w))) - T5 (vN .f64 (tS w))) + (2 * T5 (vN .f64 (tS w)) - T5 (vN .f64 w)) = 8 * T5 (vN .f64 (tS (tS (tS w)))) - T5 (vN .f64 w) by grind] at s
  refine Rat.le_trans s ?_
  decide +kernel
/-- The series on words: its last three terms. -/
theorem angP_near {u : Nat} (hu : Iv u 0 (13 / 10000)) : A (vN .f64 (angP u 8) - (1 - vN .f64 u / 3 + vN .f64 u * vN .f64 u / 5)) ≤ 1 / 100000000 := by
  have hu' := hu.mono (show (0 : Rat) ≤ 0 from Rat.le_refl) (show (13 / 10000 : Rat) ≤ 16 / 1000 by decide +kernel)
  have hP := fun i hi => angP_iv hu' i hi
  have ua := iv_A hu
  have c := fun j (hj : j < 8) => (kA_iv j hj)
  have qv : ∀ (j : Nat) (q : Rat), j < 8 → q * vN .f64 (kA j) = 1 → A q ≤ 1 → A (vN .f64 (fop .quo .f64 (nrm .f64 4607182418800017408) (kA j)) - q) ≤ e0 ∧ fN .f64 (fop .quo .f64 (nrm .f64 4607182418800017408) (kA j)) = true := by
    intro j q hj hq hA
    obtain ⟨k1, k2, k3⟩ := kA_iv j hj
    have v1 : vN .f64 (nrm .f64 4607182418800017408) = 1 := by decide +kernel
    exact ⟨ve_quo c1_iv.1 k1 (by grind) (by rw [hq, v1]) (Rat.le_trans hA (by decide +kernel)), (fop_quo_ok c1_iv.1 k1 (by grind) (by rw [hq, v1]) (lt_of_p2 (a := 6) (Rat.le_trans hA (by decide +kernel)) (by decide))).1⟩
  have step : ∀ (j : Nat) (q b : Rat), j < 8 → q * vN .f64 (kA j) = 1 → A q ≤ 1 → A (vN .f64 (angP u (j + 1)) - (q - vN .f64 u * vN .f64 (angP u j))) ≤ 3 * e0 := by
    intro j q b hj hq hA
    obtain ⟨q1, q2⟩ := qv j q hj hq hA
    have hp := hP j (by omega)
    have pa := iv_A hp
    have um := abs_m ua pa
    have m1 := ve_mul hu.1 hp.1 (Rat.le_trans um (by decide +kernel))
    have mf : fN .f64 (fop .mul .f64 u (angP u j)) = true := (fop_mul_res hu.1 hp.1 (l64 (Rat.le_trans um (by decide +kernel)))).1
    have e0b : e0 ≤ 1 := by decide +kernel
    have s0 : A (vN .f64 (fop .quo .f64 (nrm .f64 4607182418800017408) (kA j)) - vN .f64 (fop .mul .f64 u (angP u j))) ≤ 64 := by
      have x1 : A (vN .f64 (fop .quo .f64 (nrm .f64 4607182418800017408) (kA j))) ≤ 2 := by
        have := abs_a q1 hA
        rw [show vN .f64 (fop .quo .f64 (nrm .f64 4607182418800017408) (kA j)) - q + q = vN .f64 (fop .quo .f64 (nrm .f64 4607182418800017408) (kA j)) by grind] at this
        grind
      have x2 : A (vN .f64 (fop .mul .f64 u (angP u j))) ≤ 2 := by
        have := abs_a m1 um
        rw [show vN .f64 (fop .mul .f64 u (angP u j)) - vN .f64 u * vN .f64 (angP u j) + vN .f64 u * vN .f64 (angP u j) = vN .f64 (fop .mul .f64 u (angP u j)) by grind] at this
        exact Rat.le_trans this (by decide +kernel)
      exact Rat.le_trans (abs_s x1 x2) (by decide +kernel)
    have r := ve_sub q2 mf s0
    have t := abs_s (abs_a r q1) m1
    rw [show vN .f64 (fop .sub .f64 (fop .quo .f64 (nrm .f64 4607182418800017408) (kA j)) (fop .mul .f64 u (angP u j))) - (vN .f64 (fop .quo .f64 (nrm .f64 4607182418800017408) (kA j)) - vN .f64 (fop .mul .f64 u (angP u j))) + (vN .f64 (fop .quo .f64 (nrm .f64 4607182418800017408) (kA j)) - q) - (vN .f64 (fop .mul .f64 u (angP u j)) - vN .f64 u * vN .f64 (angP u j)) = vN .f64 (fop .sub .f64 (fop .quo .f64 (nrm .f64 4607182418800017408) (kA j)) (fop .mul .f64 u (angP u j))) - (q - vN .f64 u * vN .f64 (angP u j)) by grind] at t
    show A (vN .f64 (fop .sub .f64 (fop .quo .f64 (nrm .f64 4607182418800017408) (kA j)) (fop .mul .f64 u (angP u j))) - _) ≤ _
    grind
  have s5 := step 5 (1 / 5) 0 (by decide) (by decide +kernel) (by decide +kernel)
  have s6 := step 6 (1 / 3) 0 (by decide) (by decide +kernel) (by decide +kernel)
  have s7 := step 7 1 0 (by decide) (by decide +kernel) (by decide +kernel)
  have p5 := iv_A (hP 5 (by decide))
  have u5 := abs_m ua p5
  show A (vN .f64 (angP u (7 + 1)) - _) ≤ _
  have e0s : e0 ≤ 1 / 1000000000000 := by decide +kernel
  have w6 : A (vN .f64 (angP u (5 + 1)) - 1 / 5) ≤ 14 / 10000 := by
    have := abs_s s5 u5
    rw [show vN .f64 (angP u (5 + 1)) - (1 / 5 - vN .f64 u * vN .f64 (angP u 5)) - vN .f64 u * vN .f64 (angP u 5) = vN .f64 (angP u (5 + 1)) - 1 / 5 by grind] at this
    exact Rat.le_trans this (by decide +kernel)
  have w7 : A (vN .f64 (angP u (6 + 1)) - (1 / 3 - vN .f64 u / 5)) ≤ 2 / 1000000 := by
    have := abs_s s6 (abs_m ua w6)
    rw [show vN .f64 (angP u (6 + 1)) - (1 / 3 - vN .f64 u * vN .f64 (angP u 6)) - vN .f64 u * (vN .f64 (angP u (5 + 1)) - 1 / 5) = vN .f64 (angP u (6 + 1)) - (1 / 3 - vN .f64 u / 5) by show vN .f64 (angP u (6 + 1)) - (1 / 3 - vN .f64 u * vN .f64 (angP u (5 + 1))) - vN .f64 u * (vN .f64 (angP u (5 + 1)) - 1 / 5) = _; grind] at this
    exact Rat.le_trans this (by decide +kernel)
  have w8 := abs_s s7 (abs_m ua w7)
  rw [show vN .f64 (angP u (7 + 1)) - (1 - vN .f64 u * vN .f64 (angP u 7)) - vN .f64 u * (vN .f64 (angP u (6 + 1)) - (1 / 3 - vN .f64 u / 5)) = vN .f64 (angP u (7 + 1)) - (1 - vN .f64 u / 3 + vN .f64 u * vN .f64 u / 5) by show vN .f64 (angP u (7 + 1)) - (1 - vN .f64 u * vN .f64 (angP u (6 + 1))) - vN .f64 u * (vN .f64 (angP u (6 + 1)) - (1 / 3 - vN .f64 u / 5)) = _; grind] at w8
  exact Rat.le_trans w8 (by decide +kernel)
theorem angM_near {t : Nat} (ht : Iv t 0 (36 / 1000)) : fN .f64 (angM t) = true ∧ A (kapR * vN .f64 (angM t) - 8 * T5 (vN .f64 t)) ≤ 1 / 1000000 := by
  have ta := iv_A ht
  have tt := abs_m ta ta
  have u1' := ve_mul ht.1 ht.1 (Rat.le_trans tt (by decide +kernel))
  have hu : Iv (fop .mul .f64 t t) 0 (13 / 10000) := iv_mul ht ht (by decide +kernel) (by decide +kernel) (by decide +kernel) (.inr rfl) (by decide +kernel)
  have hP := angP_near hu
  have pI := angP_iv (hu.mono Rat.le_refl (by decide +kernel)) 8 (by decide)
  have aI := angM_iv (ht.mono Rat.le_refl (by decide +kernel))
  have ua := iv_A hu
  have e0s : e0 ≤ 1 / 1000000000000 := by decide +kernel
  have e0p : 0 ≤ e0 := by decide +kernel
  generalize hU : fop .mul .f64 t t = U at *
  generalize hQ : angP U 8 = Q at *
  have tq := abs_m ta (iv_A pI)
  have m1 := ve_mul ht.1 pI.1 (Rat.le_trans tq (by decide +kernel))
  have m1f : fN .f64 (fop .mul .f64 t Q) = true := (fop_mul_res ht.1 pI.1 (l64 (Rat.le_trans tq (by decide +kernel)))).1
  have m1a : A (vN .f64 (fop .mul .f64 t Q)) ≤ 37 / 1000 := by
    have := abs_a m1 tq
    rw [show vN .f64 (fop .mul .f64 t Q) - vN .f64 t * vN .f64 Q + vN .f64 t * vN .f64 Q = vN .f64 (fop .mul .f64 t Q) by grind] at this
    exact Rat.le_trans this (by decide +kernel)
  have v8 : vN .f64 (nrm .f64 4620693217682128896) = 8 := by decide +kernel
  have m2b : A (vN .f64 (nrm .f64 4620693217682128896) * vN .f64 (fop .mul .f64 t Q)) ≤ 296 / 1000 := by
    rw [v8]; exact Rat.le_trans (abs_k (by decide +kernel) m1a) (by decide +kernel)
  have m2 := ve_mul c8_iv.1 m1f (Rat.le_trans m2b (by decide +kernel))
  have m2f : fN .f64 (fop .mul .f64 (nrm .f64 4620693217682128896) (fop .mul .f64 t Q)) = true := (fop_mul_res c8_iv.1 m1f (l64 (Rat.le_trans m2b (by decide +kernel)))).1
  rw [v8] at m2 m2b
  have kp : vN .f64 (nrm .f64 4618760256179416344) = kapR := kap_ok
  have kb : (6 : Rat) ≤ kapR ∧ kapR ≤ 7 := by decide +kernel
  have m2a : A (vN .f64 (fop .mul .f64 (nrm .f64 4620693217682128896) (fop .mul .f64 t Q))) ≤ 3 / 10 := by
    have := abs_a m2 m2b
    rw [show vN .f64 (fop .mul .f64 (nrm .f64 4620693217682128896) (fop .mul .f64 t Q)) - 8 * vN .f64 (fop .mul .f64 t Q) + 8 * vN .f64 (fop .mul .f64 t Q) = vN .f64 (fop .mul .f64 (nrm .f64 4620693217682128896) (fop .mul .f64 t Q)) by grind] at this
    exact Rat.le_trans this (by decide +kernel)
  have aF : fN .f64 (fop .quo .f64 (fop .mul .f64 (nrm .f64 4620693217682128896) (fop .mul .f64 t Q)) (nrm .f64 4618760256179416344)) = true := by
    have := aI.1
    unfold angM at this
    rw [hU, hQ] at this
    exact this
  have eM : angM t = fop .quo .f64 (fop .mul .f64 (nrm .f64 4620693217682128896) (fop .mul .f64 t Q)) (nrm .f64 4618760256179416344) := by unfold angM; rw [hU, hQ]
  rw [eM]
  refine ⟨aF, ?_⟩
  generalize fop .mul .f64 (nrm .f64 4620693217682128896) (fop .mul .f64 t Q) = Z at *
  generalize fop .mul .f64 t Q = Y at *
  have kn : vN .f64 (nrm .f64 4618760256179416344) ≠ 0 := by rw [kp]; grind
  obtain ⟨q, hq⟩ : ∃ q : Rat, q * vN .f64 (nrm .f64 4618760256179416344) = vN .f64 Z := ⟨vN .f64 Z * (vN .f64 (nrm .f64 4618760256179416344))⁻¹, by rw [Rat.mul_assoc, Rat.inv_mul_cancel _ kn, Rat.mul_one]⟩
  have qa : A q ≤ 64 := by
    have h1 : A q * A kapR ≤ 3 / 10 := by rw [← A_mul, ← kp, hq]; exact m2a
    rw [A_of_nonneg (show 0 ≤ kapR by grind)] at h1
    have := Rat.mul_le_mul_of_nonneg_left kb.1 (A_nonneg q)
    grind
  have r := ve_quo m2f c2pi_iv.1 kn hq qa
  rw [kp] at hq
  generalize vN .f64 (fop .quo .f64 Z (nrm .f64 4618760256179416344)) = a at *
  have k1 : A (kapR * (a - q)) ≤ 7 * e0 := by
    rw [A_mul, A_of_nonneg (show 0 ≤ kapR by grind)]
    exact mul_le kb.2 r (A_nonneg _) (by decide +kernel)
  have uu : A (vN .f64 U * vN .f64 U - vN .f64 t * vN .f64 t * (vN .f64 t * vN .f64 t)) ≤ 1 * e0 := by
    rw [show vN .f64 U * vN .f64 U - vN .f64 t * vN .f64 t * (vN .f64 t * vN .f64 t) = (vN .f64 U + vN .f64 t * vN .f64 t) * (vN .f64 U - vN .f64 t * vN .f64 t) by grind]
    refine Rat.le_trans (abs_m (abs_a ua tt) u1') ?_
    exact Rat.mul_le_mul_of_nonneg_right (by decide +kernel) e0p
  have pd : A (vN .f64 Q - (1 - vN .f64 t * vN .f64 t / 3 + vN .f64 t * vN .f64 t * (vN .f64 t * vN .f64 t) / 5)) ≤ 2 / 100000000 := by
    have s := abs_a (abs_s hP (abs_k (k := 1 / 3) (by decide +kernel) u1')) (abs_k (k := 1 / 5) (by decide +kernel) uu)
    rw [show vN .f64 Q - (1 - vN .f64 U / 3 + vN .f64 U * vN .f64 U / 5) - 1 / 3 * (vN .f64 U - vN .f64 t * vN .f64 t) + 1 / 5 * (vN .f64 U * vN .f64 U - vN .f64 t * vN .f64 t * (vN .f64 t * vN .f64 t)) = vN .f64 Q - (1 - vN .f64 t * vN .f64 t / 3 + vN .f64 t * vN .f64 t * (vN .f64 t * vN .f64 t) / 5) by grind] at s
    exact Rat.le_trans s (by decide +kernel)
  have fin := abs_a (abs_a k1 m2) (abs_k (k := 8) (by decide +kernel) (abs_a m1 (abs_m ta pd)))
  rw [show kapR * (a - q) + (vN .f64 Z - 8 * vN .f64 Y) + 8 * (vN .f64 Y - vN .f64 t * vN .f64 Q + vN .f64 t * (vN .f64 Q - (1 - vN .f64 t * vN .f64 t / 3 + vN .f64 t * vN .f64 t * (vN .f64 t * vN .f64 t) / 5))) = kapR * a - 8 * T5 (vN .f64 t) by rw [← hq]; unfold T5; grind] at fin
  exact Rat.le_trans fin (by decide +kernel)
theorem T5_neg (t : Rat) : T5 (-t) = -T5 t := by unfold T5; grind
/-- The angle in turns, times the turn's number: the tangent's short series. -/
theorem ang_near {q : C2} {t : Rat} (hq : fC q) (b1 : A (cv q).re < p2 1023) (b2 : A (cv q).im < p2 1023) (hT : Tan (cv q) t) (ht : A t ≤ 28 / 100) : fN .f32 (angF q.2 q.1) = true ∧ A (kapR * vN .f32 (angF q.2 q.1) - T5 t) ≤ 65 / 1000000 := by
  obtain ⟨x, y⟩ := q
  have fy : fN .f32 y = true := hq.2
  have fx : fN .f32 x = true := hq.1
  have hx : 0 < vN .f32 x := hT.1
  have hty : t * vN .f32 x = vN .f32 y := hT.2
  have hxl : A (vN .f32 x) < p2 1023 := b1
  have hyl : A (vN .f32 y) < p2 1023 := b2
  obtain ⟨w1, w2⟩ := wd_ok fy hyl
  obtain ⟨w3, w4⟩ := wd_ok fx hxl
  obtain ⟨a1, a2⟩ := absW_val w1
  obtain ⟨c1, c2⟩ := absW_val w3
  rw [w2] at a2
  rw [w4, A_of_nonneg (Rat.le_of_lt hx)] at c2
  have hA := angA_of fy fx hyl hxl (.inl (by grind))
  have aok := angF_ok fy fx hyl hxl
  have g0 : fN .f32 0 = true := by decide +kernel
  have g1 : fN .f64 0 = true := by decide +kernel
  have v1 : vN .f64 0 = 0 := by decide +kernel
  have cx : fcmp .eql .f32 x 0 = false := by rw [cmp_eql fx g0, vN0]; simp; grind
  have lx : fcmp .lss .f64 (wd x) 0 = false := by rw [cmp_lss w3 g1, w4, v1]; simp; grind
  have At : A t * vN .f32 x = A (vN .f32 y) := by rw [← hty, A_mul, A_of_nonneg (Rat.le_of_lt hx)]
  have le1 : A (vN .f32 y) ≤ vN .f32 x := by
    have := Rat.mul_le_mul_of_nonneg_right ht (Rat.le_of_lt hx)
    grind
  have hg : fcmp .gtr .f64 (absW (wd y)) (absW (wd x)) = false := by rw [cmp_gtr a1 c1, a2, c2]; simp; grind
  have ly := cmp_lss w1 g1
  rw [w2, v1] at ly
  have eF : angF y x = nw (angW (wd y) (wd x)) := by unfold angF; rw [cx, Bool.false_and, if_neg Bool.false_ne_true]
  have eW : angW (wd y) (wd x) = angN (fcmp .lss .f64 (wd y) 0) (angM (tI (angT (absW (wd y)) (absW (wd x))) 3)) := by unfold angW; rw [lx, hg]; unfold angX angG; rw [if_neg Bool.false_ne_true, if_neg Bool.false_ne_true]
  have eT : angT (absW (wd y)) (absW (wd x)) = fop .quo .f64 (absW (wd y)) (absW (wd x)) := by unfold angT; rw [hg, if_neg Bool.false_ne_true]
  have e0s : e0 ≤ 1 / 1000000000000 := by decide +kernel
  have tI0 : Iv (angT (absW (wd y)) (absW (wd x))) 0 (281 / 1000) := by
    rw [eT]
    exact (quo_iv (T := 28 / 100) a1 c1 (by rw [a2]; exact A_nonneg _) (by rw [c2]; exact hx) (by rw [a2, c2, ← At]; exact Rat.mul_le_mul_of_nonneg_right ht (Rat.le_of_lt hx)) (by decide +kernel)).mono Rat.le_refl (by decide +kernel)
  have tv : A (vN .f64 (angT (absW (wd y)) (absW (wd x))) - A t) ≤ e0 := by
    rw [eT]
    exact ve_quo a1 c1 (by rw [c2]; grind) (by rw [a2, c2]; exact At) (Rat.le_trans (by rw [A_of_nonneg (A_nonneg t)]; exact ht) (by decide +kernel))
  generalize angT (absW (wd y)) (absW (wd x)) = T0 at *
  obtain ⟨th, ti⟩ := three_half tI0
  obtain ⟨mf, mn'⟩ := angM_near ti
  have tl := t5_lip (s := vN .f64 T0) (t := A t) (Rat.le_trans (iv_A tI0) (by decide +kernel)) (by rw [A_of_nonneg (A_nonneg t)]; exact Rat.le_trans ht (by decide +kernel)) tv
  generalize hM : angM (tI T0 3) = M at *
  have main : A (kapR * vN .f64 M - T5 (A t)) ≤ 62 / 1000000 := by
    have s := abs_a (abs_a mn' th) tl
    rw [show kapR * vN .f64 M - 8 * T5 (vN .f64 (tI T0 3)) + (8 * T5 (vN .f64 (tI T0 3)) - T5 (vN .f64 T0)) + (T5 (vN .f64 T0) - T5 (A t)) = kapR * vN .f64 M - T5 (A t) by grind] at s
    exact Rat.le_trans s (by decide +kernel)
  have wf : fN .f64 (angW (wd y) (wd x)) = true := (angW_iv hA).1
  have wv : A (kapR * vN .f64 (angW (wd y) (wd x)) - T5 t) ≤ 62 / 1000000 := by
    rw [eW, ly]
    by_cases hy : vN .f32 y < 0
    · simp only [hy, decide_true]
      show A (kapR * vN .f64 (Op.negFloat .f64 M) - T5 t) ≤ _
      rw [(neg_val mf).2]
      have tn : t < 0 := by
        refine Rat.not_le.1 (fun h => ?_)
        have := Rat.mul_nonneg h (Rat.le_of_lt hx)
        grind
      have eA : A t = -t := by unfold A; rw [if_neg (by grind)]
      rw [eA, T5_neg] at main
      rw [show kapR * -vN .f64 M - T5 t = -(kapR * vN .f64 M - -T5 t) by grind, A_neg]
      exact main
    · simp only [hy, decide_false]
      show A (kapR * vN .f64 M - T5 t) ≤ _
      have tn : 0 ≤ t := lcancel_le hx (by rw [hty]; grind)
      rw [A_of_nonneg tn] at main
      exact main
  refine ⟨aok.1, ?_⟩
  show A (kapR * vN .f32 (angF y x) - T5 t) ≤ _
  have wb : A (vN .f64 (angW (wd y) (wd x))) ≤ 1 := by
    obtain ⟨_, i1, i2⟩ := angW_iv hA
    exact A_le.2 ⟨by grind, by grind⟩
  rw [eF]
  generalize angW (wd y) (wd x) = W at *
  obtain ⟨_, R⟩ := nw_ok wf (lt_of_p2 (a := 6) (Rat.le_trans wb (by decide +kernel)) (by decide))
  have r1 : A (vN .f32 (nw W) - vN .f64 W) ≤ p2 (-24) * A (vN .f64 W) + p2 (-150) := R.2.1
  have r2 : A (vN .f32 (nw W) - vN .f64 W) ≤ 1 / 10000000 := by
    have h2 := Rat.mul_le_mul_of_nonneg_left wb (Rat.le_of_lt (p2_pos (-24)))
    have h3 : p2 (-24) * 1 + p2 (-150) ≤ 1 / 10000000 := by decide +kernel
    exact Rat.le_trans r1 (Rat.le_trans (by generalize p2 (-24) = u at *; generalize p2 (-150) = v at *; clear h3; grind) h3)
  have kk : A (kapR * (vN .f32 (nw W) - vN .f64 W)) ≤ 7 * (1 / 10000000) := by
    rw [A_mul, A_of_nonneg (show 0 ≤ kapR by decide +kernel)]
    exact mul_le (by decide +kernel) r2 (A_nonneg _) (by decide +kernel)
  have s := abs_a kk wv
  rw [show kapR * (vN .f32 (nw W) - vN .f64 W) + (kapR * vN .f64 W - T5 t) = kapR * vN .f32 (nw W) - T5 t by grind] at s
  exact Rat.le_trans s (by decide +kernel)
end Go.Proofs.Ytklonahkacikbaa

/- One step around a box, plainly: the quotient of two values has nearly the tangent of the exact ones; tangents of products over the roots. Conditions: values that are told, points away from the roots. -/
namespace Go.Proofs.Ytklonahkacikbaa
open Go
set_option linter.unusedSimpArgs false
set_option linter.unusedVariables false

/-- The opposite across the real line. -/
def cj (z : Q2) : Q2 := ⟨z.re, -z.im⟩
theorem cj_mul (x y : Q2) : cj (x * y) = cj x * cj y := q2e (by simp [cj]; grind) (by simp [cj]; grind)
theorem sqN_cj (x : Q2) : sqN (cj x) = sqN x := by unfold sqN cj; grind
theorem mul_cj (x : Q2) : x * cj x = sc (sqN x) one2 := q2e (by simp [cj, one2, sqN]; grind) (by simp [cj, one2, sqN]; grind)
theorem sq_grow {x e : Q2} {k : Rat} (hk : 0 < k) (he : sqN e ≤ k * k * sqN x) : sqN (x + e) ≤ (1 + k) * (1 + k) * sqN x := by
  have d1 := sq_nonneg (k * x.re - e.re)
  have d2 := sq_nonneg (k * x.im - e.im)
  have f : sqN (x + e) = sqN x + sqN e + 2 * (x.re * e.re + x.im * e.im) := by unfold sqN; simp; grind
  have dot : k * (2 * (x.re * e.re + x.im * e.im)) ≤ k * (2 * (k * sqN x)) := by unfold sqN at *; grind
  have dot2 : 2 * (x.re * e.re + x.im * e.im) ≤ 2 * (k * sqN x) := lcancel_le hk (by grind)
  rw [f]
  grind
/-- The exact product of a step. -/
def stW (X : Nat → Int × Int) (n : Nat) (z z' : Q2) : Q2 := pv X n z' * cj (pv X n z)
theorem stW_succ (X : Nat → Int × Int) (n : Nat) (z z' : Q2) : stW X (n + 1) z z' = (gq X z' n * cj (gq X z n)) * stW X n z z' := by
  show gq X z' n * pv X n z' * cj (gq X z n * pv X n z) = _
  rw [cj_mul]
  unfold stW
  generalize gq X z' n = a
  generalize pv X n z' = b
  generalize cj (gq X z n) = c
  generalize cj (pv X n z) = d
  exact q2e (by simp; grind) (by simp; grind)
def cB (n : Nat) : Rat := match n with | 0 => 0 | 1 => 668 / 10000 | 2 => 1343 / 10000 | 3 => 2030 / 10000 | _ => 2737 / 10000
def eB : Nat → Rat | 0 => 0 | n + 1 => eB n + ErrT (cB (n + 1)) (668 / 10000 * cB n)
theorem cB_tab : ∀ n, n < 4 → 668 / 10000 * cB n < 1 ∧ 668 / 10000 + cB n ≤ cB (n + 1) * (1 - 668 / 10000 * cB n) ∧ eB (n + 1) ≤ 4 / 100000 ∧ cB (n + 1) ≤ 275 / 1000 := by decide +kernel
/-- The tangent of a product over the roots. -/
theorem turn_prod {X : Nat → Int × Int} {z z' : Q2} {t : Nat → Rat} (n : Nat) (h4 : n ≤ 4) (h : ∀ j, j < n → Tan (gq X z' j * cj (gq X z j)) (t j) ∧ A (t j) ≤ 668 / 10000) :
    ∃ C, Tan (stW X n z z') C ∧ A C ≤ cB n ∧ A (T5 C - sumN (fun j => T5 (t j)) n) ≤ eB n := by
  induction n with
  | zero =>
    refine ⟨0, ?_, by decide +kernel, by show A (T5 0 - 0) ≤ 0; decide +kernel⟩
    have e : stW X 0 z z' = one2 := by show one2 * cj one2 = one2; exact q2e (by decide +kernel) (by decide +kernel)
    rw [e]
    exact ⟨by decide +kernel, by decide +kernel⟩
  | succ n ih =>
    obtain ⟨C, h1, h2, h3⟩ := ih (by omega) (fun j hj => h j (by omega))
    obtain ⟨t1, t2⟩ := h n (by omega)
    obtain ⟨b1, b2, b3, b4⟩ := cB_tab n (by omega)
    have pm := abs_m t2 h2
    have p1 : t n * C < 1 := by have := le_A (t n * C); grind
    obtain ⟨c, hc⟩ := tan_ex p1
    have cb := tan_le hc t2 h2 b1 b2
    refine ⟨c, ?_, cb, ?_⟩
    · rw [stW_succ]
      exact t1.mul h1 p1 hc
    · have s := t5_sum hc rfl cb pm
      have s2 := abs_s h3 s
      rw [show T5 C - sumN (fun j => T5 (t j)) n - (T5 (t n) + T5 C - T5 c) = T5 c - sumN (fun j => T5 (t j)) (n + 1) by simp only [sumN]; grind] at s2
      exact s2
/-- The ratio of two neighbouring values. -/
theorem ratio {X : Nat → Int × Int} {z z' : Q2} {r k d : Rat} (hk : 0 < k) (hd : N (z' - z) ≤ d) (hdr : d ≤ k * r) (n : Nat) (h : ∀ j, j < n → Lb (gq X z j) r) : sqN (pv X n z') ≤ ((1 + k) * (1 + k)) ^ n * sqN (pv X n z) := by
  induction n with
  | zero => show sqN one2 ≤ ((1 + k) * (1 + k)) ^ 0 * sqN one2; rw [Rat.pow_zero, Rat.one_mul]; exact Rat.le_refl
  | succ n ih =>
    have i := ih (fun j hj => h j (by omega))
    have l := h n (by omega)
    have g : sqN (gq X z' n) ≤ (1 + k) * (1 + k) * sqN (gq X z n) := by
      have e : gq X z' n = gq X z n + (z' - z) := by unfold gq; exact q2e (by simp; grind) (by simp; grind)
      rw [e]
      refine sq_grow hk ?_
      have s1 := sqN_le (z' - z)
      have s2 := mul_le hd hd (N_nonneg _) (Rat.le_trans (N_nonneg _) hd)
      have s3 := mul_le hdr hdr (Rat.le_trans (N_nonneg _) hd) (Rat.mul_nonneg (Rat.le_of_lt hk) l.1)
      have s4 := Rat.mul_le_mul_of_nonneg_left l.2 (Rat.mul_nonneg (Rat.le_of_lt hk) (Rat.le_of_lt hk))
      grind
    have kk : 0 ≤ (1 + k) * (1 + k) := Rat.mul_nonneg (by grind) (by grind)
    have m := mul_le g i (sqN_nonneg _) (Rat.mul_nonneg kk (sqN_nonneg _))
    show sqN (gq X z' n * pv X n z') ≤ _
    rw [sqN_mul]
    refine Rat.le_trans m ?_
    have e2 : pv X (n + 1) z = gq X z n * pv X n z := rfl
    rw [e2, sqN_mul, Rat.pow_succ]
    grind
/-- A step of the walk: the quotient of the two values. -/
theorem step_core {P Q : Q2} {a b : C2} {ρ C : Rat} (fa : fC a) (fb : fC b) (h0 : 1 ≤ ρ) (na : N (cv a - P) ≤ 41 / 1000000 * ρ) (nb : N (cv b - Q) ≤ 41 / 1000000 * ρ) (lP : Lb P ρ) (lQ : Lb Q ρ) (r1 : sqN Q ≤ 17 / 10 * sqN P) (r2 : sqN P ≤ 17 / 10 * sqN Q)
    (la : 1 / 512 ≤ N (cv a)) (ua : N (cv a) ≤ p2 40) (ub : N (cv b) ≤ p2 40) (hT : Tan (Q * cj P) C) (hC : A C ≤ 275 / 1000) :
    ∃ c, Tan (cv (quoC b a)) c ∧ A c ≤ 28 / 100 ∧ A (T5 c - T5 C) ≤ 216 / 1000000 := by
  obtain ⟨q, hq⟩ := quo_ex (cv b) (s := cv a) (by grind)
  have nq := quo_small hq la ub
  obtain ⟨f, n1, n2⟩ := quoC_near fb fa hq (lt_of_p2 ub (by decide)) (lt_of_p2 ua (by decide)) (Rat.le_trans (by decide +kernel) la) (lt_of_p2 nq (by decide))
  have ρ2 : 0 ≤ ρ * ρ := Rat.mul_nonneg lP.1 lP.1
  have lp2 := lP.2
  have lq2 := lQ.2
  have ρ1 : (1 : Rat) ≤ ρ * ρ := by have := mul_le h0 h0 (by decide +kernel) (by grind); grind
  -- the errors' squares
  have ea : sqN (cv a - P) ≤ 41 / 1000000 * ρ * (41 / 1000000 * ρ) := Rat.le_trans (sqN_le _) (mul_le na na (N_nonneg _) (Rat.le_trans (N_nonneg _) na))
  have eb : sqN (cv b - Q) ≤ 41 / 1000000 * ρ * (41 / 1000000 * ρ) := Rat.le_trans (sqN_le _) (mul_le nb nb (N_nonneg _) (Rat.le_trans (N_nonneg _) nb))
  -- the exact quotient of the words' values is moderate
  have sb : sqN (cv b) ≤ (1 + 41 / 1000000) * (1 + 41 / 1000000) * sqN Q := by
    have := sq_grow (x := Q) (e := cv b - Q) (k := 41 / 1000000) (by decide +kernel) (by grind)
    rwa [show Q + (cv b - Q) = cv b from q2e (by simp; grind) (by simp; grind)] at this
  have par : sqN P ≤ 2 * sqN (cv a) + 2 * sqN (cv a - P) := by
    have d1 := sq_nonneg ((cv a).re + ((cv a - P)).re)
    have d2 := sq_nonneg ((cv a).im + ((cv a - P)).im)
    simp only [re_sub, im_sub] at d1 d2
    unfold sqN
    simp only [re_sub, im_sub]
    grind
  have sa : sqN P ≤ (1 + 62 / 1000000) * (1 + 62 / 1000000) * sqN (cv a) := by
    have := sq_grow (x := cv a) (e := P - cv a) (k := 62 / 1000000) (by decide +kernel) (by
      have e : sqN (P - cv a) = sqN (cv a - P) := by unfold sqN; simp; grind
      rw [e]
      have ea2 : sqN (cv a - P) ≤ 1681 / 1000000000000 * (ρ * ρ) := by
        rw [show 41 / 1000000 * ρ * (41 / 1000000 * ρ) = 1681 / 1000000000000 * (ρ * ρ) by grind] at ea
        exact ea
      clear ea eb na nb sb r1 r2 la ua ub hT hC hq nq n1 n2 lq2 h0
      generalize sqN (cv a - P) = x1 at *
      generalize sqN (cv a) = x2 at *
      generalize sqN P = x3 at *
      generalize ρ * ρ = x4 at *
      grind)
    rwa [show cv a + (P - cv a) = P from q2e (by simp; grind) (by simp; grind)] at this
  have qa : Ab q (131 / 100) := by
    refine ⟨by decide +kernel, ?_⟩
    have e : sqN q * sqN (cv a) = sqN (cv b) := by rw [← sqN_mul, hq]
    have pos : 0 < sqN (cv a) := by
      have p0 : 0 < sqN P := by grind
      refine Rat.not_le.1 (fun h => ?_)
      have z : sqN (cv a) = 0 := Rat.le_antisymm h (sqN_nonneg _)
      rw [z, Rat.mul_zero] at sa
      grind
    refine lcancel_le pos ?_
    rw [e]
    grind
  have qN := qa.N
  have dq : N (cv (quoC b a) - q) ≤ 2 / 10000000 := by
    have m := Rat.mul_le_mul_of_nonneg_left qN (Rat.le_of_lt u1_pos)
    have k : u1 * (3 / 2 * (131 / 100)) + e1 ≤ 2 / 10000000 := by decide +kernel
    exact Rat.le_trans n2 (Rat.le_trans (by generalize u1 = u at *; generalize e1 = v at *; clear k; grind) k)
  have NQ : 0 < N Q := by have := lQ.N; grind
  obtain ⟨δ1, h1⟩ := quo_ex ((cv (quoC b a) - q) * P) NQ
  obtain ⟨δ2, h2⟩ := quo_ex (q * (P - cv a) + (cv b - Q)) NQ
  have pQ : 0 < sqN Q := by grind
  have a1 : Ab δ1 (3 / 10000000) := by
    refine ⟨by decide +kernel, ?_⟩
    have e : sqN δ1 * sqN Q = sqN (cv (quoC b a) - q) * sqN P := by rw [← sqN_mul, h1, sqN_mul]
    have s1 := Rat.le_trans (sqN_le _) (mul_le dq dq (N_nonneg _) (by decide +kernel))
    have s2 := mul_le s1 r2 (sqN_nonneg _) (by decide +kernel)
    refine lcancel_le pQ ?_
    rw [e]
    grind
  have a2 : Ab δ2 (95 / 1000000) := by
    refine ⟨by decide +kernel, ?_⟩
    have e : sqN δ2 * sqN Q = sqN (q * (P - cv a) + (cv b - Q)) := by rw [← sqN_mul, h2]
    have e' : sqN (P - cv a) = sqN (cv a - P) := by unfold sqN; simp; grind
    have b1 : Ab (P - cv a) (41 / 1000000 * ρ) := ⟨by grind, by rw [e']; exact ea⟩
    have b2 : Ab (cv b - Q) (41 / 1000000 * ρ) := ⟨by grind, eb⟩
    have b3 := ((qa.mul b1).add b2).2
    refine lcancel_le pQ ?_
    rw [e]
    grind
  have aδ := a1.add a2
  have key : (one2 + (δ1 + δ2)) * Q = cv (quoC b a) * P := by
    have e : (one2 + (δ1 + δ2)) * Q = Q + (δ1 * Q + δ2 * Q) := q2e (by simp [one2]; grind) (by simp [one2]; grind)
    rw [e, h1, h2]
    have e2 : Q + ((cv (quoC b a) - q) * P + (q * (P - cv a) + (cv b - Q))) = cv (quoC b a) * P - q * cv a + cv b := by
      generalize cv (quoC b a) = x
      generalize cv a = y
      generalize cv b = w
      exact q2e (by simp; grind) (by simp; grind)
    rw [e2, hq]
    exact q2e (by simp; grind) (by simp; grind)
  generalize δ1 + δ2 = δ at *
  have dre : A δ.re ≤ 1 / 10000 := by
    have s := aδ.2
    have i := sq_nonneg δ.im
    refine sq_le_sq (by decide +kernel) ?_
    rw [← sq_A]
    unfold sqN at s
    grind
  have dim : A δ.im ≤ 1 / 10000 := by
    have s := aδ.2
    have i := sq_nonneg δ.re
    refine sq_le_sq (by decide +kernel) ?_
    rw [← sq_A]
    unfold sqN at s
    grind
  have re1 : (one2 + δ).re = 1 + δ.re := rfl
  have im1 : (one2 + δ).im = 0 + δ.im := rfl
  have dl := le_A δ.re
  have rp : (9998 : Rat) / 10000 ≤ (one2 + δ).re := by rw [re1]; grind
  obtain ⟨s, hs⟩ : ∃ s : Rat, s * (one2 + δ).re = (one2 + δ).im := ⟨(one2 + δ).im * ((one2 + δ).re)⁻¹, by rw [Rat.mul_assoc, Rat.inv_mul_cancel _ (by grind), Rat.mul_one]⟩
  have sA : A s ≤ 10003 / 100000000 := by
    have e : A s * A ((one2 + δ).re) = A δ.im := by rw [← A_mul, hs, im1]; congr 1; grind
    rw [A_of_nonneg (show 0 ≤ (one2 + δ).re by grind)] at e
    have := Rat.mul_le_mul_of_nonneg_left rp (A_nonneg s)
    grind
  have T1 : Tan (one2 + δ) s := ⟨by grind, hs⟩
  have sC := abs_m sA hC
  have sC1 := le_A (s * C)
  have p1 : s * C < 1 := by grind
  obtain ⟨c, hc⟩ := tan_ex p1
  have T2 := T1.mul hT p1 hc
  have e3 : (one2 + δ) * (Q * cj P) = sc (sqN P) (cv (quoC b a)) := by
    have e : (one2 + δ) * (Q * cj P) = (one2 + δ) * Q * cj P := q2e (by simp; grind) (by simp; grind)
    rw [e, key]
    have e' : cv (quoC b a) * P * cj P = cv (quoC b a) * (P * cj P) := q2e (by simp; grind) (by simp; grind)
    rw [e', mul_cj]
    generalize cv (quoC b a) = x
    exact q2e (by simp [one2]; grind) (by simp [one2]; grind)
  rw [e3] at T2
  obtain ⟨u1', u2'⟩ := T2
  have pP : 0 < sqN P := by grind
  simp only [re_sc, im_sc] at u1' u2'
  have T3 : Tan (cv (quoC b a)) c := by
    refine ⟨?_, ?_⟩
    · refine Rat.not_le.1 (fun h => ?_)
      have := Rat.mul_le_mul_of_nonneg_left h (Rat.le_of_lt pP)
      grind
    · have l1 := lcancel_le (a := c * (cv (quoC b a)).re) (b := (cv (quoC b a)).im) pP (by grind)
      have l2 := lcancel_le (a := (cv (quoC b a)).im) (b := c * (cv (quoC b a)).re) pP (by grind)
      exact Rat.le_antisymm l1 l2
  have cC : A (c - C) ≤ 108 / 1000000 := by
    have e : (c - C) * (1 - s * C) = s * (1 + C * C) := by grind
    have CC := abs_m hC hC
    have e1' : A (c - C) * A (1 - s * C) ≤ 10003 / 100000000 * (1 + 275 / 1000 * (275 / 1000)) := by
      rw [← A_mul, e]
      exact abs_m sA (abs_a (show A 1 ≤ 1 by decide +kernel) CC)
    have lo : (9999 : Rat) / 10000 ≤ A (1 - s * C) := by have := le_A (1 - s * C); grind
    have := Rat.mul_le_mul_of_nonneg_left lo (A_nonneg (c - C))
    grind
  have cA : A c ≤ 28 / 100 := by
    have := abs_a cC hC
    rw [show c - C + C = c by grind] at this
    exact Rat.le_trans this (by decide +kernel)
  refine ⟨c, T3, cA, ?_⟩
  have := t5_lip (s := c) (t := C) (Rat.le_trans cA (by decide +kernel)) (Rat.le_trans hC (by decide +kernel)) cC
  exact Rat.le_trans this (by decide +kernel)
end Go.Proofs.Ytklonahkacikbaa
